/- Abs 29: a law's contract, out of the interpreter's answer. -/
import Derived.Test.YtddpdpjpfgnhmaaGreatG17x
import Derived.ProofKit
set_option linter.unusedSimpArgs false
set_option linter.unusedVariables false
set_option maxHeartbeats 4000000
namespace Go.Abs
open Go.RowKit Go.ChangeShapes Go.WideShapes
variable {H:Type} {enc:TypeId×Value→H} {P:Program} {W:World}
inductive zhl (P:Program):List TypeId→List AV→Prop
 | nil:zhl P [] []
 | cons {t:TypeId} {x:AV} {ts:List TypeId} {xs:List AV} (h:zgl P t x) (hs:zhl P ts xs):zhl P (t::ts) (x::xs)
theorem zch (hl:laidOutB P=true) {W':World} (hb:Below W.heap.size W W'):∀ {ts:List TypeId} {vs:List Value} {ds:List (DataW H)} {ps:List MemPlace},(ts.all fun t=>P.readableRec t && decide (t < P.types.size))=true →
 DataW.TrodAll enc P W 0 (fun _=>true) true ts vs ds ps→(∀ x∈ps,x.block < W.heap.size)→DataW.TrodAll enc P W' 0 (fun b=>decide (b < W.heap.size)) true ts vs ds ps
 | [],[],[],ps,_,h,_=>h
 | [],[],_::_,ps,_,h,_=>by simp [DataW.TrodAll] at h
 | [],_::_,ds,ps,_,h,_=>by simp [DataW.TrodAll] at h
 | t::ts,[],ds,ps,_,h,_=>by cases ds <;> simp [DataW.TrodAll] at h
 | t::ts,v::vs,[],ps,_,h,_=>by simp [DataW.TrodAll] at h
 | t::ts,v::vs,d::ds,ps,hf,h,hlt=>by
   obtain ⟨p,q,h1,h2,rfl⟩:=h
   simp only [List.all_cons,Bool.and_eq_true,decide_eq_true_eq] at hf
   exact ⟨p,q,Below.trod hl hf.1.1 hf.1.2 h1 hb (fun x hx=>hlt x (by simp [hx])),zch hl hb hf.2 h2 (fun x hx=>hlt x (by simp [hx])),rfl⟩
end Go.Abs
