/- For every plan and all relations of bulk at most 1048576, the bindings and the heads that it makes are those of the definition (the law ExecRuns returns true). -/
import Derived.Test.YtddpdpjpfgnhmaaGreatG43x
import Derived.Test.YtddpdpjpfgnhmaaGreatG45x
import Derived.Test.YtddpdpjpfgnhmaaGreatRows
import Derived.ProofKit
import Derived.OpenShut
import Derived.JoinedCond
set_option linter.unusedSimpArgs false
set_option linter.unusedVariables false
set_option maxHeartbeats 4000000
namespace Go.Proofs.YtddpdpjpfgnhmaaGreat
open Go.ChangeShapes Go.WideShapes Go.ChangeAt Go.RowKit Go.Abs
theorem own:ownKnob Tryz.prog.godebug=none:=by kernel_rfl
theorem laidOut:laidOutB Tryz.prog=true:=by kernel_rfl
theorem part_le {H:Type} {d:DataW H}:∀ {l:List (DataW H)},d∈l→Rows.uptoBulk d≤Rows.uptoBulkAll l
 | [],h=>by cases h
 | x::r,h=>by
   simp only [Rows.uptoBulkAll]
   cases List.mem_cons.1 h with
   | inl e=>subst e; omega
   | inr e=>have:=part_le e; omega
theorem one_le {H:Type} (d:DataW H):1≤Rows.uptoBulk d:=by
 cases d with
 | lit l=>cases l <;> simp [Rows.uptoBulk]
 | nil=>simp [Rows.uptoBulk]
 | ptr d=>simp [Rows.uptoBulk]
 | slice elems spare=>simp [Rows.uptoBulk]
 | agg parts=>simp [Rows.uptoBulk]
 | iface t d=>simp [Rows.uptoBulk]
 | map entries=>simp [Rows.uptoBulk]
 | held h=>simp [Rows.uptoBulk]
theorem len_le {H:Type}:∀ (l:List (DataW H)),l.length≤Rows.uptoBulkAll l
 | []=>by simp [Rows.uptoBulkAll]
 | x::r=>by have:=one_le x; have:=len_le r; simp only [Rows.uptoBulkAll,List.length_cons]; omega
theorem bulky (H:Type):Bulky (Rows.uptoBulk (H:=H)) where
 str bytes:=by simp [Rows.uptoBulk]
 sl elems spare:=by
  have h1:=len_le elems
  refine ⟨by simp only [Rows.uptoBulk]; omega,fun d hd=>?_⟩
  have:=part_le hd
  simp only [Rows.uptoBulk]; omega
 ag parts d hd:=by
  have:=part_le hd
  simp only [Rows.uptoBulk]; omega
theorem bounded {H:Type} {ds gs:List (DataW H)} (hk:Rows.uptoSmall H (ds++gs)=true):∀ d∈ds,Rows.uptoBulk d≤Plan.NB:=fun d hd=>by
 have h:Rows.uptoBulkAll (ds++gs)≤1048576:=of_decide_eq_true hk
 have:=part_le (List.mem_append.2 (.inl hd):d∈ds++gs)
 show Rows.uptoBulk d≤1048576
 omega
theorem tyPlan:tyB Tryz.prog zsw 26=true:=by kernel_rfl
theorem tyRels:tyB Tryz.prog Plan.z531 27=true:=by kernel_rfl
theorem tyRel:tyB Tryz.prog Plan.relTy 28=true:=by kernel_rfl
theorem params3:Tryz.f3.params.toList=[26,27,27,28]:=by kernel_rfl
theorem execRuns_law:zcx Plan.NB Tryz.prog Plan.tblE 3 Tryz.f3.params.toList:=by
 rw [params3]
 intro xs hxs hsm
 cases hxs with
 | cons h1 hs=>
   cases hs with
   | cons h2 hs=>
     cases hs with
     | cons h3 hs=>
       cases hs with
       | cons h4 hs=>
         cases hs
         simp only [AV.smalls,Bool.and_eq_true,Bool.and_true] at hsm
         obtain ⟨p,hp,hpok⟩:=Plan.zr51 tyPlan h1 hsm.1
         obtain ⟨old,ho,hook⟩:=Plan.z931 tyRels h2 hsm.2.1
         obtain ⟨now,hn,hnok⟩:=Plan.z931 tyRels h3 hsm.2.2.1
         obtain ⟨d,hd,hdok⟩:=Plan.zda1 tyRel h4 hsm.2.2.2
         obtain ⟨w,hw,rfl⟩:=z76 (tbl:=Plan.tblE) (f:=Plan.zek) (af:=Plan.zb3) rfl rfl (R:=fun a=>∃ v w x y,a=[v,w,x,y]∧Enc.Is v p∧Enc.Is w old∧Enc.Is x now∧Enc.Is y d) (S:=fun w=>w=.bool true)
          (by rintro a ⟨v,w,x,y,rfl,g1,g2,g3,g4⟩; simp [Enc.plain g1,Enc.plain g2,Enc.plain g3,Enc.plain g4]) (by rintro a ⟨v,w,x,y,rfl,g1,g2,g3,g4⟩; exact ⟨v.lend,w.lend,x.lend,y.lend,rfl,Enc.lend g1,Enc.lend g2,Enc.lend g3,Enc.lend g4⟩) (by rintro w rfl; rfl)
          (by rintro a ⟨v,w,x,y,rfl,g1,g2,g3,g4⟩; exact Plan.zd31 p old now d v w x y g1 g2 g3 g4 hpok hook hnok hdok) _ [] ⟨_,_,_,_,rfl,hp,ho,hn,hd⟩
         obtain ⟨k,hk⟩:=zj4.1 hw
         exact ⟨k,[],hk⟩
set_option maxRecDepth 100000 in
theorem execRuns_contract (H:Type) (enc:TypeId×Value→H) (W:World) (base:Nat) (args:Array Value) (ds gs:List (DataW H)) (before:List MemPlace)
 (hval:∀ (j:Nat) t v,Tryz.f3.params[j]? = some t→args[j]? = some v→Value.okWide Tryz.prog W .any base t v)
 (hW:DataW.Whole enc Tryz.prog Tryz.f3.params.toList Rows.execRunsSpec.vars false W args.toList ds gs before) (hk:Rows.uptoSmall H (ds++gs)=true) :
 Calls Tryz.prog 3 args W fun e W'=>∃ v,e=.returned v∧Rows.execRunsSpec.post enc Tryz.prog Tryz.f3 false true false false W args v W':=by
 have hN:=bounded hk
 refine zhk (P:=Tryz.prog) (N:=Plan.NB) (bk:=Rows.uptoBulk) (bulky H) Plan.zka1 laidOut rfl (tb:=4) (k:=12) (by kernel_rfl) Tryz.underlying4 (by kernel_rfl) (by kernel_rfl) (fun ds hl=>?_) execRuns_law hval hW hN
 have hl2:ds.length=4:=hl.trans (by kernel_rfl)
 match ds,hl2 with
 | [d1,d2,d3,d4],_=>exact ⟨rfl,rfl,rfl⟩
set_option maxRecDepth 100000 in
theorem execRuns_lifted (os:Os) (started:os.Started) (H:Type) (enc:TypeId×Value→H) (F:Stop.Interp) :
 ReturnsInHanded {} Tryz.checked os 3 .any ((Rows.OpenSpec.upto Rows.execRunsSpec).pre6 enc Tryz.prog Tryz.f3 Rows.execRunsUptoRow.domain false) (((Rows.OpenSpec.upto Rows.execRunsSpec).at F).post enc Tryz.prog Tryz.f3 false true false false):=by
 refine returnsInHanded_of_cond (C:=Tryz.checked) (s:=Rows.OpenSpec.upto Rows.execRunsSpec) (k:=Rows.uptoSmall) rfl own started (by kernel_rfl) Tryz.func3
  (OpenSpec.witness (enc:=enc) (C:=Tryz.checked) (s:=Rows.OpenSpec.upto Rows.execRunsSpec) (k:=Rows.uptoSmall) rfl false ⟨#[],#[.agg #[.slice none 0 0, .slice none 0 0, .string .empty, .slice none 0 0], .slice none 0 0, .slice none 0 0, .slice none 0 0],[]⟩ 8 (by kernel_rfl) (by kernel_rfl) (by kernel_rfl)
   (x:=([.agg [.nil, .nil, .lit (.string []), .nil], .nil, .nil, .nil],[],[])) (by kernel_rfl) rfl (by kernel_rfl)) ?_
 intro W base args ds gs before hval hW _ hk _
 exact execRuns_contract H enc W base args ds gs before hval hW hk
theorem execRuns_holds:Rows.ExecRunsUptoSaid:=
 OpenClaim.holds_of_cond 3 Tryz.f3 rfl rfl rfl rfl rfl rfl rfl ⟨rfl,rfl,rfl,rfl,rfl⟩ rfl rfl rfl rfl rfl (by kernel_rfl) Tryz.func3 (by kernel_rfl)
  (of_decide_eq_true (by kernel_rfl)) (by unfold Func.isWrapper; first | (rw [if_pos (by decide +kernel)]; kernel_rfl) | (rw [if_neg (by decide +kernel)]; exact ⟨rfl,rfl⟩))
  (fun os started H enc _ F=>execRuns_lifted os started H enc F)
#print axioms execRuns_holds
end Go.Proofs.YtddpdpjpfgnhmaaGreat
