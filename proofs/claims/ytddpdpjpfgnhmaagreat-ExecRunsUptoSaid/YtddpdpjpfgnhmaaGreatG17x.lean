/- Abs 28: the arguments of a call, read from the world that it begins in. -/
import Derived.Test.YtddpdpjpfgnhmaaGreatG16x
import Derived.Deep.Slices
import Derived.Carry
import Derived.ChangeOld
import Derived.ChangeArms
set_option linter.unusedSimpArgs false
set_option linter.unusedVariables false
set_option maxHeartbeats 4000000
namespace Go.Abs
open Go.RowKit Go.ChangeShapes Go.Deep
inductive Shape (P:Program):TypeId→List AV→Prop
 | bool {t:TypeId} (h:P.underlying t=some .bool) (b:Bool):Shape P t [.bool b]
 | int {t:TypeId} {k:IntKind} (h:P.underlying t=some (.int k)) (n:Int) (hw:(Lit.int k n).wf=true):Shape P t [.int k n]
 | str {t:TypeId} (h:P.underlying t=some .string) (s:ByteArray) (hs:s.size≤maxLen):Shape P t [.str s]
 | fsl {t e:TypeId} (h:P.underlying t=some (.slice e)) (rows:List AV) (hl:rows.length≤maxLen) (hr:∀ r∈rows,Shape P e r.cells)
  (hk:∀ r∈rows,if ((P.underlying e).map TypeDesc.isAgg)=some true then ∃ cs,r=.agg cs else r.isCell=true):Shape P t [.fsl false rows]
 | struct {t:TypeId} {fs:Array Field} {xs:List AV} (h:P.underlying t=some (.struct fs)) (xss:List (List AV)) (hx:xs=xss.flatten) (hl:xss.length=fs.size)
  (hf:∀ (i:Nat) (f:Field) (ys:List AV),fs[i]? = some f→xss[i]? = some ys→Shape P f.type ys):Shape P t xs
def contig (P:Program):Nat→List Field→Option Nat
 | o,[]=>some o
 | o,f::fs=>if f.offset=o then contig P (o + P.cellsOf f.type) fs else none
def flatB (P:Program):Nat→TypeId→Bool
 | 0,_=>false
 | k + 1,t=>match P.underlying t with
   | some .bool | some (.int _) | some .string=>true
   | some (.slice e)=>decide (1≤P.cellsOf e) && flatB P k e
   | some (.struct fs)=>contig P 0 fs.toList == some (P.cellsOf t) && fs.toList.all (fun f=>flatB P k f.type)
   | _=>false
variable {H:Type} {enc:TypeId×Value→H} {P:Program} {w:World}
theorem Shape.cell {t:TypeId} {xs:List AV} (h:Shape P t xs):∀ x∈xs,x.isCell=true:=by
 induction h with
 | bool _ b=>intro x hx; simp at hx; subst hx; rfl
 | int _ n _=>intro x hx; simp at hx; subst hx; rfl
 | str _ s _=>intro x hx; simp at hx; subst hx; rfl
 | fsl _ rows _ _ _=>intro x hx; simp at hx; subst hx; rfl
 | struct h xss hx hl hf ih=>
   intro x hm
   subst hx
   obtain ⟨ys,h1,h2⟩:=List.mem_flatten.1 hm
   obtain ⟨i,hi⟩:=List.mem_iff_getElem?.1 h1
   have hlt:=(List.getElem?_eq_some_iff.1 hi).1
   exact ih i _ ys (Array.getElem?_eq_getElem (by omega)) hi x h2
abbrev froz (w:World):Frz:=fun _ b=>w.heap[b]?
theorem VRs.flatten {φ:Frz} {μ:List Loc}:∀ {xss:List (List AV)} {vss:List (List Value)},xss.length=vss.length→(∀ (i:Nat) (xs:List AV) (vs:List Value),xss[i]? = some xs→vss[i]? = some vs→VRs φ μ xs vs)→VRs φ μ xss.flatten vss.flatten
 | [],[],_,_=>VRs.nil
 | xs::xss,vs::vss,hl,h=>by
   simp only [List.flatten_cons]
   exact VRs.append (h 0 xs vs rfl rfl) (VRs.flatten (by simpa using hl) (fun i xs vs h1 h2=>h (i + 1) xs vs (by simpa using h1) (by simpa using h2)))
 | [],_::_,hl,_=>by simp at hl
 | _::_,[],hl,_=>by simp at hl
theorem zqo {α:Type}:∀ {fs:List Field} {o m:Nat} (cs:List α),contig P o fs=some m→cs.length=m→cs.drop o=(fs.map fun f=>(cs.drop f.offset).take (P.cellsOf f.type)).flatten
 | [],o,m,cs,h,hl=>by
   simp only [contig,Option.some.injEq] at h
   subst h
   simp only [List.map_nil,List.flatten_nil]
   exact List.drop_eq_nil_of_le (by omega)
 | f::fs,o,m,cs,h,hl=>by
   simp only [contig] at h
   split at h
   ·rename_i ho
    subst ho
    have:=zqo cs h hl
    simp only [List.map_cons,List.flatten_cons]
    rw [← this,← List.drop_drop,List.take_append_drop]
   ·simp at h
theorem zbg {α:Type} {p:Nat→α→Prop}:∀ n:Nat,(∀ i,i < n→∃ x,p i x)→∃ l:List α,l.length=n∧∀ i x,l[i]? = some x→p i x
 | 0,_=>⟨[],rfl,fun i x h=>by simp at h⟩
 | n + 1,h=>by
   obtain ⟨l,h1,h2⟩:=zbg n (fun i hi=>h i (by omega))
   obtain ⟨x,hx⟩:=h n (by omega)
   refine ⟨l++[x],by simp [h1],fun i y hy=>?_⟩
   by_cases hi:i < l.length
   ·rw [List.getElem?_append_left hi] at hy; exact h2 i y hy
   ·rw [List.getElem?_append_right (by omega)] at hy
    have hlt:=(List.getElem?_eq_some_iff.1 hy).1
    simp at hlt
    have:i=n:=by omega
    subst this
    simp [h1] at hy; subst hy; exact hx
theorem zro {base:Nat} {a:Addr} {m:Nat} {cs:List Value} (h:w.cells? base a m=some cs):cs.length=m∧∀ j,j < m→w.cell? (a.add j)=cs[j]? := by
 unfold World.cells? at h
 split at h
 ·refine ⟨by simpa using mapM_some_length h,fun j hj=>?_⟩
  exact mapM_some_get h j j (by simp [hj])
 ·simp at h
theorem z5s {a:Addr} {v:Value} (h:w.cell? a=some v):a.spot=none∧fcell (froz w) false a.block a.off=some v:=by
 unfold World.cell? at h
 split at h
 ·rename_i c t f hb
  split at h
  ·simp at h
  ·rename_i hs
   refine ⟨by simpa using hs,?_⟩
   simp only [fcell,hb]; exact h
 ·simp at h
def zgl (P:Program) (t:TypeId) (x:AV):Prop:=
 Shape P t x.cells∧(if ((P.underlying t).map TypeDesc.isAgg)=some true then ∃ cs,x=.agg cs else x.isCell=true)
end Go.Abs
