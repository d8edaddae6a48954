/- Abs: what one table says, a greater one says. -/
import Derived.Test.YtddpdpjpfgnhmaaGreatG31x
set_option linter.unusedSimpArgs false
set_option linter.unusedVariables false
set_option maxHeartbeats 4000000
namespace Go.Abs
variable {tbl tbl':FuncId→Option AFun} {call call':CallF} {lp lp':LoopF}
def TSub (tbl tbl':FuncId→Option AFun):Prop:=∀ f x,tbl f=some x→tbl' f=some x
theorem zvs (h:TSub tbl tbl'):CLe (z15 tbl call lp) (z15 tbl' call lp):=by
 intro fv args H r hr
 unfold z15 at hr ⊢
 split at hr
 ·rename_i f first captured
  cases ht:tbl f with
  | none=>rw [ht] at hr; simp at hr
  | some x=>
    rw [ht] at hr
    rw [h f x ht]
    exact hr
 ·exact hr
 ·exact hr
theorem zws (h:TSub tbl tbl'):∀ k,CLe (callK tbl k) (callK tbl' k)
 | 0=>fun fv args H r hr=>by simp [callK] at hr
 | k + 1=>fun fv args H r hr=>by
   simp only [callK] at hr ⊢
   exact zvs h _ _ _ _ (zeh (zws h k) (zbq (Nat.le_refl k)) _ _ _ _ hr)
theorem zm1 (h:TSub tbl tbl') {fv:AV} {args:List AV} {H:Heap} {r:AV×Heap} (hc:callW tbl fv args H=some r):callW tbl' fv args H=some r:=by
 obtain ⟨k,hk⟩:=zj4.1 hc
 exact zj4.2 ⟨k,zws h k _ _ _ _ hk⟩
end Go.Abs
