/- Abs: what one table says, a greater one says. -/
import Derived.Test.YtddpdpjpfgnhmaaGreatG31x
set_option linter.unusedSimpArgs false
set_option linter.unusedVariables false
set_option maxHeartbeats 4000000
namespace Go.Abs
variable {tbl tbl' : FuncId → Option AFun} {call call' : CallF} {lp lp' : LoopF}
def TSub (tbl tbl' : FuncId → Option AFun) : Prop := ∀ f x, tbl f = some x → tbl' f = some x
theorem stepCall_sub (h : TSub tbl tbl') : CLe (stepCall tbl call lp) (stepCall tbl' call lp) := by
 intro fv args H r hr
 unfold stepCall at hr ⊢
 split at hr
 ·rename_i f first captured
  cases ht : tbl f with
  | none => rw [ht] at hr; simp at hr
  | some x =>
    rw [ht] at hr
    rw [h f x ht]
    exact hr
 ·exact hr
 ·exact hr
theorem callK_sub (h : TSub tbl tbl') : ∀ k, CLe (callK tbl k) (callK tbl' k)
 | 0 => fun fv args H r hr => by simp [callK] at hr
 | k + 1 => fun fv args H r hr => by
   simp only [callK] at hr ⊢
   exact stepCall_sub h _ _ _ _ (stepCall_mono (callK_sub h k) (loops_le (Nat.le_refl k)) _ _ _ _ hr)
theorem zt1 (h : TSub tbl tbl') {fv : AV} {args : List AV} {H : Heap} {r : AV × Heap} (hc : callW tbl fv args H = some r) : callW tbl' fv args H = some r := by
 obtain ⟨k, hk⟩ := z14.1 hc
 exact z14.2 ⟨k, callK_sub h k _ _ _ _ hk⟩
end Go.Abs
