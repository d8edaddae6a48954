/- Abs 32: running code by simp. -/
import Derived.Test.YtnbilkoabogllaaA29x
import Derived.Test.YtnbilkoabogllaaA31x
set_option linter.unusedSimpArgs false
set_option linter.unusedVariables false
namespace Go.Abs

@[simp] theorem get_leaf (m : Nat) : (Tm.leaf).get m = .undef := rfl

variable {call : CallF} {lp : LoopF}

theorem exec_seqN {a b : ACode} {s s1 : St} (h : exec call lp a s = some (.normal, s1)) : exec call lp (.seq a b) s = exec call lp b s1 := by simp only [exec, h]
theorem exec_seqE {a b : ACode} {s s1 : St} {e : AExit} (h : exec call lp a s = some (e, s1)) (he : e ≠ .normal) : exec call lp (.seq a b) s = some (e, s1) := by
  simp only [exec, h]
  cases e <;> first | rfl | exact absurd rfl he
theorem exec_condT {c : AOperand} {a b : ACode} {s : St} (h : evalA [] s.tm c = .bool true) : exec call lp (.cond c a b) s = exec call lp a s := by simp only [exec, h, truthA]
theorem exec_condF {c : AOperand} {a b : ACode} {s : St} (h : evalA [] s.tm c = .bool false) : exec call lp (.cond c a b) s = exec call lp b s := by simp only [exec, h, truthA]
theorem exec_regionR {ops : List AOper} {s : St} {r : RSt} (h : runOps call ops { loc := [], tm := s.tm, heap := s.heap } = some r) : exec call lp (.region ops) s = some (.normal, { s with tm := r.tm, heap := r.heap }) := by simp only [exec, h]

/-- Operations, one by one: 'v', 'H' are what it yields. -/
theorem runOps_one {o : AOper} {os : List AOper} {s : RSt} {v : AV} {H : Heap} (hw : wantedA s o = some true) (h : runAct call none s.heap (actOf (evalA s.loc s.tm) o.op) = some (v, H)) : runOps call (o :: os) s = runOps call os (s.put o v H) := by
  simp only [runOps, stepA, hw, h]
theorem runOps_skip {o : AOper} {os : List AOper} {s : RSt} (hw : wantedA s o = some false) : runOps call (o :: os) s = runOps call os (s.put o .skipped s.heap) := by
  simp only [runOps, stepA, hw]

end Go.Abs

