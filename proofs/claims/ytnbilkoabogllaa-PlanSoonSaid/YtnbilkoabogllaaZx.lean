/- For every rule and every number, in a plan that Make hands back each test that follows a step that must hold, with only tests between, uses a variable which that step binds (the law PlanSoon returns true). No conditions. -/
import Derived.Test.YtnbilkoabogllaaHx
import Derived.Test.YtnbilkoabogllaaNx
import Derived.Test.YtnbilkoabogllaaFx
import Derived.Test.YtnbilkoabogllaaRows
import Derived.ProofKit
set_option linter.unusedSimpArgs false
set_option linter.unusedVariables false
namespace Go.Proofs.Ytnbilkoabogllaa
open Go.ChangeShapes Go.WideShapes Go.ChangeAt Go.RowKit Go.Abs

theorem own : ownKnob Try.prog.godebug = none := by kernel_rfl
theorem laidOut : laidOutB Try.prog = true := by kernel_rfl
theorem tyRule : tyB Try.prog ruleTy 27 = true := by kernel_rfl
theorem tyInt : tyB Try.prog .int 3 = true := by kernel_rfl
theorem params5 : Try.f5.params.toList = [27, 3] := by kernel_rfl

theorem planSoon_law : LawSays Try.prog Go.Abs.Plan.tbl 5 Try.f5.params.toList := by
  rw [params5]
  intro xs hxs
  cases hxs with
  | cons h1 hs =>
    cases hs with
    | cons h2 hs =>
      cases hs
      obtain ⟨r, hr, hb⟩ := rule_of tyRule h1
      obtain ⟨delta, rfl, hd⟩ := int_of tyInt h2
      obtain ⟨w, hw, rfl⟩ := callP_of (tbl := Plan.tbl) (f := Plan.f_law18_PlanSoon) (af := Plan.a_law18_PlanSoon) rfl rfl (R := fun a => ∃ v, a = [v, i64 delta] ∧ Enc.Is v r) (S := fun w => w = .bool true)
        (by rintro a ⟨v, rfl, h⟩; simp [Enc.plain h]) (by rintro a ⟨v, rfl, h⟩; exact ⟨v.lend, rfl, Enc.lend h⟩) (by rintro w rfl; rfl)
        (by rintro a ⟨v, rfl, h⟩; exact Plan.PlanSoon_run v r delta h hb.body hb.head hb.args hd) _ [] ⟨_, rfl, hr⟩
      obtain ⟨k, hk⟩ := callW_iff.1 hw
      exact ⟨k, [], hk⟩

set_option maxRecDepth 100000 in
theorem planSoon_lifted (os : Os) (started : os.Started) (H : Type) (enc : TypeId × Value → H) :
    ReturnsInHanded {} Try.checked os 5 .any (Rows.planSoonSpec.pre6 enc Try.prog Try.f5 Rows.planSoonRow.domain false) (Rows.planSoonSpec.post enc Try.prog Try.f5 false true false false) := by
  refine returnsInHanded_of_change (C := Try.checked) own started (by kernel_rfl) Try.func5
    (ChangeSpec.witness6 (enc := enc) (C := Try.checked) false ⟨#[], #[.agg #[.string ⟨#[]⟩, .slice none 0 0, .slice none 0 0], .int .i64 0], []⟩ 8 (by kernel_rfl) (by kernel_rfl) (by kernel_rfl) (by kernel_rfl)) ?_
  intro W base args ds gs before hval hW _ _
  refine contract_of_abs (P := Try.prog) Go.Abs.Plan.tblOk laidOut rfl (tb := 4) (k := 12) (by kernel_rfl) Try.underlying4 (by kernel_rfl) (by kernel_rfl) (fun ds hl => ?_) planSoon_law hval hW
  have hl2 : ds.length = 2 := hl.trans (by kernel_rfl)
  match ds, hl2 with
  | [d1, d2], _ => exact ⟨rfl, rfl, rfl⟩

theorem planSoon_holds : Rows.PlanSoonSaid :=
  OpenClaim.holds_of_wide 5 Try.f5 rfl rfl rfl rfl rfl rfl rfl ⟨rfl, rfl, rfl, rfl, rfl⟩ rfl rfl rfl rfl rfl (by kernel_rfl) Try.func5 (by kernel_rfl)
    (of_decide_eq_true (by kernel_rfl)) (by unfold Func.isWrapper; first | (rw [if_pos (by decide +kernel)]; kernel_rfl) | (rw [if_neg (by decide +kernel)]; exact ⟨rfl, rfl⟩))
    (fun os started H enc _ => planSoon_lifted os started H enc)

#print axioms planSoon_holds
end Go.Proofs.Ytnbilkoabogllaa

