/- For every two plans (cut to what is looked at) both sides need the same, accept the same and find the same alike (the law PlanChecks returns true). No conditions. -/
import Derived.Test.YtnbilkoabogllaaHx
import Derived.Test.YtnbilkoabogllaaMx
import Derived.Test.YtnbilkoabogllaaFx
import Derived.Test.YtnbilkoabogllaaRows
import Derived.ProofKit
set_option linter.unusedSimpArgs false
set_option linter.unusedVariables false
namespace Go.Proofs.Ytnbilkoabogllaa
open Go.ChangeShapes Go.WideShapes Go.ChangeAt Go.RowKit Go.Abs

theorem own : ownKnob Try.prog.godebug = none := by kernel_rfl
theorem laidOut : laidOutB Try.prog = true := by kernel_rfl
theorem tyPlan : tyB Try.prog planTy 33 = true := by kernel_rfl
theorem params6 : Try.f6.params.toList = [33, 33] := by kernel_rfl

theorem planChecks_law : LawSays Try.prog Go.Abs.Plan.tbl 6 Try.f6.params.toList := by
  rw [params6]
  intro xs hxs
  cases hxs with
  | cons h1 hs =>
    cases hs with
    | cons h2 hs =>
      cases hs
      obtain ⟨p, hp, hpb⟩ := plan_of tyPlan h1
      obtain ⟨q, hq, hqb⟩ := plan_of tyPlan h2
      obtain ⟨w, hw, rfl⟩ := callP_of (tbl := Plan.tbl) (f := Plan.f_law18_PlanChecks) (af := Plan.a_law18_PlanChecks) rfl rfl (R := fun a => ∃ v w, a = [v, w] ∧ Enc.Is v p ∧ Enc.Is w q) (S := fun w => w = .bool true)
        (by rintro a ⟨v, w, rfl, h, h'⟩; simp [Enc.plain h, Enc.plain h']) (by rintro a ⟨v, w, rfl, h, h'⟩; exact ⟨v.lend, w.lend, rfl, Enc.lend h, Enc.lend h'⟩) (by rintro w rfl; rfl)
        (by rintro a ⟨v, w, rfl, h, h'⟩; exact Plan.PlanChecks_run v w p q h h' hpb hqb) _ [] ⟨_, _, rfl, hp, hq⟩
      obtain ⟨k, hk⟩ := callW_iff.1 hw
      exact ⟨k, [], hk⟩

set_option maxRecDepth 100000 in
theorem planChecks_lifted (os : Os) (started : os.Started) (H : Type) (enc : TypeId × Value → H) :
    ReturnsInHanded {} Try.checked os 6 .any (Rows.planChecksSpec.pre6 enc Try.prog Try.f6 Rows.planChecksRow.domain false) (Rows.planChecksSpec.post enc Try.prog Try.f6 false true false false) := by
  refine returnsInHanded_of_change (C := Try.checked) own started (by kernel_rfl) Try.func6
    (ChangeSpec.witness6 (enc := enc) (C := Try.checked) false ⟨#[], #[.agg #[.slice none 0 0, .slice none 0 0, .string ⟨#[]⟩, .slice none 0 0], .agg #[.slice none 0 0, .slice none 0 0, .string ⟨#[]⟩, .slice none 0 0]], []⟩ 8 (by kernel_rfl) (by kernel_rfl) (by kernel_rfl) (by kernel_rfl)) ?_
  intro W base args ds gs before hval hW _ _
  refine contract_of_abs (P := Try.prog) Go.Abs.Plan.tblOk laidOut rfl (tb := 4) (k := 12) (by kernel_rfl) Try.underlying4 (by kernel_rfl) (by kernel_rfl) (fun ds hl => ?_) planChecks_law hval hW
  have hl2 : ds.length = 2 := hl.trans (by kernel_rfl)
  match ds, hl2 with
  | [d1, d2], _ => exact ⟨rfl, rfl, rfl⟩

theorem planChecks_holds : Rows.PlanChecksSaid :=
  OpenClaim.holds_of_wide 6 Try.f6 rfl rfl rfl rfl rfl rfl rfl ⟨rfl, rfl, rfl, rfl, rfl⟩ rfl rfl rfl rfl rfl (by kernel_rfl) Try.func6 (by kernel_rfl)
    (of_decide_eq_true (by kernel_rfl)) (by unfold Func.isWrapper; first | (rw [if_pos (by decide +kernel)]; kernel_rfl) | (rw [if_neg (by decide +kernel)]; exact ⟨rfl, rfl⟩))
    (fun os started H enc _ => planChecks_lifted os started H enc)

#print axioms planChecks_holds
end Go.Proofs.Ytnbilkoabogllaa

