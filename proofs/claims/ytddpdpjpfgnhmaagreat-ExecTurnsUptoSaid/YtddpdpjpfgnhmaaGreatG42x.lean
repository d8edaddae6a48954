/- Exec: the table with the laws of what the calls of many ways come to. -/
import Derived.Test.YtddpdpjpfgnhmaaGreatG41x
import Derived.Test.YtddpdpjpfgnhmaaGreatG38x
set_option linter.unusedSimpArgs false
set_option linter.unusedVariables false
set_option maxHeartbeats 4000000
namespace Go.Abs.Plan
open Go Go.Abs Go.Proofs
theorem tblLOk : TblOk Tryz.prog tblL := by
 intro f x h
 unfold tblL at h
 split at h
 ·rename_i e; subst e; cases h
  exact lawOk_of_NW tblNOk ⟨.code zh3, rfl⟩ (k := 6) (fun args r _ hg H => gBind_N args r hg H)
 split at h
 ·rename_i e; subst e; cases h
  exact lawOk_of_NW tblNOk ⟨.code a_exec_Run, rfl⟩ (k := 7) (fun args r _ hg H => gRun_N args r hg H)
 split at h
 ·rename_i e; subst e; cases h
  exact lawOk_of_NW tblNOk ⟨.code z53, rfl⟩ (k := 2) (fun args r _ hg H => gTurned_N args r hg H)
 exact tblOk f x h
theorem tblEOk : TblOk Tryz.prog tblE := by
 intro f x h
 unfold tblE at h
 split at h
 ·rename_i hL
  cases h
  exact tblLOk f x hL
 ·exact tblCOk Tryz.prog f x h
end Go.Abs.Plan
