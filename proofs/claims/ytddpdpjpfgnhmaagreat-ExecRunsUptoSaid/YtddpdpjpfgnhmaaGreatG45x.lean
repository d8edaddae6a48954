/- Exec: the table with the laws of what the calls of many ways come to. -/
import Derived.Test.YtddpdpjpfgnhmaaGreatG44x
import Derived.Test.YtddpdpjpfgnhmaaGreatG39x
set_option linter.unusedSimpArgs false
set_option linter.unusedVariables false
set_option maxHeartbeats 4000000
namespace Go.Abs.Plan
open Go Go.Abs Go.Proofs
theorem zja1:TblOk Tryz.prog tblL:=by
 intro f x h
 unfold tblL at h
 split at h
 ·rename_i e; subst e; cases h
  exact zog ze31 ⟨.code zp3,rfl⟩ (k:=6) (fun args r _ hg H=>z681 args r hg H)
 split at h
 ·rename_i e; subst e; cases h
  exact zog ze31 ⟨.code z19,rfl⟩ (k:=7) (fun args r _ hg H=>zba1 args r hg H)
 split at h
 ·rename_i e; subst e; cases h
  exact zog ze31 ⟨.code zf3,rfl⟩ (k:=2) (fun args r _ hg H=>zs21 args r hg H)
 exact tblOk f x h
theorem zka1:TblOk Tryz.prog tblE:=by
 intro f x h
 unfold tblE at h
 split at h
 ·rename_i hL
  cases h
  exact zja1 f x hL
 ·exact zca1 Tryz.prog f x h
end Go.Abs.Plan
