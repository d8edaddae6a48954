/-
  No cell of these rows narrows 'for every input' (looked for: loops, veiled, ifaces, maps, wideKeys, modest, calm, conditions, laid).
  DERIVED. THE GIVEN ROWS OF THIS SEAT. 4 by the template 'for every input the law returns true; each argument reads behind the call as it read before'; 0 by the template 'total and deterministic' (their statements: YtnbilkoabogllaaTotals.lean).
  GIVEN WITH THE SEED: the statements are not yours to turn. If you find one false, say at which input.
  Laid BY PROGRAM, IN A SANDBOX (cutbox-rows.mjs): the forced cells as the released guide's own fill.sh prints them over the translation 21dc0750f2aa1bd4… (all of the seat's roots in one cut). By AI agents, Wed Nov 11 2026. No macro, syntax, notation, axiom, sorry.
-/
import Derived.Test.YtnbilkoabogllaaChecked
import GoSem.Claim
import GoSem.ClaimJoined
import GoSem.ClaimMapViews
import Derived.JoinedTies
import Derived.KernelRfl
namespace Go.Proofs.Ytnbilkoabogllaa
/- THE CELL 'sum', in the pinned program and in every row, IS THE sha256 OF THE DUMP (.gsa) THAT YtnbilkoabogllaaProg.lean LOADS. Nothing in Lean hashes anything: it is a label: what it is worth is what the hold of that sum in a sandbox is worth. -/
noncomputable def Try.pinned : Pinned := { name := "ytnbilkoabogllaa", sum := "21dc0750f2aa1bd403aed5a23e1756214266ea45d2862e9bd04d9d50fcb85ccc", checked := Try.checked }
namespace Rows
def none {H : Type} : Left H := { results := [], args := [] }

/-- 'pedigreelaw18.PlanMay': WHATEVER THE INPUT: true; the input reads as it did. -/
def planMaySpec : ChangeSpec := { name := "planMay", fn := fun _ => fun
  | [d1, d2] => { results := [.lit (.bool true)], args := [d1, d2] }
  | _ => none }
def planMayRow : OpenClaim := { program := "ytnbilkoabogllaa", sum := "21dc0750f2aa1bd403aed5a23e1756214266ea45d2862e9bd04d9d50fcb85ccc", func := "pedigree/pedigreelaw18.PlanMay", spec := "planMay", unfollowed := true, recurses := true, plainKeys := false, apart := false }
def PlanMaySaid : Prop := planMayRow.holds Try.pinned (OpenSpec.ofChange planMaySpec)

/-- ITS FALSE NEIGHBOUR: 'it returns false'. Refute it at one input. -/
def planMayWrong : ChangeSpec := { name := "planMay", fn := fun _ => fun
  | [d1, d2] => { results := [.lit (.bool false)], args := [d1, d2] }
  | _ => none }
def PlanMayWrongFalsely : Prop := planMayRow.holds Try.pinned (OpenSpec.ofChange planMayWrong)

/-- 'pedigreelaw18.PlanOnce': WHATEVER THE INPUT: true; the input reads as it did. -/
def planOnceSpec : ChangeSpec := { name := "planOnce", fn := fun _ => fun
  | [d1, d2] => { results := [.lit (.bool true)], args := [d1, d2] }
  | _ => none }
def planOnceRow : OpenClaim := { program := "ytnbilkoabogllaa", sum := "21dc0750f2aa1bd403aed5a23e1756214266ea45d2862e9bd04d9d50fcb85ccc", func := "pedigree/pedigreelaw18.PlanOnce", spec := "planOnce", unfollowed := true, recurses := true, plainKeys := false, apart := false }
def PlanOnceSaid : Prop := planOnceRow.holds Try.pinned (OpenSpec.ofChange planOnceSpec)

/-- ITS FALSE NEIGHBOUR: 'it returns false'. Refute it at one input. -/
def planOnceWrong : ChangeSpec := { name := "planOnce", fn := fun _ => fun
  | [d1, d2] => { results := [.lit (.bool false)], args := [d1, d2] }
  | _ => none }
def PlanOnceWrongFalsely : Prop := planOnceRow.holds Try.pinned (OpenSpec.ofChange planOnceWrong)

/-- 'pedigreelaw18.PlanSoon': WHATEVER THE INPUT: true; the input reads as it did. -/
def planSoonSpec : ChangeSpec := { name := "planSoon", fn := fun _ => fun
  | [d1, d2] => { results := [.lit (.bool true)], args := [d1, d2] }
  | _ => none }
def planSoonRow : OpenClaim := { program := "ytnbilkoabogllaa", sum := "21dc0750f2aa1bd403aed5a23e1756214266ea45d2862e9bd04d9d50fcb85ccc", func := "pedigree/pedigreelaw18.PlanSoon", spec := "planSoon", unfollowed := true, recurses := true, plainKeys := false, apart := false }
def PlanSoonSaid : Prop := planSoonRow.holds Try.pinned (OpenSpec.ofChange planSoonSpec)

/-- ITS FALSE NEIGHBOUR: 'it returns false'. Refute it at one input. -/
def planSoonWrong : ChangeSpec := { name := "planSoon", fn := fun _ => fun
  | [d1, d2] => { results := [.lit (.bool false)], args := [d1, d2] }
  | _ => none }
def PlanSoonWrongFalsely : Prop := planSoonRow.holds Try.pinned (OpenSpec.ofChange planSoonWrong)

/-- 'pedigreelaw18.PlanChecks': WHATEVER THE INPUT: true; the input reads as it did. -/
def planChecksSpec : ChangeSpec := { name := "planChecks", fn := fun _ => fun
  | [d1, d2] => { results := [.lit (.bool true)], args := [d1, d2] }
  | _ => none }
def planChecksRow : OpenClaim := { program := "ytnbilkoabogllaa", sum := "21dc0750f2aa1bd403aed5a23e1756214266ea45d2862e9bd04d9d50fcb85ccc", func := "pedigree/pedigreelaw18.PlanChecks", spec := "planChecks", unfollowed := true, recurses := true, plainKeys := false, apart := false }
def PlanChecksSaid : Prop := planChecksRow.holds Try.pinned (OpenSpec.ofChange planChecksSpec)

/-- ITS FALSE NEIGHBOUR: 'it returns false'. Refute it at one input. -/
def planChecksWrong : ChangeSpec := { name := "planChecks", fn := fun _ => fun
  | [d1, d2] => { results := [.lit (.bool false)], args := [d1, d2] }
  | _ => none }
def PlanChecksWrongFalsely : Prop := planChecksRow.holds Try.pinned (OpenSpec.ofChange planChecksWrong)

/- THE SECOND FORM. 'bulk': how many values and letters a reading holds, each counted each time it is reached (what is shared counts as often as it is met; a slice's spare places count too). A statement '..UptoSaid' is the law's where the arguments, and the package variables that the reading takes, are together of bulk at most 1048576: NARROWER than '..Said'. Prove '..Said' where nothing that the law and all that it calls make is longer than what came in: it says more and counts as full. Else prove '..UptoSaid'. A law counts once. -/
mutual
def uptoBulk {H : Type} : DataW H → Nat
  | .lit (.string bytes) => bytes.length + 1
  | .lit _ => 1
  | .nil => 1
  | .ptr d => uptoBulk d + 1
  | .slice elems spare => uptoBulkAll elems + uptoBulkAll spare + 1
  | .agg parts => uptoBulkAll parts + 1
  | .iface _ d => uptoBulk d + 1
  | .map entries => uptoBulkEntries entries + 1
  | .held _ => 1
def uptoBulkAll {H : Type} : List (DataW H) → Nat
  | [] => 0
  | d :: r => uptoBulk d + uptoBulkAll r
def uptoBulkEntries {H : Type} : List (Lit × DataW H) → Nat
  | [] => 0
  | x :: r => uptoBulkEntry x + uptoBulkEntries r
def uptoBulkEntry {H : Type} : Lit × DataW H → Nat
  | (.string bytes, d) => bytes.length + uptoBulk d + 1
  | (_, d) => uptoBulk d + 1
 end
def uptoSmall : (H : Type) → List (DataW H) → Bool := fun _ ds => decide (uptoBulkAll ds ≤ 1048576)
def OpenSpec.upto (s : _root_.Go.ChangeSpec) : _root_.Go.OpenSpec := { _root_.Go.OpenSpec.ofChange s with cond := some uptoSmall }

/-- 'pedigreelaw18.PlanMay', WHERE WHAT IT READS IS OF BULK AT MOST 1048576: true; the input reads as it did. -/
def planMayUptoRow : OpenClaim := { program := "ytnbilkoabogllaa", sum := "21dc0750f2aa1bd403aed5a23e1756214266ea45d2862e9bd04d9d50fcb85ccc", func := "pedigree/pedigreelaw18.PlanMay", spec := "planMay", unfollowed := true, recurses := true, plainKeys := false, apart := false, narrowed := true }
def PlanMayUptoSaid : Prop := planMayUptoRow.holds Try.pinned (OpenSpec.upto planMaySpec)

/-- 'pedigreelaw18.PlanOnce', WHERE WHAT IT READS IS OF BULK AT MOST 1048576: true; the input reads as it did. -/
def planOnceUptoRow : OpenClaim := { program := "ytnbilkoabogllaa", sum := "21dc0750f2aa1bd403aed5a23e1756214266ea45d2862e9bd04d9d50fcb85ccc", func := "pedigree/pedigreelaw18.PlanOnce", spec := "planOnce", unfollowed := true, recurses := true, plainKeys := false, apart := false, narrowed := true }
def PlanOnceUptoSaid : Prop := planOnceUptoRow.holds Try.pinned (OpenSpec.upto planOnceSpec)

/-- 'pedigreelaw18.PlanSoon', WHERE WHAT IT READS IS OF BULK AT MOST 1048576: true; the input reads as it did. -/
def planSoonUptoRow : OpenClaim := { program := "ytnbilkoabogllaa", sum := "21dc0750f2aa1bd403aed5a23e1756214266ea45d2862e9bd04d9d50fcb85ccc", func := "pedigree/pedigreelaw18.PlanSoon", spec := "planSoon", unfollowed := true, recurses := true, plainKeys := false, apart := false, narrowed := true }
def PlanSoonUptoSaid : Prop := planSoonUptoRow.holds Try.pinned (OpenSpec.upto planSoonSpec)

/-- 'pedigreelaw18.PlanChecks', WHERE WHAT IT READS IS OF BULK AT MOST 1048576: true; the input reads as it did. -/
def planChecksUptoRow : OpenClaim := { program := "ytnbilkoabogllaa", sum := "21dc0750f2aa1bd403aed5a23e1756214266ea45d2862e9bd04d9d50fcb85ccc", func := "pedigree/pedigreelaw18.PlanChecks", spec := "planChecks", unfollowed := true, recurses := true, plainKeys := false, apart := false, narrowed := true }
def PlanChecksUptoSaid : Prop := planChecksUptoRow.holds Try.pinned (OpenSpec.upto planChecksSpec)

end Rows
end Go.Proofs.Ytnbilkoabogllaa
