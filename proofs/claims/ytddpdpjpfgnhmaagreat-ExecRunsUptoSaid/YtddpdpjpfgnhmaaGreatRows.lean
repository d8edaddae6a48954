/-
  No cell of these rows narrows 'for every input' (looked for: loops, veiled, ifaces, maps, wideKeys, modest, calm, conditions, laid).
  DERIVED. THE GIVEN ROWS OF THIS SEAT. 5 by the template 'for every input the law returns true; each argument reads behind the call as it read before'; 0 by the template 'total and deterministic' (their statements: YtddpdpjpfgnhmaaGreatTotals.lean).
  GIVEN WITH THE SEED: the statements are not yours to turn. If you find one false, say at which input.
  Laid BY PROGRAM, IN A SANDBOX (cutbox-rows.mjs): the forced cells as the released guide's own fill.sh prints them over the translation 64339469b5b5fc9c… (all of the seat's roots in one cut). By AI agents, Wed Nov 11 2026. No macro, syntax, notation, axiom, sorry.
-/
import Derived.Test.YtddpdpjpfgnhmaaGreatChecked
import GoSem.Claim
import GoSem.ClaimJoined
import GoSem.ClaimMapViews
import Derived.JoinedTies
import Derived.KernelRfl
namespace Go.Proofs.YtddpdpjpfgnhmaaGreat
/- THE CELL 'sum', in the pinned program and in every row, IS THE sha256 OF THE DUMP (.gsa) THAT YtddpdpjpfgnhmaaGreatProg.lean LOADS. Nothing in Lean hashes anything: it is a label: what it is worth is what the hold of that sum in a sandbox is worth. -/
noncomputable def Tryz.pinned : Pinned := { name := "ytddpdpjpfgnhmaagreat", sum := "64339469b5b5fc9cae4562c5c9c29f331584fbce8da307e3f316e0b8d4ae73f7", checked := Tryz.checked }
namespace Rows
def none {H : Type} : Left H := { results := [], args := [] }

/-- 'pedigreelaw19.ExecRuns': WHATEVER THE INPUT: true; the input reads as it did. -/
def execRunsSpec : ChangeSpec := { name := "execRuns", fn := fun _ => fun
  | [d1, d2, d3, d4] => { results := [.lit (.bool true)], args := [d1, d2, d3, d4] }
  | _ => none }
def execRunsRow : OpenClaim := { program := "ytddpdpjpfgnhmaagreat", sum := "64339469b5b5fc9cae4562c5c9c29f331584fbce8da307e3f316e0b8d4ae73f7", func := "pedigree/pedigreelaw19.ExecRuns", spec := "execRuns", unfollowed := true, recurses := true, plainKeys := false, apart := false }
def ExecRunsSaid : Prop := execRunsRow.holds Tryz.pinned (OpenSpec.ofChange execRunsSpec)

/-- ITS FALSE NEIGHBOUR: 'it returns false'. Refute it at one input. -/
def execRunsWrong : ChangeSpec := { name := "execRuns", fn := fun _ => fun
  | [d1, d2, d3, d4] => { results := [.lit (.bool false)], args := [d1, d2, d3, d4] }
  | _ => none }
def ExecRunsWrongFalsely : Prop := execRunsRow.holds Tryz.pinned (OpenSpec.ofChange execRunsWrong)

/-- 'pedigreelaw19.ExecTurns': WHATEVER THE INPUT: true; the input reads as it did. -/
def execTurnsSpec : ChangeSpec := { name := "execTurns", fn := fun _ => fun
  | [d1, d2, d3] => { results := [.lit (.bool true)], args := [d1, d2, d3] }
  | _ => none }
def execTurnsRow : OpenClaim := { program := "ytddpdpjpfgnhmaagreat", sum := "64339469b5b5fc9cae4562c5c9c29f331584fbce8da307e3f316e0b8d4ae73f7", func := "pedigree/pedigreelaw19.ExecTurns", spec := "execTurns", unfollowed := true, recurses := true, plainKeys := false, apart := false }
def ExecTurnsSaid : Prop := execTurnsRow.holds Tryz.pinned (OpenSpec.ofChange execTurnsSpec)

/-- ITS FALSE NEIGHBOUR: 'it returns false'. Refute it at one input. -/
def execTurnsWrong : ChangeSpec := { name := "execTurns", fn := fun _ => fun
  | [d1, d2, d3] => { results := [.lit (.bool false)], args := [d1, d2, d3] }
  | _ => none }
def ExecTurnsWrongFalsely : Prop := execTurnsRow.holds Tryz.pinned (OpenSpec.ofChange execTurnsWrong)

/-- 'pedigreelaw19.ExecChanges': WHATEVER THE INPUT: true; the input reads as it did. -/
def execChangesSpec : ChangeSpec := { name := "execChanges", fn := fun _ => fun
  | [d1, d2, d3] => { results := [.lit (.bool true)], args := [d1, d2, d3] }
  | _ => none }
def execChangesRow : OpenClaim := { program := "ytddpdpjpfgnhmaagreat", sum := "64339469b5b5fc9cae4562c5c9c29f331584fbce8da307e3f316e0b8d4ae73f7", func := "pedigree/pedigreelaw19.ExecChanges", spec := "execChanges", unfollowed := true, recurses := true, plainKeys := false, apart := false }
def ExecChangesSaid : Prop := execChangesRow.holds Tryz.pinned (OpenSpec.ofChange execChangesSpec)

/-- ITS FALSE NEIGHBOUR: 'it returns false'. Refute it at one input. -/
def execChangesWrong : ChangeSpec := { name := "execChanges", fn := fun _ => fun
  | [d1, d2, d3] => { results := [.lit (.bool false)], args := [d1, d2, d3] }
  | _ => none }
def ExecChangesWrongFalsely : Prop := execChangesRow.holds Tryz.pinned (OpenSpec.ofChange execChangesWrong)

/-- 'pedigreelaw19.ExecFires': WHATEVER THE INPUT: true; the input reads as it did. -/
def execFiresSpec : ChangeSpec := { name := "execFires", fn := fun _ => fun
  | [d1, d2] => { results := [.lit (.bool true)], args := [d1, d2] }
  | _ => none }
def execFiresRow : OpenClaim := { program := "ytddpdpjpfgnhmaagreat", sum := "64339469b5b5fc9cae4562c5c9c29f331584fbce8da307e3f316e0b8d4ae73f7", func := "pedigree/pedigreelaw19.ExecFires", spec := "execFires", unfollowed := true, recurses := true, plainKeys := false, apart := false }
def ExecFiresSaid : Prop := execFiresRow.holds Tryz.pinned (OpenSpec.ofChange execFiresSpec)

/-- ITS FALSE NEIGHBOUR: 'it returns false'. Refute it at one input. -/
def execFiresWrong : ChangeSpec := { name := "execFires", fn := fun _ => fun
  | [d1, d2] => { results := [.lit (.bool false)], args := [d1, d2] }
  | _ => none }
def ExecFiresWrongFalsely : Prop := execFiresRow.holds Tryz.pinned (OpenSpec.ofChange execFiresWrong)

/-- 'pedigreelaw19.ExecAdds': WHATEVER THE INPUT: true; the input reads as it did. -/
def execAddsSpec : ChangeSpec := { name := "execAdds", fn := fun _ => fun
  | [d1, d2, d3] => { results := [.lit (.bool true)], args := [d1, d2, d3] }
  | _ => none }
def execAddsRow : OpenClaim := { program := "ytddpdpjpfgnhmaagreat", sum := "64339469b5b5fc9cae4562c5c9c29f331584fbce8da307e3f316e0b8d4ae73f7", func := "pedigree/pedigreelaw19.ExecAdds", spec := "execAdds", unfollowed := true, recurses := true, plainKeys := false, apart := false }
def ExecAddsSaid : Prop := execAddsRow.holds Tryz.pinned (OpenSpec.ofChange execAddsSpec)

/-- ITS FALSE NEIGHBOUR: 'it returns false'. Refute it at one input. -/
def execAddsWrong : ChangeSpec := { name := "execAdds", fn := fun _ => fun
  | [d1, d2, d3] => { results := [.lit (.bool false)], args := [d1, d2, d3] }
  | _ => none }
def ExecAddsWrongFalsely : Prop := execAddsRow.holds Tryz.pinned (OpenSpec.ofChange execAddsWrong)

/- THE SECOND FORM. 'bulk': how many values and letters a reading holds, each counted each time it is reached (what is shared counts as often as it is met; a slice's spare places count too). A statement '..UptoSaid' is the law's where the arguments, and the package variables that the reading takes, are together of bulk at most 1048576: NARROWER than '..Said'. Prove '..Said' where nothing that the law and all that it calls make is longer than what came in: it says more and counts as full. Else prove '..UptoSaid'. A law counts once. -/
mutual
def uptoBulk {H : Type} : DataW H → Nat
  | .lit (.string bytes) => bytes.length + 1
  | .lit _ => 1
  | .nil => 1
  | .ptr d => uptoBulk d + 1
  | .slice elems spare => uptoBulkAll elems + uptoBulkAll spare + 1
  | .agg parts => uptoBulkAll parts + 1
  | .iface _ d => uptoBulk d + 1
  | .map entries => uptoBulkEntries entries + 1
  | .held _ => 1
def uptoBulkAll {H : Type} : List (DataW H) → Nat
  | [] => 0
  | d :: r => uptoBulk d + uptoBulkAll r
def uptoBulkEntries {H : Type} : List (Lit × DataW H) → Nat
  | [] => 0
  | x :: r => uptoBulkEntry x + uptoBulkEntries r
def uptoBulkEntry {H : Type} : Lit × DataW H → Nat
  | (.string bytes, d) => bytes.length + uptoBulk d + 1
  | (_, d) => uptoBulk d + 1
 end
def uptoSmall : (H : Type) → List (DataW H) → Bool := fun _ ds => decide (uptoBulkAll ds ≤ 1048576)
def OpenSpec.upto (s : _root_.Go.ChangeSpec) : _root_.Go.OpenSpec := { _root_.Go.OpenSpec.ofChange s with cond := some uptoSmall }

/-- 'pedigreelaw19.ExecRuns', WHERE WHAT IT READS IS OF BULK AT MOST 1048576: true; the input reads as it did. -/
def execRunsUptoRow : OpenClaim := { program := "ytddpdpjpfgnhmaagreat", sum := "64339469b5b5fc9cae4562c5c9c29f331584fbce8da307e3f316e0b8d4ae73f7", func := "pedigree/pedigreelaw19.ExecRuns", spec := "execRuns", unfollowed := true, recurses := true, plainKeys := false, apart := false, narrowed := true }
def ExecRunsUptoSaid : Prop := execRunsUptoRow.holds Tryz.pinned (OpenSpec.upto execRunsSpec)

/-- 'pedigreelaw19.ExecTurns', WHERE WHAT IT READS IS OF BULK AT MOST 1048576: true; the input reads as it did. -/
def execTurnsUptoRow : OpenClaim := { program := "ytddpdpjpfgnhmaagreat", sum := "64339469b5b5fc9cae4562c5c9c29f331584fbce8da307e3f316e0b8d4ae73f7", func := "pedigree/pedigreelaw19.ExecTurns", spec := "execTurns", unfollowed := true, recurses := true, plainKeys := false, apart := false, narrowed := true }
def ExecTurnsUptoSaid : Prop := execTurnsUptoRow.holds Tryz.pinned (OpenSpec.upto execTurnsSpec)

/-- 'pedigreelaw19.ExecChanges', WHERE WHAT IT READS IS OF BULK AT MOST 1048576: true; the input reads as it did. -/
def execChangesUptoRow : OpenClaim := { program := "ytddpdpjpfgnhmaagreat", sum := "64339469b5b5fc9cae4562c5c9c29f331584fbce8da307e3f316e0b8d4ae73f7", func := "pedigree/pedigreelaw19.ExecChanges", spec := "execChanges", unfollowed := true, recurses := true, plainKeys := false, apart := false, narrowed := true }
def ExecChangesUptoSaid : Prop := execChangesUptoRow.holds Tryz.pinned (OpenSpec.upto execChangesSpec)

/-- 'pedigreelaw19.ExecFires', WHERE WHAT IT READS IS OF BULK AT MOST 1048576: true; the input reads as it did. -/
def execFiresUptoRow : OpenClaim := { program := "ytddpdpjpfgnhmaagreat", sum := "64339469b5b5fc9cae4562c5c9c29f331584fbce8da307e3f316e0b8d4ae73f7", func := "pedigree/pedigreelaw19.ExecFires", spec := "execFires", unfollowed := true, recurses := true, plainKeys := false, apart := false, narrowed := true }
def ExecFiresUptoSaid : Prop := execFiresUptoRow.holds Tryz.pinned (OpenSpec.upto execFiresSpec)

/-- 'pedigreelaw19.ExecAdds', WHERE WHAT IT READS IS OF BULK AT MOST 1048576: true; the input reads as it did. -/
def execAddsUptoRow : OpenClaim := { program := "ytddpdpjpfgnhmaagreat", sum := "64339469b5b5fc9cae4562c5c9c29f331584fbce8da307e3f316e0b8d4ae73f7", func := "pedigree/pedigreelaw19.ExecAdds", spec := "execAdds", unfollowed := true, recurses := true, plainKeys := false, apart := false, narrowed := true }
def ExecAddsUptoSaid : Prop := execAddsUptoRow.holds Tryz.pinned (OpenSpec.upto execAddsSpec)

end Rows
end Go.Proofs.YtddpdpjpfgnhmaaGreat
