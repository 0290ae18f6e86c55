/-
  No cell of these rows narrows 'for every input' (looked for: loops, veiled, ifaces, maps, wideKeys, modest, calm, conditions, laid).
  DERIVED. THE GIVEN ROWS OF THIS SEAT. 11 by the template 'for every input the law returns true; each argument reads behind the call as it read before'; 0 by the template 'total and deterministic' (their statements: YtokhnmchnfkiiaaGreatTotals.lean).
  GIVEN WITH THE SEED: the statements are not yours to turn. If you find one false, say at which input.
  Laid BY PROGRAM, IN A SANDBOX (cutbox-rows.mjs): the forced cells as the released guide's own fill.sh prints them over the translation 8845813c99249ce4… (all of the seat's roots in one cut). By AI agents, Wed Nov 11 2026. No macro, syntax, notation, axiom, sorry.
-/
import Derived.Test.YtokhnmchnfkiiaaGreatChecked
import GoSem.Claim
import GoSem.ClaimJoined
import GoSem.ClaimMapViews
import Derived.JoinedTies
import Derived.KernelRfl
namespace Go.Proofs.YtokhnmchnfkiiaaGreat
/- THE CELL 'sum', in the pinned program and in every row, IS THE sha256 OF THE DUMP (.gsa) THAT YtokhnmchnfkiiaaGreatProg.lean LOADS. Nothing in Lean hashes anything: it is a label: what it is worth is what the hold of that sum in a sandbox is worth. -/
noncomputable def Tryz.pinned : Pinned := { name := "ytokhnmchnfkiiaagreat", sum := "8845813c99249ce4af46c00104266093a35931c2b09f746b60b1ce5b4c38908c", checked := Tryz.checked }
namespace Rows
def none {H : Type} : Left H := { results := [], args := [] }

/-- 'laws.FnExactSolve': WHATEVER THE INPUT: true; the input reads as it did. -/
def fnExactSolveSpec : ChangeSpec := { name := "fnExactSolve", fn := fun _ => fun
  | [d1, d2, d3, d4] => { results := [.lit (.bool true)], args := [d1, d2, d3, d4] }
  | _ => none }
def fnExactSolveRow : OpenClaim := { program := "ytokhnmchnfkiiaagreat", sum := "8845813c99249ce4af46c00104266093a35931c2b09f746b60b1ce5b4c38908c", func := "loop.example/g00090/laws.FnExactSolve", spec := "fnExactSolve", unfollowed := true, recurses := true, apart := false }
def FnExactSolveSaid : Prop := fnExactSolveRow.holds Tryz.pinned (OpenSpec.ofChange fnExactSolveSpec)

/-- ITS FALSE NEIGHBOUR: 'it returns false'. Refute it at one input. -/
def fnExactSolveWrong : ChangeSpec := { name := "fnExactSolve", fn := fun _ => fun
  | [d1, d2, d3, d4] => { results := [.lit (.bool false)], args := [d1, d2, d3, d4] }
  | _ => none }
def FnExactSolveWrongFalsely : Prop := fnExactSolveRow.holds Tryz.pinned (OpenSpec.ofChange fnExactSolveWrong)

/-- 'laws.FnExactFaultsOf': WHATEVER THE INPUT: true; the input reads as it did. -/
def fnExactFaultsOfSpec : ChangeSpec := { name := "fnExactFaultsOf", fn := fun _ => fun
  | [d1, d2] => { results := [.lit (.bool true)], args := [d1, d2] }
  | _ => none }
def fnExactFaultsOfRow : OpenClaim := { program := "ytokhnmchnfkiiaagreat", sum := "8845813c99249ce4af46c00104266093a35931c2b09f746b60b1ce5b4c38908c", func := "loop.example/g00090/laws.FnExactFaultsOf", spec := "fnExactFaultsOf", unfollowed := true, recurses := true, apart := false }
def FnExactFaultsOfSaid : Prop := fnExactFaultsOfRow.holds Tryz.pinned (OpenSpec.ofChange fnExactFaultsOfSpec)

/-- ITS FALSE NEIGHBOUR: 'it returns false'. Refute it at one input. -/
def fnExactFaultsOfWrong : ChangeSpec := { name := "fnExactFaultsOf", fn := fun _ => fun
  | [d1, d2] => { results := [.lit (.bool false)], args := [d1, d2] }
  | _ => none }
def FnExactFaultsOfWrongFalsely : Prop := fnExactFaultsOfRow.holds Tryz.pinned (OpenSpec.ofChange fnExactFaultsOfWrong)

/-- 'laws.FnExactCandidatesOf': WHATEVER THE INPUT: true; the input reads as it did. -/
def fnExactCandidatesOfSpec : ChangeSpec := { name := "fnExactCandidatesOf", fn := fun _ => fun
  | [d1, d2, d3, d4, d5] => { results := [.lit (.bool true)], args := [d1, d2, d3, d4, d5] }
  | _ => none }
def fnExactCandidatesOfRow : OpenClaim := { program := "ytokhnmchnfkiiaagreat", sum := "8845813c99249ce4af46c00104266093a35931c2b09f746b60b1ce5b4c38908c", func := "loop.example/g00090/laws.FnExactCandidatesOf", spec := "fnExactCandidatesOf", unfollowed := true, recurses := true, apart := false }
def FnExactCandidatesOfSaid : Prop := fnExactCandidatesOfRow.holds Tryz.pinned (OpenSpec.ofChange fnExactCandidatesOfSpec)

/-- ITS FALSE NEIGHBOUR: 'it returns false'. Refute it at one input. -/
def fnExactCandidatesOfWrong : ChangeSpec := { name := "fnExactCandidatesOf", fn := fun _ => fun
  | [d1, d2, d3, d4, d5] => { results := [.lit (.bool false)], args := [d1, d2, d3, d4, d5] }
  | _ => none }
def FnExactCandidatesOfWrongFalsely : Prop := fnExactCandidatesOfRow.holds Tryz.pinned (OpenSpec.ofChange fnExactCandidatesOfWrong)

/-- 'laws.FnMoved': WHATEVER THE INPUT: true; the input reads as it did. -/
def fnMovedSpec : ChangeSpec := { name := "fnMoved", fn := fun _ => fun
  | [d] => { results := [.lit (.bool true)], args := [d] }
  | _ => none }
def fnMovedRow : OpenClaim := { program := "ytokhnmchnfkiiaagreat", sum := "8845813c99249ce4af46c00104266093a35931c2b09f746b60b1ce5b4c38908c", func := "loop.example/g00090/laws.FnMoved", spec := "fnMoved", unfollowed := true, recurses := true, apart := false }
def FnMovedSaid : Prop := fnMovedRow.holds Tryz.pinned (OpenSpec.ofChange fnMovedSpec)

/-- ITS FALSE NEIGHBOUR: 'it returns false'. Refute it at one input. -/
def fnMovedWrong : ChangeSpec := { name := "fnMoved", fn := fun _ => fun
  | [d] => { results := [.lit (.bool false)], args := [d] }
  | _ => none }
def FnMovedWrongFalsely : Prop := fnMovedRow.holds Tryz.pinned (OpenSpec.ofChange fnMovedWrong)

/-- 'laws.FnExactMovePacks': WHATEVER THE INPUT: true; the input reads as it did. -/
def fnExactMovePacksSpec : ChangeSpec := { name := "fnExactMovePacks", fn := fun _ => fun
  | [d1, d2, d3, d4] => { results := [.lit (.bool true)], args := [d1, d2, d3, d4] }
  | _ => none }
def fnExactMovePacksRow : OpenClaim := { program := "ytokhnmchnfkiiaagreat", sum := "8845813c99249ce4af46c00104266093a35931c2b09f746b60b1ce5b4c38908c", func := "loop.example/g00090/laws.FnExactMovePacks", spec := "fnExactMovePacks", unfollowed := true, recurses := true, apart := false }
def FnExactMovePacksSaid : Prop := fnExactMovePacksRow.holds Tryz.pinned (OpenSpec.ofChange fnExactMovePacksSpec)

/-- ITS FALSE NEIGHBOUR: 'it returns false'. Refute it at one input. -/
def fnExactMovePacksWrong : ChangeSpec := { name := "fnExactMovePacks", fn := fun _ => fun
  | [d1, d2, d3, d4] => { results := [.lit (.bool false)], args := [d1, d2, d3, d4] }
  | _ => none }
def FnExactMovePacksWrongFalsely : Prop := fnExactMovePacksRow.holds Tryz.pinned (OpenSpec.ofChange fnExactMovePacksWrong)

/-- 'laws.FnExactChangedNames': WHATEVER THE INPUT: true; the input reads as it did. -/
def fnExactChangedNamesSpec : ChangeSpec := { name := "fnExactChangedNames", fn := fun _ => fun
  | [d1, d2, d3] => { results := [.lit (.bool true)], args := [d1, d2, d3] }
  | _ => none }
def fnExactChangedNamesRow : OpenClaim := { program := "ytokhnmchnfkiiaagreat", sum := "8845813c99249ce4af46c00104266093a35931c2b09f746b60b1ce5b4c38908c", func := "loop.example/g00090/laws.FnExactChangedNames", spec := "fnExactChangedNames", unfollowed := true, recurses := true, apart := false }
def FnExactChangedNamesSaid : Prop := fnExactChangedNamesRow.holds Tryz.pinned (OpenSpec.ofChange fnExactChangedNamesSpec)

/-- ITS FALSE NEIGHBOUR: 'it returns false'. Refute it at one input. -/
def fnExactChangedNamesWrong : ChangeSpec := { name := "fnExactChangedNames", fn := fun _ => fun
  | [d1, d2, d3] => { results := [.lit (.bool false)], args := [d1, d2, d3] }
  | _ => none }
def FnExactChangedNamesWrongFalsely : Prop := fnExactChangedNamesRow.holds Tryz.pinned (OpenSpec.ofChange fnExactChangedNamesWrong)

/-- 'laws.FnExactJoinedNames': WHATEVER THE INPUT: true; the input reads as it did. -/
def fnExactJoinedNamesSpec : ChangeSpec := { name := "fnExactJoinedNames", fn := fun _ => fun
  | [d1, d2, d3, d4, d5] => { results := [.lit (.bool true)], args := [d1, d2, d3, d4, d5] }
  | _ => none }
def fnExactJoinedNamesRow : OpenClaim := { program := "ytokhnmchnfkiiaagreat", sum := "8845813c99249ce4af46c00104266093a35931c2b09f746b60b1ce5b4c38908c", func := "loop.example/g00090/laws.FnExactJoinedNames", spec := "fnExactJoinedNames", unfollowed := true, recurses := true, apart := false }
def FnExactJoinedNamesSaid : Prop := fnExactJoinedNamesRow.holds Tryz.pinned (OpenSpec.ofChange fnExactJoinedNamesSpec)

/-- ITS FALSE NEIGHBOUR: 'it returns false'. Refute it at one input. -/
def fnExactJoinedNamesWrong : ChangeSpec := { name := "fnExactJoinedNames", fn := fun _ => fun
  | [d1, d2, d3, d4, d5] => { results := [.lit (.bool false)], args := [d1, d2, d3, d4, d5] }
  | _ => none }
def FnExactJoinedNamesWrongFalsely : Prop := fnExactJoinedNamesRow.holds Tryz.pinned (OpenSpec.ofChange fnExactJoinedNamesWrong)

/-- 'laws.FnExactNamesOf': WHATEVER THE INPUT: true; the input reads as it did. -/
def fnExactNamesOfSpec : ChangeSpec := { name := "fnExactNamesOf", fn := fun _ => fun
  | [d1, d2, d3, d4] => { results := [.lit (.bool true)], args := [d1, d2, d3, d4] }
  | _ => none }
def fnExactNamesOfRow : OpenClaim := { program := "ytokhnmchnfkiiaagreat", sum := "8845813c99249ce4af46c00104266093a35931c2b09f746b60b1ce5b4c38908c", func := "loop.example/g00090/laws.FnExactNamesOf", spec := "fnExactNamesOf", unfollowed := true, recurses := true, apart := false }
def FnExactNamesOfSaid : Prop := fnExactNamesOfRow.holds Tryz.pinned (OpenSpec.ofChange fnExactNamesOfSpec)

/-- ITS FALSE NEIGHBOUR: 'it returns false'. Refute it at one input. -/
def fnExactNamesOfWrong : ChangeSpec := { name := "fnExactNamesOf", fn := fun _ => fun
  | [d1, d2, d3, d4] => { results := [.lit (.bool false)], args := [d1, d2, d3, d4] }
  | _ => none }
def FnExactNamesOfWrongFalsely : Prop := fnExactNamesOfRow.holds Tryz.pinned (OpenSpec.ofChange fnExactNamesOfWrong)

/-- 'laws.FnBudgets': WHATEVER THE INPUT: true; the input reads as it did. -/
def fnBudgetsSpec : ChangeSpec := { name := "fnBudgets", fn := fun _ => fun
  | [d] => { results := [.lit (.bool true)], args := [d] }
  | _ => none }
def fnBudgetsRow : OpenClaim := { program := "ytokhnmchnfkiiaagreat", sum := "8845813c99249ce4af46c00104266093a35931c2b09f746b60b1ce5b4c38908c", func := "loop.example/g00090/laws.FnBudgets", spec := "fnBudgets", unfollowed := true, recurses := true, apart := false }
def FnBudgetsSaid : Prop := fnBudgetsRow.holds Tryz.pinned (OpenSpec.ofChange fnBudgetsSpec)

/-- ITS FALSE NEIGHBOUR: 'it returns false'. Refute it at one input. -/
def fnBudgetsWrong : ChangeSpec := { name := "fnBudgets", fn := fun _ => fun
  | [d] => { results := [.lit (.bool false)], args := [d] }
  | _ => none }
def FnBudgetsWrongFalsely : Prop := fnBudgetsRow.holds Tryz.pinned (OpenSpec.ofChange fnBudgetsWrong)

/-- 'laws.FnSolves': WHATEVER THE INPUT: true; the input reads as it did. -/
def fnSolvesSpec : ChangeSpec := { name := "fnSolves", fn := fun _ => fun
  | [d] => { results := [.lit (.bool true)], args := [d] }
  | _ => none }
def fnSolvesRow : OpenClaim := { program := "ytokhnmchnfkiiaagreat", sum := "8845813c99249ce4af46c00104266093a35931c2b09f746b60b1ce5b4c38908c", func := "loop.example/g00090/laws.FnSolves", spec := "fnSolves", unfollowed := true, recurses := true, apart := false }
def FnSolvesSaid : Prop := fnSolvesRow.holds Tryz.pinned (OpenSpec.ofChange fnSolvesSpec)

/-- ITS FALSE NEIGHBOUR: 'it returns false'. Refute it at one input. -/
def fnSolvesWrong : ChangeSpec := { name := "fnSolves", fn := fun _ => fun
  | [d] => { results := [.lit (.bool false)], args := [d] }
  | _ => none }
def FnSolvesWrongFalsely : Prop := fnSolvesRow.holds Tryz.pinned (OpenSpec.ofChange fnSolvesWrong)

/-- 'laws.FnExactPartsOf': WHATEVER THE INPUT: true; the input reads as it did. -/
def fnExactPartsOfSpec : ChangeSpec := { name := "fnExactPartsOf", fn := fun _ => fun
  | [d1, d2, d3] => { results := [.lit (.bool true)], args := [d1, d2, d3] }
  | _ => none }
def fnExactPartsOfRow : OpenClaim := { program := "ytokhnmchnfkiiaagreat", sum := "8845813c99249ce4af46c00104266093a35931c2b09f746b60b1ce5b4c38908c", func := "loop.example/g00090/laws.FnExactPartsOf", spec := "fnExactPartsOf", unfollowed := true, recurses := true, apart := false }
def FnExactPartsOfSaid : Prop := fnExactPartsOfRow.holds Tryz.pinned (OpenSpec.ofChange fnExactPartsOfSpec)

/-- ITS FALSE NEIGHBOUR: 'it returns false'. Refute it at one input. -/
def fnExactPartsOfWrong : ChangeSpec := { name := "fnExactPartsOf", fn := fun _ => fun
  | [d1, d2, d3] => { results := [.lit (.bool false)], args := [d1, d2, d3] }
  | _ => none }
def FnExactPartsOfWrongFalsely : Prop := fnExactPartsOfRow.holds Tryz.pinned (OpenSpec.ofChange fnExactPartsOfWrong)

/- THE SECOND FORM. 'bulk': how many values and letters a reading holds, each counted each time it is reached (what is shared counts as often as it is met; a slice's spare places count too). A statement '..UptoSaid' is the law's where the arguments, and the package variables that the reading takes, are together of bulk at most 1048576: NARROWER than '..Said'. Prove '..Said' where nothing that the law and all that it calls make is longer than what came in: it says more and counts as full. Else prove '..UptoSaid'. A law counts once. -/
mutual
def uptoBulk {H : Type} : DataW H → Nat
  | .lit (.string bytes) => bytes.length + 1
  | .lit _ => 1
  | .nil => 1
  | .ptr d => uptoBulk d + 1
  | .slice elems spare => uptoBulkAll elems + uptoBulkAll spare + 1
  | .agg parts => uptoBulkAll parts + 1
  | .iface _ d => uptoBulk d + 1
  | .map entries => uptoBulkEntries entries + 1
  | .held _ => 1
def uptoBulkAll {H : Type} : List (DataW H) → Nat
  | [] => 0
  | d :: r => uptoBulk d + uptoBulkAll r
def uptoBulkEntries {H : Type} : List (Lit × DataW H) → Nat
  | [] => 0
  | x :: r => uptoBulkEntry x + uptoBulkEntries r
def uptoBulkEntry {H : Type} : Lit × DataW H → Nat
  | (.string bytes, d) => bytes.length + uptoBulk d + 1
  | (_, d) => uptoBulk d + 1
 end
def uptoSmall : (H : Type) → List (DataW H) → Bool := fun _ ds => decide (uptoBulkAll ds ≤ 1048576)
def OpenSpec.upto (s : _root_.Go.ChangeSpec) : _root_.Go.OpenSpec := { _root_.Go.OpenSpec.ofChange s with cond := some uptoSmall }

/-- 'laws.FnExactSolve', WHERE WHAT IT READS IS OF BULK AT MOST 1048576: true; the input reads as it did. -/
def fnExactSolveUptoRow : OpenClaim := { program := "ytokhnmchnfkiiaagreat", sum := "8845813c99249ce4af46c00104266093a35931c2b09f746b60b1ce5b4c38908c", func := "loop.example/g00090/laws.FnExactSolve", spec := "fnExactSolve", unfollowed := true, recurses := true, apart := false, narrowed := true }
def FnExactSolveUptoSaid : Prop := fnExactSolveUptoRow.holds Tryz.pinned (OpenSpec.upto fnExactSolveSpec)

/-- 'laws.FnExactFaultsOf', WHERE WHAT IT READS IS OF BULK AT MOST 1048576: true; the input reads as it did. -/
def fnExactFaultsOfUptoRow : OpenClaim := { program := "ytokhnmchnfkiiaagreat", sum := "8845813c99249ce4af46c00104266093a35931c2b09f746b60b1ce5b4c38908c", func := "loop.example/g00090/laws.FnExactFaultsOf", spec := "fnExactFaultsOf", unfollowed := true, recurses := true, apart := false, narrowed := true }
def FnExactFaultsOfUptoSaid : Prop := fnExactFaultsOfUptoRow.holds Tryz.pinned (OpenSpec.upto fnExactFaultsOfSpec)

/-- 'laws.FnExactCandidatesOf', WHERE WHAT IT READS IS OF BULK AT MOST 1048576: true; the input reads as it did. -/
def fnExactCandidatesOfUptoRow : OpenClaim := { program := "ytokhnmchnfkiiaagreat", sum := "8845813c99249ce4af46c00104266093a35931c2b09f746b60b1ce5b4c38908c", func := "loop.example/g00090/laws.FnExactCandidatesOf", spec := "fnExactCandidatesOf", unfollowed := true, recurses := true, apart := false, narrowed := true }
def FnExactCandidatesOfUptoSaid : Prop := fnExactCandidatesOfUptoRow.holds Tryz.pinned (OpenSpec.upto fnExactCandidatesOfSpec)

/-- 'laws.FnMoved', WHERE WHAT IT READS IS OF BULK AT MOST 1048576: true; the input reads as it did. -/
def fnMovedUptoRow : OpenClaim := { program := "ytokhnmchnfkiiaagreat", sum := "8845813c99249ce4af46c00104266093a35931c2b09f746b60b1ce5b4c38908c", func := "loop.example/g00090/laws.FnMoved", spec := "fnMoved", unfollowed := true, recurses := true, apart := false, narrowed := true }
def FnMovedUptoSaid : Prop := fnMovedUptoRow.holds Tryz.pinned (OpenSpec.upto fnMovedSpec)

/-- 'laws.FnExactMovePacks', WHERE WHAT IT READS IS OF BULK AT MOST 1048576: true; the input reads as it did. -/
def fnExactMovePacksUptoRow : OpenClaim := { program := "ytokhnmchnfkiiaagreat", sum := "8845813c99249ce4af46c00104266093a35931c2b09f746b60b1ce5b4c38908c", func := "loop.example/g00090/laws.FnExactMovePacks", spec := "fnExactMovePacks", unfollowed := true, recurses := true, apart := false, narrowed := true }
def FnExactMovePacksUptoSaid : Prop := fnExactMovePacksUptoRow.holds Tryz.pinned (OpenSpec.upto fnExactMovePacksSpec)

/-- 'laws.FnExactChangedNames', WHERE WHAT IT READS IS OF BULK AT MOST 1048576: true; the input reads as it did. -/
def fnExactChangedNamesUptoRow : OpenClaim := { program := "ytokhnmchnfkiiaagreat", sum := "8845813c99249ce4af46c00104266093a35931c2b09f746b60b1ce5b4c38908c", func := "loop.example/g00090/laws.FnExactChangedNames", spec := "fnExactChangedNames", unfollowed := true, recurses := true, apart := false, narrowed := true }
def FnExactChangedNamesUptoSaid : Prop := fnExactChangedNamesUptoRow.holds Tryz.pinned (OpenSpec.upto fnExactChangedNamesSpec)

/-- 'laws.FnExactJoinedNames', WHERE WHAT IT READS IS OF BULK AT MOST 1048576: true; the input reads as it did. -/
def fnExactJoinedNamesUptoRow : OpenClaim := { program := "ytokhnmchnfkiiaagreat", sum := "8845813c99249ce4af46c00104266093a35931c2b09f746b60b1ce5b4c38908c", func := "loop.example/g00090/laws.FnExactJoinedNames", spec := "fnExactJoinedNames", unfollowed := true, recurses := true, apart := false, narrowed := true }
def FnExactJoinedNamesUptoSaid : Prop := fnExactJoinedNamesUptoRow.holds Tryz.pinned (OpenSpec.upto fnExactJoinedNamesSpec)

/-- 'laws.FnExactNamesOf', WHERE WHAT IT READS IS OF BULK AT MOST 1048576: true; the input reads as it did. -/
def fnExactNamesOfUptoRow : OpenClaim := { program := "ytokhnmchnfkiiaagreat", sum := "8845813c99249ce4af46c00104266093a35931c2b09f746b60b1ce5b4c38908c", func := "loop.example/g00090/laws.FnExactNamesOf", spec := "fnExactNamesOf", unfollowed := true, recurses := true, apart := false, narrowed := true }
def FnExactNamesOfUptoSaid : Prop := fnExactNamesOfUptoRow.holds Tryz.pinned (OpenSpec.upto fnExactNamesOfSpec)

/-- 'laws.FnBudgets', WHERE WHAT IT READS IS OF BULK AT MOST 1048576: true; the input reads as it did. -/
def fnBudgetsUptoRow : OpenClaim := { program := "ytokhnmchnfkiiaagreat", sum := "8845813c99249ce4af46c00104266093a35931c2b09f746b60b1ce5b4c38908c", func := "loop.example/g00090/laws.FnBudgets", spec := "fnBudgets", unfollowed := true, recurses := true, apart := false, narrowed := true }
def FnBudgetsUptoSaid : Prop := fnBudgetsUptoRow.holds Tryz.pinned (OpenSpec.upto fnBudgetsSpec)

/-- 'laws.FnSolves', WHERE WHAT IT READS IS OF BULK AT MOST 1048576: true; the input reads as it did. -/
def fnSolvesUptoRow : OpenClaim := { program := "ytokhnmchnfkiiaagreat", sum := "8845813c99249ce4af46c00104266093a35931c2b09f746b60b1ce5b4c38908c", func := "loop.example/g00090/laws.FnSolves", spec := "fnSolves", unfollowed := true, recurses := true, apart := false, narrowed := true }
def FnSolvesUptoSaid : Prop := fnSolvesUptoRow.holds Tryz.pinned (OpenSpec.upto fnSolvesSpec)

/-- 'laws.FnExactPartsOf', WHERE WHAT IT READS IS OF BULK AT MOST 1048576: true; the input reads as it did. -/
def fnExactPartsOfUptoRow : OpenClaim := { program := "ytokhnmchnfkiiaagreat", sum := "8845813c99249ce4af46c00104266093a35931c2b09f746b60b1ce5b4c38908c", func := "loop.example/g00090/laws.FnExactPartsOf", spec := "fnExactPartsOf", unfollowed := true, recurses := true, apart := false, narrowed := true }
def FnExactPartsOfUptoSaid : Prop := fnExactPartsOfUptoRow.holds Tryz.pinned (OpenSpec.upto fnExactPartsOfSpec)

end Rows
end Go.Proofs.YtokhnmchnfkiiaaGreat
