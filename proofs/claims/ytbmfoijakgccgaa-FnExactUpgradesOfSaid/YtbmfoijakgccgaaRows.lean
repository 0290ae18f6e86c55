/-
  No cell of these rows narrows 'for every input' (looked for: loops, veiled, ifaces, maps, wideKeys, modest, calm, conditions, laid).
  DERIVED. THE GIVEN ROWS OF THIS SEAT. 17 by the template 'for every input the law returns true; each argument reads behind the call as it read before'; 0 by the template 'total and deterministic' (their statements: YtbmfoijakgccgaaTotals.lean).
  GIVEN WITH THE SEED: the statements are not yours to turn. If you find one false, say at which input.
  Laid BY PROGRAM, IN A SANDBOX (cutbox-rows.mjs): the forced cells as the released guide's own fill.sh prints them over the translation f607fdd227adfaee… (all of the seat's roots in one cut). By AI agents, Wed Nov 11 2026. No macro, syntax, notation, axiom, sorry.
-/
import Derived.Test.YtbmfoijakgccgaaChecked
import GoSem.Claim
import GoSem.ClaimJoined
import GoSem.ClaimMapViews
import Derived.JoinedTies
import Derived.KernelRfl
namespace Go.Proofs.Ytbmfoijakgccgaa
/- THE CELL 'sum', in the pinned program and in every row, IS THE sha256 OF THE DUMP (.gsa) THAT YtbmfoijakgccgaaProg.lean LOADS. Nothing in Lean hashes anything: it is a label: what it is worth is what the hold of that sum in a sandbox is worth. -/
noncomputable def Try.pinned : Pinned := { name := "ytbmfoijakgccgaa", sum := "f607fdd227adfaeecf0ebbd20c0b15c3246474f88d768faca114a07ee362957e", checked := Try.checked }
namespace Rows
def none {H : Type} : Left H := { results := [], args := [] }

/-- 'laws.FnExactPackFault': WHATEVER THE INPUT: true; the input reads as it did. -/
def fnExactPackFaultSpec : ChangeSpec := { name := "fnExactPackFault", fn := fun _ => fun
  | [d] => { results := [.lit (.bool true)], args := [d] }
  | _ => none }
def fnExactPackFaultRow : OpenClaim := { program := "ytbmfoijakgccgaa", sum := "f607fdd227adfaeecf0ebbd20c0b15c3246474f88d768faca114a07ee362957e", func := "loop.example/g00090/laws.FnExactPackFault", spec := "fnExactPackFault", unfollowed := true, recurses := true, apart := false }
def FnExactPackFaultSaid : Prop := fnExactPackFaultRow.holds Try.pinned (OpenSpec.ofChange fnExactPackFaultSpec)

/-- ITS FALSE NEIGHBOUR: 'it returns false'. Refute it at one input. -/
def fnExactPackFaultWrong : ChangeSpec := { name := "fnExactPackFault", fn := fun _ => fun
  | [d] => { results := [.lit (.bool false)], args := [d] }
  | _ => none }
def FnExactPackFaultWrongFalsely : Prop := fnExactPackFaultRow.holds Try.pinned (OpenSpec.ofChange fnExactPackFaultWrong)

/-- 'laws.FnExactGivesTerm': WHATEVER THE INPUT: true; the input reads as it did. -/
def fnExactGivesTermSpec : ChangeSpec := { name := "fnExactGivesTerm", fn := fun _ => fun
  | [d1, d2] => { results := [.lit (.bool true)], args := [d1, d2] }
  | _ => none }
def fnExactGivesTermRow : OpenClaim := { program := "ytbmfoijakgccgaa", sum := "f607fdd227adfaeecf0ebbd20c0b15c3246474f88d768faca114a07ee362957e", func := "loop.example/g00090/laws.FnExactGivesTerm", spec := "fnExactGivesTerm", unfollowed := true, recurses := true, apart := false }
def FnExactGivesTermSaid : Prop := fnExactGivesTermRow.holds Try.pinned (OpenSpec.ofChange fnExactGivesTermSpec)

/-- ITS FALSE NEIGHBOUR: 'it returns false'. Refute it at one input. -/
def fnExactGivesTermWrong : ChangeSpec := { name := "fnExactGivesTerm", fn := fun _ => fun
  | [d1, d2] => { results := [.lit (.bool false)], args := [d1, d2] }
  | _ => none }
def FnExactGivesTermWrongFalsely : Prop := fnExactGivesTermRow.holds Try.pinned (OpenSpec.ofChange fnExactGivesTermWrong)

/-- 'laws.FnNewest': WHATEVER THE INPUT: true; the input reads as it did. -/
def fnNewestSpec : ChangeSpec := { name := "fnNewest", fn := fun _ => fun
  | [d] => { results := [.lit (.bool true)], args := [d] }
  | _ => none }
def fnNewestRow : OpenClaim := { program := "ytbmfoijakgccgaa", sum := "f607fdd227adfaeecf0ebbd20c0b15c3246474f88d768faca114a07ee362957e", func := "loop.example/g00090/laws.FnNewest", spec := "fnNewest", unfollowed := true, recurses := true, apart := false }
def FnNewestSaid : Prop := fnNewestRow.holds Try.pinned (OpenSpec.ofChange fnNewestSpec)

/-- ITS FALSE NEIGHBOUR: 'it returns false'. Refute it at one input. -/
def fnNewestWrong : ChangeSpec := { name := "fnNewest", fn := fun _ => fun
  | [d] => { results := [.lit (.bool false)], args := [d] }
  | _ => none }
def FnNewestWrongFalsely : Prop := fnNewestRow.holds Try.pinned (OpenSpec.ofChange fnNewestWrong)

/-- 'laws.FnExactCatalogFault': WHATEVER THE INPUT: true; the input reads as it did. -/
def fnExactCatalogFaultSpec : ChangeSpec := { name := "fnExactCatalogFault", fn := fun _ => fun
  | [d] => { results := [.lit (.bool true)], args := [d] }
  | _ => none }
def fnExactCatalogFaultRow : OpenClaim := { program := "ytbmfoijakgccgaa", sum := "f607fdd227adfaeecf0ebbd20c0b15c3246474f88d768faca114a07ee362957e", func := "loop.example/g00090/laws.FnExactCatalogFault", spec := "fnExactCatalogFault", unfollowed := true, recurses := true, apart := false }
def FnExactCatalogFaultSaid : Prop := fnExactCatalogFaultRow.holds Try.pinned (OpenSpec.ofChange fnExactCatalogFaultSpec)

/-- ITS FALSE NEIGHBOUR: 'it returns false'. Refute it at one input. -/
def fnExactCatalogFaultWrong : ChangeSpec := { name := "fnExactCatalogFault", fn := fun _ => fun
  | [d] => { results := [.lit (.bool false)], args := [d] }
  | _ => none }
def FnExactCatalogFaultWrongFalsely : Prop := fnExactCatalogFaultRow.holds Try.pinned (OpenSpec.ofChange fnExactCatalogFaultWrong)

/-- 'laws.FnExactFindPack': WHATEVER THE INPUT: true; the input reads as it did. -/
def fnExactFindPackSpec : ChangeSpec := { name := "fnExactFindPack", fn := fun _ => fun
  | [d1, d2, d3] => { results := [.lit (.bool true)], args := [d1, d2, d3] }
  | _ => none }
def fnExactFindPackRow : OpenClaim := { program := "ytbmfoijakgccgaa", sum := "f607fdd227adfaeecf0ebbd20c0b15c3246474f88d768faca114a07ee362957e", func := "loop.example/g00090/laws.FnExactFindPack", spec := "fnExactFindPack", unfollowed := true, recurses := true, apart := false }
def FnExactFindPackSaid : Prop := fnExactFindPackRow.holds Try.pinned (OpenSpec.ofChange fnExactFindPackSpec)

/-- ITS FALSE NEIGHBOUR: 'it returns false'. Refute it at one input. -/
def fnExactFindPackWrong : ChangeSpec := { name := "fnExactFindPack", fn := fun _ => fun
  | [d1, d2, d3] => { results := [.lit (.bool false)], args := [d1, d2, d3] }
  | _ => none }
def FnExactFindPackWrongFalsely : Prop := fnExactFindPackRow.holds Try.pinned (OpenSpec.ofChange fnExactFindPackWrong)

/-- 'laws.FnExactSetFault': WHATEVER THE INPUT: true; the input reads as it did. -/
def fnExactSetFaultSpec : ChangeSpec := { name := "fnExactSetFault", fn := fun _ => fun
  | [d1, d2] => { results := [.lit (.bool true)], args := [d1, d2] }
  | _ => none }
def fnExactSetFaultRow : OpenClaim := { program := "ytbmfoijakgccgaa", sum := "f607fdd227adfaeecf0ebbd20c0b15c3246474f88d768faca114a07ee362957e", func := "loop.example/g00090/laws.FnExactSetFault", spec := "fnExactSetFault", unfollowed := true, recurses := true, apart := false }
def FnExactSetFaultSaid : Prop := fnExactSetFaultRow.holds Try.pinned (OpenSpec.ofChange fnExactSetFaultSpec)

/-- ITS FALSE NEIGHBOUR: 'it returns false'. Refute it at one input. -/
def fnExactSetFaultWrong : ChangeSpec := { name := "fnExactSetFault", fn := fun _ => fun
  | [d1, d2] => { results := [.lit (.bool false)], args := [d1, d2] }
  | _ => none }
def FnExactSetFaultWrongFalsely : Prop := fnExactSetFaultRow.holds Try.pinned (OpenSpec.ofChange fnExactSetFaultWrong)

/-- 'laws.FnExactNewestOf': WHATEVER THE INPUT: true; the input reads as it did. -/
def fnExactNewestOfSpec : ChangeSpec := { name := "fnExactNewestOf", fn := fun _ => fun
  | [d1, d2] => { results := [.lit (.bool true)], args := [d1, d2] }
  | _ => none }
def fnExactNewestOfRow : OpenClaim := { program := "ytbmfoijakgccgaa", sum := "f607fdd227adfaeecf0ebbd20c0b15c3246474f88d768faca114a07ee362957e", func := "loop.example/g00090/laws.FnExactNewestOf", spec := "fnExactNewestOf", unfollowed := true, recurses := true, apart := false }
def FnExactNewestOfSaid : Prop := fnExactNewestOfRow.holds Try.pinned (OpenSpec.ofChange fnExactNewestOfSpec)

/-- ITS FALSE NEIGHBOUR: 'it returns false'. Refute it at one input. -/
def fnExactNewestOfWrong : ChangeSpec := { name := "fnExactNewestOf", fn := fun _ => fun
  | [d1, d2] => { results := [.lit (.bool false)], args := [d1, d2] }
  | _ => none }
def FnExactNewestOfWrongFalsely : Prop := fnExactNewestOfRow.holds Try.pinned (OpenSpec.ofChange fnExactNewestOfWrong)

/-- 'laws.FnExactPackBytes': WHATEVER THE INPUT: true; the input reads as it did. -/
def fnExactPackBytesSpec : ChangeSpec := { name := "fnExactPackBytes", fn := fun _ => fun
  | [d] => { results := [.lit (.bool true)], args := [d] }
  | _ => none }
def fnExactPackBytesRow : OpenClaim := { program := "ytbmfoijakgccgaa", sum := "f607fdd227adfaeecf0ebbd20c0b15c3246474f88d768faca114a07ee362957e", func := "loop.example/g00090/laws.FnExactPackBytes", spec := "fnExactPackBytes", unfollowed := true, recurses := true, apart := false }
def FnExactPackBytesSaid : Prop := fnExactPackBytesRow.holds Try.pinned (OpenSpec.ofChange fnExactPackBytesSpec)

/-- ITS FALSE NEIGHBOUR: 'it returns false'. Refute it at one input. -/
def fnExactPackBytesWrong : ChangeSpec := { name := "fnExactPackBytes", fn := fun _ => fun
  | [d] => { results := [.lit (.bool false)], args := [d] }
  | _ => none }
def FnExactPackBytesWrongFalsely : Prop := fnExactPackBytesRow.holds Try.pinned (OpenSpec.ofChange fnExactPackBytesWrong)

/-- 'laws.FnExactSolveFault': WHATEVER THE INPUT: true; the input reads as it did. -/
def fnExactSolveFaultSpec : ChangeSpec := { name := "fnExactSolveFault", fn := fun _ => fun
  | [d1, d2, d3, d4] => { results := [.lit (.bool true)], args := [d1, d2, d3, d4] }
  | _ => none }
def fnExactSolveFaultRow : OpenClaim := { program := "ytbmfoijakgccgaa", sum := "f607fdd227adfaeecf0ebbd20c0b15c3246474f88d768faca114a07ee362957e", func := "loop.example/g00090/laws.FnExactSolveFault", spec := "fnExactSolveFault", unfollowed := true, recurses := true, apart := false }
def FnExactSolveFaultSaid : Prop := fnExactSolveFaultRow.holds Try.pinned (OpenSpec.ofChange fnExactSolveFaultSpec)

/-- ITS FALSE NEIGHBOUR: 'it returns false'. Refute it at one input. -/
def fnExactSolveFaultWrong : ChangeSpec := { name := "fnExactSolveFault", fn := fun _ => fun
  | [d1, d2, d3, d4] => { results := [.lit (.bool false)], args := [d1, d2, d3, d4] }
  | _ => none }
def FnExactSolveFaultWrongFalsely : Prop := fnExactSolveFaultRow.holds Try.pinned (OpenSpec.ofChange fnExactSolveFaultWrong)

/-- 'laws.FnExactConsistent': WHATEVER THE INPUT: true; the input reads as it did. -/
def fnExactConsistentSpec : ChangeSpec := { name := "fnExactConsistent", fn := fun _ => fun
  | [d1, d2] => { results := [.lit (.bool true)], args := [d1, d2] }
  | _ => none }
def fnExactConsistentRow : OpenClaim := { program := "ytbmfoijakgccgaa", sum := "f607fdd227adfaeecf0ebbd20c0b15c3246474f88d768faca114a07ee362957e", func := "loop.example/g00090/laws.FnExactConsistent", spec := "fnExactConsistent", unfollowed := true, recurses := true, apart := false }
def FnExactConsistentSaid : Prop := fnExactConsistentRow.holds Try.pinned (OpenSpec.ofChange fnExactConsistentSpec)

/-- ITS FALSE NEIGHBOUR: 'it returns false'. Refute it at one input. -/
def fnExactConsistentWrong : ChangeSpec := { name := "fnExactConsistent", fn := fun _ => fun
  | [d1, d2] => { results := [.lit (.bool false)], args := [d1, d2] }
  | _ => none }
def FnExactConsistentWrongFalsely : Prop := fnExactConsistentRow.holds Try.pinned (OpenSpec.ofChange fnExactConsistentWrong)

/-- 'laws.FnExactCostOf': WHATEVER THE INPUT: true; the input reads as it did. -/
def fnExactCostOfSpec : ChangeSpec := { name := "fnExactCostOf", fn := fun _ => fun
  | [d1, d2, d3] => { results := [.lit (.bool true)], args := [d1, d2, d3] }
  | _ => none }
def fnExactCostOfRow : OpenClaim := { program := "ytbmfoijakgccgaa", sum := "f607fdd227adfaeecf0ebbd20c0b15c3246474f88d768faca114a07ee362957e", func := "loop.example/g00090/laws.FnExactCostOf", spec := "fnExactCostOf", unfollowed := true, recurses := true, apart := false }
def FnExactCostOfSaid : Prop := fnExactCostOfRow.holds Try.pinned (OpenSpec.ofChange fnExactCostOfSpec)

/-- ITS FALSE NEIGHBOUR: 'it returns false'. Refute it at one input. -/
def fnExactCostOfWrong : ChangeSpec := { name := "fnExactCostOf", fn := fun _ => fun
  | [d1, d2, d3] => { results := [.lit (.bool false)], args := [d1, d2, d3] }
  | _ => none }
def FnExactCostOfWrongFalsely : Prop := fnExactCostOfRow.holds Try.pinned (OpenSpec.ofChange fnExactCostOfWrong)

/-- 'laws.FnExactHoldsAll': WHATEVER THE INPUT: true; the input reads as it did. -/
def fnExactHoldsAllSpec : ChangeSpec := { name := "fnExactHoldsAll", fn := fun _ => fun
  | [d1, d2, d3] => { results := [.lit (.bool true)], args := [d1, d2, d3] }
  | _ => none }
def fnExactHoldsAllRow : OpenClaim := { program := "ytbmfoijakgccgaa", sum := "f607fdd227adfaeecf0ebbd20c0b15c3246474f88d768faca114a07ee362957e", func := "loop.example/g00090/laws.FnExactHoldsAll", spec := "fnExactHoldsAll", unfollowed := true, recurses := true, apart := false }
def FnExactHoldsAllSaid : Prop := fnExactHoldsAllRow.holds Try.pinned (OpenSpec.ofChange fnExactHoldsAllSpec)

/-- ITS FALSE NEIGHBOUR: 'it returns false'. Refute it at one input. -/
def fnExactHoldsAllWrong : ChangeSpec := { name := "fnExactHoldsAll", fn := fun _ => fun
  | [d1, d2, d3] => { results := [.lit (.bool false)], args := [d1, d2, d3] }
  | _ => none }
def FnExactHoldsAllWrongFalsely : Prop := fnExactHoldsAllRow.holds Try.pinned (OpenSpec.ofChange fnExactHoldsAllWrong)

/-- 'laws.FnExactPossible': WHATEVER THE INPUT: true; the input reads as it did. -/
def fnExactPossibleSpec : ChangeSpec := { name := "fnExactPossible", fn := fun _ => fun
  | [d1, d2] => { results := [.lit (.bool true)], args := [d1, d2] }
  | _ => none }
def fnExactPossibleRow : OpenClaim := { program := "ytbmfoijakgccgaa", sum := "f607fdd227adfaeecf0ebbd20c0b15c3246474f88d768faca114a07ee362957e", func := "loop.example/g00090/laws.FnExactPossible", spec := "fnExactPossible", unfollowed := true, recurses := true, apart := false }
def FnExactPossibleSaid : Prop := fnExactPossibleRow.holds Try.pinned (OpenSpec.ofChange fnExactPossibleSpec)

/-- ITS FALSE NEIGHBOUR: 'it returns false'. Refute it at one input. -/
def fnExactPossibleWrong : ChangeSpec := { name := "fnExactPossible", fn := fun _ => fun
  | [d1, d2] => { results := [.lit (.bool false)], args := [d1, d2] }
  | _ => none }
def FnExactPossibleWrongFalsely : Prop := fnExactPossibleRow.holds Try.pinned (OpenSpec.ofChange fnExactPossibleWrong)

/-- 'laws.FnExactUnmetOf': WHATEVER THE INPUT: true; the input reads as it did. -/
def fnExactUnmetOfSpec : ChangeSpec := { name := "fnExactUnmetOf", fn := fun _ => fun
  | [d1, d2, d3] => { results := [.lit (.bool true)], args := [d1, d2, d3] }
  | _ => none }
def fnExactUnmetOfRow : OpenClaim := { program := "ytbmfoijakgccgaa", sum := "f607fdd227adfaeecf0ebbd20c0b15c3246474f88d768faca114a07ee362957e", func := "loop.example/g00090/laws.FnExactUnmetOf", spec := "fnExactUnmetOf", unfollowed := true, recurses := true, apart := false }
def FnExactUnmetOfSaid : Prop := fnExactUnmetOfRow.holds Try.pinned (OpenSpec.ofChange fnExactUnmetOfSpec)

/-- ITS FALSE NEIGHBOUR: 'it returns false'. Refute it at one input. -/
def fnExactUnmetOfWrong : ChangeSpec := { name := "fnExactUnmetOf", fn := fun _ => fun
  | [d1, d2, d3] => { results := [.lit (.bool false)], args := [d1, d2, d3] }
  | _ => none }
def FnExactUnmetOfWrongFalsely : Prop := fnExactUnmetOfRow.holds Try.pinned (OpenSpec.ofChange fnExactUnmetOfWrong)

/-- 'laws.FnExactGiversOf': WHATEVER THE INPUT: true; the input reads as it did. -/
def fnExactGiversOfSpec : ChangeSpec := { name := "fnExactGiversOf", fn := fun _ => fun
  | [d1, d2, d3] => { results := [.lit (.bool true)], args := [d1, d2, d3] }
  | _ => none }
def fnExactGiversOfRow : OpenClaim := { program := "ytbmfoijakgccgaa", sum := "f607fdd227adfaeecf0ebbd20c0b15c3246474f88d768faca114a07ee362957e", func := "loop.example/g00090/laws.FnExactGiversOf", spec := "fnExactGiversOf", unfollowed := true, recurses := true, apart := false }
def FnExactGiversOfSaid : Prop := fnExactGiversOfRow.holds Try.pinned (OpenSpec.ofChange fnExactGiversOfSpec)

/-- ITS FALSE NEIGHBOUR: 'it returns false'. Refute it at one input. -/
def fnExactGiversOfWrong : ChangeSpec := { name := "fnExactGiversOf", fn := fun _ => fun
  | [d1, d2, d3] => { results := [.lit (.bool false)], args := [d1, d2, d3] }
  | _ => none }
def FnExactGiversOfWrongFalsely : Prop := fnExactGiversOfRow.holds Try.pinned (OpenSpec.ofChange fnExactGiversOfWrong)

/-- 'laws.FnExactUpgradesOf': WHATEVER THE INPUT: true; the input reads as it did. -/
def fnExactUpgradesOfSpec : ChangeSpec := { name := "fnExactUpgradesOf", fn := fun _ => fun
  | [d1, d2] => { results := [.lit (.bool true)], args := [d1, d2] }
  | _ => none }
def fnExactUpgradesOfRow : OpenClaim := { program := "ytbmfoijakgccgaa", sum := "f607fdd227adfaeecf0ebbd20c0b15c3246474f88d768faca114a07ee362957e", func := "loop.example/g00090/laws.FnExactUpgradesOf", spec := "fnExactUpgradesOf", unfollowed := true, recurses := true, apart := false }
def FnExactUpgradesOfSaid : Prop := fnExactUpgradesOfRow.holds Try.pinned (OpenSpec.ofChange fnExactUpgradesOfSpec)

/-- ITS FALSE NEIGHBOUR: 'it returns false'. Refute it at one input. -/
def fnExactUpgradesOfWrong : ChangeSpec := { name := "fnExactUpgradesOf", fn := fun _ => fun
  | [d1, d2] => { results := [.lit (.bool false)], args := [d1, d2] }
  | _ => none }
def FnExactUpgradesOfWrongFalsely : Prop := fnExactUpgradesOfRow.holds Try.pinned (OpenSpec.ofChange fnExactUpgradesOfWrong)

/-- 'laws.FnExactMentionsOf': WHATEVER THE INPUT: true; the input reads as it did. -/
def fnExactMentionsOfSpec : ChangeSpec := { name := "fnExactMentionsOf", fn := fun _ => fun
  | [d] => { results := [.lit (.bool true)], args := [d] }
  | _ => none }
def fnExactMentionsOfRow : OpenClaim := { program := "ytbmfoijakgccgaa", sum := "f607fdd227adfaeecf0ebbd20c0b15c3246474f88d768faca114a07ee362957e", func := "loop.example/g00090/laws.FnExactMentionsOf", spec := "fnExactMentionsOf", unfollowed := true, recurses := true, apart := false }
def FnExactMentionsOfSaid : Prop := fnExactMentionsOfRow.holds Try.pinned (OpenSpec.ofChange fnExactMentionsOfSpec)

/-- ITS FALSE NEIGHBOUR: 'it returns false'. Refute it at one input. -/
def fnExactMentionsOfWrong : ChangeSpec := { name := "fnExactMentionsOf", fn := fun _ => fun
  | [d] => { results := [.lit (.bool false)], args := [d] }
  | _ => none }
def FnExactMentionsOfWrongFalsely : Prop := fnExactMentionsOfRow.holds Try.pinned (OpenSpec.ofChange fnExactMentionsOfWrong)

/- THE SECOND FORM. 'bulk': how many values and letters a reading holds, each counted each time it is reached (what is shared counts as often as it is met; a slice's spare places count too). A statement '..UptoSaid' is the law's where the arguments, and the package variables that the reading takes, are together of bulk at most 1048576: NARROWER than '..Said'. Prove '..Said' where nothing that the law and all that it calls make is longer than what came in: it says more and counts as full. Else prove '..UptoSaid'. A law counts once. -/
mutual
def uptoBulk {H : Type} : DataW H → Nat
  | .lit (.string bytes) => bytes.length + 1
  | .lit _ => 1
  | .nil => 1
  | .ptr d => uptoBulk d + 1
  | .slice elems spare => uptoBulkAll elems + uptoBulkAll spare + 1
  | .agg parts => uptoBulkAll parts + 1
  | .iface _ d => uptoBulk d + 1
  | .map entries => uptoBulkEntries entries + 1
  | .held _ => 1
def uptoBulkAll {H : Type} : List (DataW H) → Nat
  | [] => 0
  | d :: r => uptoBulk d + uptoBulkAll r
def uptoBulkEntries {H : Type} : List (Lit × DataW H) → Nat
  | [] => 0
  | x :: r => uptoBulkEntry x + uptoBulkEntries r
def uptoBulkEntry {H : Type} : Lit × DataW H → Nat
  | (.string bytes, d) => bytes.length + uptoBulk d + 1
  | (_, d) => uptoBulk d + 1
 end
def uptoSmall : (H : Type) → List (DataW H) → Bool := fun _ ds => decide (uptoBulkAll ds ≤ 1048576)
def OpenSpec.upto (s : _root_.Go.ChangeSpec) : _root_.Go.OpenSpec := { _root_.Go.OpenSpec.ofChange s with cond := some uptoSmall }

/-- 'laws.FnExactPackFault', WHERE WHAT IT READS IS OF BULK AT MOST 1048576: true; the input reads as it did. -/
def fnExactPackFaultUptoRow : OpenClaim := { program := "ytbmfoijakgccgaa", sum := "f607fdd227adfaeecf0ebbd20c0b15c3246474f88d768faca114a07ee362957e", func := "loop.example/g00090/laws.FnExactPackFault", spec := "fnExactPackFault", unfollowed := true, recurses := true, apart := false, narrowed := true }
def FnExactPackFaultUptoSaid : Prop := fnExactPackFaultUptoRow.holds Try.pinned (OpenSpec.upto fnExactPackFaultSpec)

/-- 'laws.FnExactGivesTerm', WHERE WHAT IT READS IS OF BULK AT MOST 1048576: true; the input reads as it did. -/
def fnExactGivesTermUptoRow : OpenClaim := { program := "ytbmfoijakgccgaa", sum := "f607fdd227adfaeecf0ebbd20c0b15c3246474f88d768faca114a07ee362957e", func := "loop.example/g00090/laws.FnExactGivesTerm", spec := "fnExactGivesTerm", unfollowed := true, recurses := true, apart := false, narrowed := true }
def FnExactGivesTermUptoSaid : Prop := fnExactGivesTermUptoRow.holds Try.pinned (OpenSpec.upto fnExactGivesTermSpec)

/-- 'laws.FnNewest', WHERE WHAT IT READS IS OF BULK AT MOST 1048576: true; the input reads as it did. -/
def fnNewestUptoRow : OpenClaim := { program := "ytbmfoijakgccgaa", sum := "f607fdd227adfaeecf0ebbd20c0b15c3246474f88d768faca114a07ee362957e", func := "loop.example/g00090/laws.FnNewest", spec := "fnNewest", unfollowed := true, recurses := true, apart := false, narrowed := true }
def FnNewestUptoSaid : Prop := fnNewestUptoRow.holds Try.pinned (OpenSpec.upto fnNewestSpec)

/-- 'laws.FnExactCatalogFault', WHERE WHAT IT READS IS OF BULK AT MOST 1048576: true; the input reads as it did. -/
def fnExactCatalogFaultUptoRow : OpenClaim := { program := "ytbmfoijakgccgaa", sum := "f607fdd227adfaeecf0ebbd20c0b15c3246474f88d768faca114a07ee362957e", func := "loop.example/g00090/laws.FnExactCatalogFault", spec := "fnExactCatalogFault", unfollowed := true, recurses := true, apart := false, narrowed := true }
def FnExactCatalogFaultUptoSaid : Prop := fnExactCatalogFaultUptoRow.holds Try.pinned (OpenSpec.upto fnExactCatalogFaultSpec)

/-- 'laws.FnExactFindPack', WHERE WHAT IT READS IS OF BULK AT MOST 1048576: true; the input reads as it did. -/
def fnExactFindPackUptoRow : OpenClaim := { program := "ytbmfoijakgccgaa", sum := "f607fdd227adfaeecf0ebbd20c0b15c3246474f88d768faca114a07ee362957e", func := "loop.example/g00090/laws.FnExactFindPack", spec := "fnExactFindPack", unfollowed := true, recurses := true, apart := false, narrowed := true }
def FnExactFindPackUptoSaid : Prop := fnExactFindPackUptoRow.holds Try.pinned (OpenSpec.upto fnExactFindPackSpec)

/-- 'laws.FnExactSetFault', WHERE WHAT IT READS IS OF BULK AT MOST 1048576: true; the input reads as it did. -/
def fnExactSetFaultUptoRow : OpenClaim := { program := "ytbmfoijakgccgaa", sum := "f607fdd227adfaeecf0ebbd20c0b15c3246474f88d768faca114a07ee362957e", func := "loop.example/g00090/laws.FnExactSetFault", spec := "fnExactSetFault", unfollowed := true, recurses := true, apart := false, narrowed := true }
def FnExactSetFaultUptoSaid : Prop := fnExactSetFaultUptoRow.holds Try.pinned (OpenSpec.upto fnExactSetFaultSpec)

/-- 'laws.FnExactNewestOf', WHERE WHAT IT READS IS OF BULK AT MOST 1048576: true; the input reads as it did. -/
def fnExactNewestOfUptoRow : OpenClaim := { program := "ytbmfoijakgccgaa", sum := "f607fdd227adfaeecf0ebbd20c0b15c3246474f88d768faca114a07ee362957e", func := "loop.example/g00090/laws.FnExactNewestOf", spec := "fnExactNewestOf", unfollowed := true, recurses := true, apart := false, narrowed := true }
def FnExactNewestOfUptoSaid : Prop := fnExactNewestOfUptoRow.holds Try.pinned (OpenSpec.upto fnExactNewestOfSpec)

/-- 'laws.FnExactPackBytes', WHERE WHAT IT READS IS OF BULK AT MOST 1048576: true; the input reads as it did. -/
def fnExactPackBytesUptoRow : OpenClaim := { program := "ytbmfoijakgccgaa", sum := "f607fdd227adfaeecf0ebbd20c0b15c3246474f88d768faca114a07ee362957e", func := "loop.example/g00090/laws.FnExactPackBytes", spec := "fnExactPackBytes", unfollowed := true, recurses := true, apart := false, narrowed := true }
def FnExactPackBytesUptoSaid : Prop := fnExactPackBytesUptoRow.holds Try.pinned (OpenSpec.upto fnExactPackBytesSpec)

/-- 'laws.FnExactSolveFault', WHERE WHAT IT READS IS OF BULK AT MOST 1048576: true; the input reads as it did. -/
def fnExactSolveFaultUptoRow : OpenClaim := { program := "ytbmfoijakgccgaa", sum := "f607fdd227adfaeecf0ebbd20c0b15c3246474f88d768faca114a07ee362957e", func := "loop.example/g00090/laws.FnExactSolveFault", spec := "fnExactSolveFault", unfollowed := true, recurses := true, apart := false, narrowed := true }
def FnExactSolveFaultUptoSaid : Prop := fnExactSolveFaultUptoRow.holds Try.pinned (OpenSpec.upto fnExactSolveFaultSpec)

/-- 'laws.FnExactConsistent', WHERE WHAT IT READS IS OF BULK AT MOST 1048576: true; the input reads as it did. -/
def fnExactConsistentUptoRow : OpenClaim := { program := "ytbmfoijakgccgaa", sum := "f607fdd227adfaeecf0ebbd20c0b15c3246474f88d768faca114a07ee362957e", func := "loop.example/g00090/laws.FnExactConsistent", spec := "fnExactConsistent", unfollowed := true, recurses := true, apart := false, narrowed := true }
def FnExactConsistentUptoSaid : Prop := fnExactConsistentUptoRow.holds Try.pinned (OpenSpec.upto fnExactConsistentSpec)

/-- 'laws.FnExactCostOf', WHERE WHAT IT READS IS OF BULK AT MOST 1048576: true; the input reads as it did. -/
def fnExactCostOfUptoRow : OpenClaim := { program := "ytbmfoijakgccgaa", sum := "f607fdd227adfaeecf0ebbd20c0b15c3246474f88d768faca114a07ee362957e", func := "loop.example/g00090/laws.FnExactCostOf", spec := "fnExactCostOf", unfollowed := true, recurses := true, apart := false, narrowed := true }
def FnExactCostOfUptoSaid : Prop := fnExactCostOfUptoRow.holds Try.pinned (OpenSpec.upto fnExactCostOfSpec)

/-- 'laws.FnExactHoldsAll', WHERE WHAT IT READS IS OF BULK AT MOST 1048576: true; the input reads as it did. -/
def fnExactHoldsAllUptoRow : OpenClaim := { program := "ytbmfoijakgccgaa", sum := "f607fdd227adfaeecf0ebbd20c0b15c3246474f88d768faca114a07ee362957e", func := "loop.example/g00090/laws.FnExactHoldsAll", spec := "fnExactHoldsAll", unfollowed := true, recurses := true, apart := false, narrowed := true }
def FnExactHoldsAllUptoSaid : Prop := fnExactHoldsAllUptoRow.holds Try.pinned (OpenSpec.upto fnExactHoldsAllSpec)

/-- 'laws.FnExactPossible', WHERE WHAT IT READS IS OF BULK AT MOST 1048576: true; the input reads as it did. -/
def fnExactPossibleUptoRow : OpenClaim := { program := "ytbmfoijakgccgaa", sum := "f607fdd227adfaeecf0ebbd20c0b15c3246474f88d768faca114a07ee362957e", func := "loop.example/g00090/laws.FnExactPossible", spec := "fnExactPossible", unfollowed := true, recurses := true, apart := false, narrowed := true }
def FnExactPossibleUptoSaid : Prop := fnExactPossibleUptoRow.holds Try.pinned (OpenSpec.upto fnExactPossibleSpec)

/-- 'laws.FnExactUnmetOf', WHERE WHAT IT READS IS OF BULK AT MOST 1048576: true; the input reads as it did. -/
def fnExactUnmetOfUptoRow : OpenClaim := { program := "ytbmfoijakgccgaa", sum := "f607fdd227adfaeecf0ebbd20c0b15c3246474f88d768faca114a07ee362957e", func := "loop.example/g00090/laws.FnExactUnmetOf", spec := "fnExactUnmetOf", unfollowed := true, recurses := true, apart := false, narrowed := true }
def FnExactUnmetOfUptoSaid : Prop := fnExactUnmetOfUptoRow.holds Try.pinned (OpenSpec.upto fnExactUnmetOfSpec)

/-- 'laws.FnExactGiversOf', WHERE WHAT IT READS IS OF BULK AT MOST 1048576: true; the input reads as it did. -/
def fnExactGiversOfUptoRow : OpenClaim := { program := "ytbmfoijakgccgaa", sum := "f607fdd227adfaeecf0ebbd20c0b15c3246474f88d768faca114a07ee362957e", func := "loop.example/g00090/laws.FnExactGiversOf", spec := "fnExactGiversOf", unfollowed := true, recurses := true, apart := false, narrowed := true }
def FnExactGiversOfUptoSaid : Prop := fnExactGiversOfUptoRow.holds Try.pinned (OpenSpec.upto fnExactGiversOfSpec)

/-- 'laws.FnExactUpgradesOf', WHERE WHAT IT READS IS OF BULK AT MOST 1048576: true; the input reads as it did. -/
def fnExactUpgradesOfUptoRow : OpenClaim := { program := "ytbmfoijakgccgaa", sum := "f607fdd227adfaeecf0ebbd20c0b15c3246474f88d768faca114a07ee362957e", func := "loop.example/g00090/laws.FnExactUpgradesOf", spec := "fnExactUpgradesOf", unfollowed := true, recurses := true, apart := false, narrowed := true }
def FnExactUpgradesOfUptoSaid : Prop := fnExactUpgradesOfUptoRow.holds Try.pinned (OpenSpec.upto fnExactUpgradesOfSpec)

/-- 'laws.FnExactMentionsOf', WHERE WHAT IT READS IS OF BULK AT MOST 1048576: true; the input reads as it did. -/
def fnExactMentionsOfUptoRow : OpenClaim := { program := "ytbmfoijakgccgaa", sum := "f607fdd227adfaeecf0ebbd20c0b15c3246474f88d768faca114a07ee362957e", func := "loop.example/g00090/laws.FnExactMentionsOf", spec := "fnExactMentionsOf", unfollowed := true, recurses := true, apart := false, narrowed := true }
def FnExactMentionsOfUptoSaid : Prop := fnExactMentionsOfUptoRow.holds Try.pinned (OpenSpec.upto fnExactMentionsOfSpec)

end Rows
end Go.Proofs.Ytbmfoijakgccgaa
