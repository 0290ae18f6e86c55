/-
  No cell of these rows narrows 'for every input' (looked for: loops, veiled, ifaces, maps, wideKeys, modest, calm, conditions, laid).
  DERIVED. THE GIVEN ROWS OF THIS SEAT. 9 by the template 'for every input the law returns true; each argument reads behind the call as it read before'; 0 by the template 'total and deterministic' (their statements: YtldbckbldddaaaaTotals.lean).
  GIVEN WITH THE SEED: the statements are not yours to turn. If you find one false, say at which input.
  Laid BY PROGRAM, IN A SANDBOX (cutbox-rows.mjs): the forced cells as the released guide's own fill.sh prints them over the translation 007a0f0662696457… (all of the seat's roots in one cut). By AI agents, Wed Nov 11 2026. No macro, syntax, notation, axiom, sorry.
-/
import Derived.Test.YtldbckbldddaaaaChecked
import GoSem.Claim
import GoSem.ClaimJoined
import GoSem.ClaimMapViews
import Derived.JoinedTies
import Derived.KernelRfl
namespace Go.Proofs.Ytldbckbldddaaaa
/- THE CELL 'sum', in the pinned program and in every row, IS THE sha256 OF THE DUMP (.gsa) THAT YtldbckbldddaaaaProg.lean LOADS. Nothing in Lean hashes anything: it is a label: what it is worth is what the hold of that sum in a sandbox is worth. -/
noncomputable def Try.pinned : Pinned := { name := "ytldbckbldddaaaa", sum := "007a0f06626964579bd7588502bdd4a40da3978e6580202759bf521e3a40c09d", checked := Try.checked }
namespace Rows
def none {H : Type} : Left H := { results := [], args := [] }

/-- 'laws.FnExactConstants': WHATEVER THE INPUT: true; the input reads as it did. -/
def fnExactConstantsSpec : ChangeSpec := { name := "fnExactConstants", fn := fun _ => fun
  | [] => { results := [.lit (.bool true)], args := [] }
  | _ => none }
def fnExactConstantsRow : OpenClaim := { program := "ytldbckbldddaaaa", sum := "007a0f06626964579bd7588502bdd4a40da3978e6580202759bf521e3a40c09d", func := "loop.example/g00090/laws.FnExactConstants", spec := "fnExactConstants", apart := false }
def FnExactConstantsSaid : Prop := fnExactConstantsRow.holds Try.pinned (OpenSpec.ofChange fnExactConstantsSpec)

/-- ITS FALSE NEIGHBOUR: 'it returns false'. Refute it at one input. -/
def fnExactConstantsWrong : ChangeSpec := { name := "fnExactConstants", fn := fun _ => fun
  | [] => { results := [.lit (.bool false)], args := [] }
  | _ => none }
def FnExactConstantsWrongFalsely : Prop := fnExactConstantsRow.holds Try.pinned (OpenSpec.ofChange fnExactConstantsWrong)

/-- 'laws.FnExactVersionFault': WHATEVER THE INPUT: true; the input reads as it did. -/
def fnExactVersionFaultSpec : ChangeSpec := { name := "fnExactVersionFault", fn := fun _ => fun
  | [d] => { results := [.lit (.bool true)], args := [d] }
  | _ => none }
def fnExactVersionFaultRow : OpenClaim := { program := "ytldbckbldddaaaa", sum := "007a0f06626964579bd7588502bdd4a40da3978e6580202759bf521e3a40c09d", func := "loop.example/g00090/laws.FnExactVersionFault", spec := "fnExactVersionFault", apart := false }
def FnExactVersionFaultSaid : Prop := fnExactVersionFaultRow.holds Try.pinned (OpenSpec.ofChange fnExactVersionFaultSpec)

/-- ITS FALSE NEIGHBOUR: 'it returns false'. Refute it at one input. -/
def fnExactVersionFaultWrong : ChangeSpec := { name := "fnExactVersionFault", fn := fun _ => fun
  | [d] => { results := [.lit (.bool false)], args := [d] }
  | _ => none }
def FnExactVersionFaultWrongFalsely : Prop := fnExactVersionFaultRow.holds Try.pinned (OpenSpec.ofChange fnExactVersionFaultWrong)

/-- 'laws.FnExactNameFault': WHATEVER THE INPUT: true; the input reads as it did. -/
def fnExactNameFaultSpec : ChangeSpec := { name := "fnExactNameFault", fn := fun _ => fun
  | [d] => { results := [.lit (.bool true)], args := [d] }
  | _ => none }
def fnExactNameFaultRow : OpenClaim := { program := "ytldbckbldddaaaa", sum := "007a0f06626964579bd7588502bdd4a40da3978e6580202759bf521e3a40c09d", func := "loop.example/g00090/laws.FnExactNameFault", spec := "fnExactNameFault", apart := false }
def FnExactNameFaultSaid : Prop := fnExactNameFaultRow.holds Try.pinned (OpenSpec.ofChange fnExactNameFaultSpec)

/-- ITS FALSE NEIGHBOUR: 'it returns false'. Refute it at one input. -/
def fnExactNameFaultWrong : ChangeSpec := { name := "fnExactNameFault", fn := fun _ => fun
  | [d] => { results := [.lit (.bool false)], args := [d] }
  | _ => none }
def FnExactNameFaultWrongFalsely : Prop := fnExactNameFaultRow.holds Try.pinned (OpenSpec.ofChange fnExactNameFaultWrong)

/-- 'laws.FnExactAnyTerm': WHATEVER THE INPUT: true; the input reads as it did. -/
def fnExactAnyTermSpec : ChangeSpec := { name := "fnExactAnyTerm", fn := fun _ => fun
  | [d] => { results := [.lit (.bool true)], args := [d] }
  | _ => none }
def fnExactAnyTermRow : OpenClaim := { program := "ytldbckbldddaaaa", sum := "007a0f06626964579bd7588502bdd4a40da3978e6580202759bf521e3a40c09d", func := "loop.example/g00090/laws.FnExactAnyTerm", spec := "fnExactAnyTerm", apart := false }
def FnExactAnyTermSaid : Prop := fnExactAnyTermRow.holds Try.pinned (OpenSpec.ofChange fnExactAnyTermSpec)

/-- ITS FALSE NEIGHBOUR: 'it returns false'. Refute it at one input. -/
def fnExactAnyTermWrong : ChangeSpec := { name := "fnExactAnyTerm", fn := fun _ => fun
  | [d] => { results := [.lit (.bool false)], args := [d] }
  | _ => none }
def FnExactAnyTermWrongFalsely : Prop := fnExactAnyTermRow.holds Try.pinned (OpenSpec.ofChange fnExactAnyTermWrong)

/-- 'laws.FnExactSumOf': WHATEVER THE INPUT: true; the input reads as it did. -/
def fnExactSumOfSpec : ChangeSpec := { name := "fnExactSumOf", fn := fun _ => fun
  | [d] => { results := [.lit (.bool true)], args := [d] }
  | _ => none }
def fnExactSumOfRow : OpenClaim := { program := "ytldbckbldddaaaa", sum := "007a0f06626964579bd7588502bdd4a40da3978e6580202759bf521e3a40c09d", func := "loop.example/g00090/laws.FnExactSumOf", spec := "fnExactSumOf", apart := false }
def FnExactSumOfSaid : Prop := fnExactSumOfRow.holds Try.pinned (OpenSpec.ofChange fnExactSumOfSpec)

/-- ITS FALSE NEIGHBOUR: 'it returns false'. Refute it at one input. -/
def fnExactSumOfWrong : ChangeSpec := { name := "fnExactSumOf", fn := fun _ => fun
  | [d] => { results := [.lit (.bool false)], args := [d] }
  | _ => none }
def FnExactSumOfWrongFalsely : Prop := fnExactSumOfRow.holds Try.pinned (OpenSpec.ofChange fnExactSumOfWrong)

/-- 'laws.FnExactCompareVersions': WHATEVER THE INPUT: true; the input reads as it did. -/
def fnExactCompareVersionsSpec : ChangeSpec := { name := "fnExactCompareVersions", fn := fun _ => fun
  | [d1, d2] => { results := [.lit (.bool true)], args := [d1, d2] }
  | _ => none }
def fnExactCompareVersionsRow : OpenClaim := { program := "ytldbckbldddaaaa", sum := "007a0f06626964579bd7588502bdd4a40da3978e6580202759bf521e3a40c09d", func := "loop.example/g00090/laws.FnExactCompareVersions", spec := "fnExactCompareVersions", apart := false }
def FnExactCompareVersionsSaid : Prop := fnExactCompareVersionsRow.holds Try.pinned (OpenSpec.ofChange fnExactCompareVersionsSpec)

/-- ITS FALSE NEIGHBOUR: 'it returns false'. Refute it at one input. -/
def fnExactCompareVersionsWrong : ChangeSpec := { name := "fnExactCompareVersions", fn := fun _ => fun
  | [d1, d2] => { results := [.lit (.bool false)], args := [d1, d2] }
  | _ => none }
def FnExactCompareVersionsWrongFalsely : Prop := fnExactCompareVersionsRow.holds Try.pinned (OpenSpec.ofChange fnExactCompareVersionsWrong)

/-- 'laws.FnExactTermFault': WHATEVER THE INPUT: true; the input reads as it did. -/
def fnExactTermFaultSpec : ChangeSpec := { name := "fnExactTermFault", fn := fun _ => fun
  | [d] => { results := [.lit (.bool true)], args := [d] }
  | _ => none }
def fnExactTermFaultRow : OpenClaim := { program := "ytldbckbldddaaaa", sum := "007a0f06626964579bd7588502bdd4a40da3978e6580202759bf521e3a40c09d", func := "loop.example/g00090/laws.FnExactTermFault", spec := "fnExactTermFault", apart := false }
def FnExactTermFaultSaid : Prop := fnExactTermFaultRow.holds Try.pinned (OpenSpec.ofChange fnExactTermFaultSpec)

/-- ITS FALSE NEIGHBOUR: 'it returns false'. Refute it at one input. -/
def fnExactTermFaultWrong : ChangeSpec := { name := "fnExactTermFault", fn := fun _ => fun
  | [d] => { results := [.lit (.bool false)], args := [d] }
  | _ => none }
def FnExactTermFaultWrongFalsely : Prop := fnExactTermFaultRow.holds Try.pinned (OpenSpec.ofChange fnExactTermFaultWrong)

/-- 'laws.FnExactInTerm': WHATEVER THE INPUT: true; the input reads as it did. -/
def fnExactInTermSpec : ChangeSpec := { name := "fnExactInTerm", fn := fun _ => fun
  | [d1, d2, d3] => { results := [.lit (.bool true)], args := [d1, d2, d3] }
  | _ => none }
def fnExactInTermRow : OpenClaim := { program := "ytldbckbldddaaaa", sum := "007a0f06626964579bd7588502bdd4a40da3978e6580202759bf521e3a40c09d", func := "loop.example/g00090/laws.FnExactInTerm", spec := "fnExactInTerm", apart := false }
def FnExactInTermSaid : Prop := fnExactInTermRow.holds Try.pinned (OpenSpec.ofChange fnExactInTermSpec)

/-- ITS FALSE NEIGHBOUR: 'it returns false'. Refute it at one input. -/
def fnExactInTermWrong : ChangeSpec := { name := "fnExactInTerm", fn := fun _ => fun
  | [d1, d2, d3] => { results := [.lit (.bool false)], args := [d1, d2, d3] }
  | _ => none }
def FnExactInTermWrongFalsely : Prop := fnExactInTermRow.holds Try.pinned (OpenSpec.ofChange fnExactInTermWrong)

/-- 'laws.FnExactMeetTerms': WHATEVER THE INPUT: true; the input reads as it did. -/
def fnExactMeetTermsSpec : ChangeSpec := { name := "fnExactMeetTerms", fn := fun _ => fun
  | [d1, d2] => { results := [.lit (.bool true)], args := [d1, d2] }
  | _ => none }
def fnExactMeetTermsRow : OpenClaim := { program := "ytldbckbldddaaaa", sum := "007a0f06626964579bd7588502bdd4a40da3978e6580202759bf521e3a40c09d", func := "loop.example/g00090/laws.FnExactMeetTerms", spec := "fnExactMeetTerms", apart := false }
def FnExactMeetTermsSaid : Prop := fnExactMeetTermsRow.holds Try.pinned (OpenSpec.ofChange fnExactMeetTermsSpec)

/-- ITS FALSE NEIGHBOUR: 'it returns false'. Refute it at one input. -/
def fnExactMeetTermsWrong : ChangeSpec := { name := "fnExactMeetTerms", fn := fun _ => fun
  | [d1, d2] => { results := [.lit (.bool false)], args := [d1, d2] }
  | _ => none }
def FnExactMeetTermsWrongFalsely : Prop := fnExactMeetTermsRow.holds Try.pinned (OpenSpec.ofChange fnExactMeetTermsWrong)

/- THE SECOND FORM. 'bulk': how many values and letters a reading holds, each counted each time it is reached (what is shared counts as often as it is met; a slice's spare places count too). A statement '..UptoSaid' is the law's where the arguments, and the package variables that the reading takes, are together of bulk at most 1048576: NARROWER than '..Said'. Prove '..Said' where nothing that the law and all that it calls make is longer than what came in: it says more and counts as full. Else prove '..UptoSaid'. A law counts once. -/
mutual
def uptoBulk {H : Type} : DataW H → Nat
  | .lit (.string bytes) => bytes.length + 1
  | .lit _ => 1
  | .nil => 1
  | .ptr d => uptoBulk d + 1
  | .slice elems spare => uptoBulkAll elems + uptoBulkAll spare + 1
  | .agg parts => uptoBulkAll parts + 1
  | .iface _ d => uptoBulk d + 1
  | .map entries => uptoBulkEntries entries + 1
  | .held _ => 1
def uptoBulkAll {H : Type} : List (DataW H) → Nat
  | [] => 0
  | d :: r => uptoBulk d + uptoBulkAll r
def uptoBulkEntries {H : Type} : List (Lit × DataW H) → Nat
  | [] => 0
  | x :: r => uptoBulkEntry x + uptoBulkEntries r
def uptoBulkEntry {H : Type} : Lit × DataW H → Nat
  | (.string bytes, d) => bytes.length + uptoBulk d + 1
  | (_, d) => uptoBulk d + 1
 end
def uptoSmall : (H : Type) → List (DataW H) → Bool := fun _ ds => decide (uptoBulkAll ds ≤ 1048576)
def OpenSpec.upto (s : _root_.Go.ChangeSpec) : _root_.Go.OpenSpec := { _root_.Go.OpenSpec.ofChange s with cond := some uptoSmall }

/-- 'laws.FnExactConstants', WHERE WHAT IT READS IS OF BULK AT MOST 1048576: true; the input reads as it did. -/
def fnExactConstantsUptoRow : OpenClaim := { program := "ytldbckbldddaaaa", sum := "007a0f06626964579bd7588502bdd4a40da3978e6580202759bf521e3a40c09d", func := "loop.example/g00090/laws.FnExactConstants", spec := "fnExactConstants", apart := false, narrowed := true }
def FnExactConstantsUptoSaid : Prop := fnExactConstantsUptoRow.holds Try.pinned (OpenSpec.upto fnExactConstantsSpec)

/-- 'laws.FnExactVersionFault', WHERE WHAT IT READS IS OF BULK AT MOST 1048576: true; the input reads as it did. -/
def fnExactVersionFaultUptoRow : OpenClaim := { program := "ytldbckbldddaaaa", sum := "007a0f06626964579bd7588502bdd4a40da3978e6580202759bf521e3a40c09d", func := "loop.example/g00090/laws.FnExactVersionFault", spec := "fnExactVersionFault", apart := false, narrowed := true }
def FnExactVersionFaultUptoSaid : Prop := fnExactVersionFaultUptoRow.holds Try.pinned (OpenSpec.upto fnExactVersionFaultSpec)

/-- 'laws.FnExactNameFault', WHERE WHAT IT READS IS OF BULK AT MOST 1048576: true; the input reads as it did. -/
def fnExactNameFaultUptoRow : OpenClaim := { program := "ytldbckbldddaaaa", sum := "007a0f06626964579bd7588502bdd4a40da3978e6580202759bf521e3a40c09d", func := "loop.example/g00090/laws.FnExactNameFault", spec := "fnExactNameFault", apart := false, narrowed := true }
def FnExactNameFaultUptoSaid : Prop := fnExactNameFaultUptoRow.holds Try.pinned (OpenSpec.upto fnExactNameFaultSpec)

/-- 'laws.FnExactAnyTerm', WHERE WHAT IT READS IS OF BULK AT MOST 1048576: true; the input reads as it did. -/
def fnExactAnyTermUptoRow : OpenClaim := { program := "ytldbckbldddaaaa", sum := "007a0f06626964579bd7588502bdd4a40da3978e6580202759bf521e3a40c09d", func := "loop.example/g00090/laws.FnExactAnyTerm", spec := "fnExactAnyTerm", apart := false, narrowed := true }
def FnExactAnyTermUptoSaid : Prop := fnExactAnyTermUptoRow.holds Try.pinned (OpenSpec.upto fnExactAnyTermSpec)

/-- 'laws.FnExactSumOf', WHERE WHAT IT READS IS OF BULK AT MOST 1048576: true; the input reads as it did. -/
def fnExactSumOfUptoRow : OpenClaim := { program := "ytldbckbldddaaaa", sum := "007a0f06626964579bd7588502bdd4a40da3978e6580202759bf521e3a40c09d", func := "loop.example/g00090/laws.FnExactSumOf", spec := "fnExactSumOf", apart := false, narrowed := true }
def FnExactSumOfUptoSaid : Prop := fnExactSumOfUptoRow.holds Try.pinned (OpenSpec.upto fnExactSumOfSpec)

/-- 'laws.FnExactCompareVersions', WHERE WHAT IT READS IS OF BULK AT MOST 1048576: true; the input reads as it did. -/
def fnExactCompareVersionsUptoRow : OpenClaim := { program := "ytldbckbldddaaaa", sum := "007a0f06626964579bd7588502bdd4a40da3978e6580202759bf521e3a40c09d", func := "loop.example/g00090/laws.FnExactCompareVersions", spec := "fnExactCompareVersions", apart := false, narrowed := true }
def FnExactCompareVersionsUptoSaid : Prop := fnExactCompareVersionsUptoRow.holds Try.pinned (OpenSpec.upto fnExactCompareVersionsSpec)

/-- 'laws.FnExactTermFault', WHERE WHAT IT READS IS OF BULK AT MOST 1048576: true; the input reads as it did. -/
def fnExactTermFaultUptoRow : OpenClaim := { program := "ytldbckbldddaaaa", sum := "007a0f06626964579bd7588502bdd4a40da3978e6580202759bf521e3a40c09d", func := "loop.example/g00090/laws.FnExactTermFault", spec := "fnExactTermFault", apart := false, narrowed := true }
def FnExactTermFaultUptoSaid : Prop := fnExactTermFaultUptoRow.holds Try.pinned (OpenSpec.upto fnExactTermFaultSpec)

/-- 'laws.FnExactInTerm', WHERE WHAT IT READS IS OF BULK AT MOST 1048576: true; the input reads as it did. -/
def fnExactInTermUptoRow : OpenClaim := { program := "ytldbckbldddaaaa", sum := "007a0f06626964579bd7588502bdd4a40da3978e6580202759bf521e3a40c09d", func := "loop.example/g00090/laws.FnExactInTerm", spec := "fnExactInTerm", apart := false, narrowed := true }
def FnExactInTermUptoSaid : Prop := fnExactInTermUptoRow.holds Try.pinned (OpenSpec.upto fnExactInTermSpec)

/-- 'laws.FnExactMeetTerms', WHERE WHAT IT READS IS OF BULK AT MOST 1048576: true; the input reads as it did. -/
def fnExactMeetTermsUptoRow : OpenClaim := { program := "ytldbckbldddaaaa", sum := "007a0f06626964579bd7588502bdd4a40da3978e6580202759bf521e3a40c09d", func := "loop.example/g00090/laws.FnExactMeetTerms", spec := "fnExactMeetTerms", apart := false, narrowed := true }
def FnExactMeetTermsUptoSaid : Prop := fnExactMeetTermsUptoRow.holds Try.pinned (OpenSpec.upto fnExactMeetTermsSpec)

end Rows
end Go.Proofs.Ytldbckbldddaaaa
