/- Facts about the loaded program as a whole that every row asks. No conditions. -/
import Derived.Test.YtokhnmchnfkiiaaDoorRows
import Derived.Test.YtokhnmchnfkiiaaDoorProg
import Derived.WalkKit
import Derived.JoinedOf
namespace Go.Proofs.YtokhnmchnfkiiaaDoor.Am
open Go Go.ChangeShapes Go.WideShapes Go.RowKit Go.Proofs
set_option linter.unusedSimpArgs false
set_option linter.unusedVariables false
set_option maxRecDepth 100000

theorem ioEq : Tryd.prog.initOrder = "harness 244ebad62b68422602c76a682faba520e6e758710c3f37cc04d1b5b7cfb6baa0 cut at " ++ "loop.example/g00090/laws.FnExactFormatVersion loop.example/g00090/laws.FnExactParseVersion loop.example/g00090/laws.FnExactFormatTerm loop.example/g00090/laws.FnVersions loop.example/g00090/laws.FnExactParseTerm loop.example/g00090/laws.FnTerms loop.example/g00090/laws.FnExactFormatSet loop.example/g00090/laws.FnExactFormatCatalog" := by kernel_rfl
theorem ioList : ∃ l, Tryd.prog.initOrder.toList = "harness 244ebad62b68422602c76a682faba520e6e758710c3f37cc04d1b5b7cfb6baa0 cut at ".toList ++ l := ⟨_, by rw [ioEq, String.toList_append]⟩
theorem laysFact : Tryd.prog.laysLater = false := by kernel_rfl
theorem bearsFact : Tryd.prog.bearsReflect = false := by kernel_rfl
theorem rowsFact : (Tryd.prog.doorRows.any (fun n => ["(look 8)", "(look 8, test files too)", "(list 7)", "(look 7)"].any (endsIn · n))) = false := by kernel_rfl
theorem stripFact (l : List (List Char)) : stripLifts liftWords ("cut".toList :: "at".toList :: l) = ([], "cut".toList :: "at".toList :: l) := by kernel_rfl
theorem wordsFact : ∃ l, behindMainWord (wordsSigns Tryd.prog.initOrder.toList) = "cut".toList :: "at".toList :: l := by
  obtain ⟨l, h⟩ := ioList
  exact ⟨wordsSigns l, by rw [h]; kernel_rfl⟩
theorem enter_of {P : Program} {l : List (List Char)} (h : behindMainWord (wordsSigns P.initOrder.toList) = "cut".toList :: "at".toList :: l) (h1 : P.laysLater = false) (h2 : P.bearsReflect = false) (h3 : (P.doorRows.any (fun n => ["(look 8)", "(look 8, test files too)", "(list 7)", "(look 7)"].any (endsIn · n))) = false) : P.mayEnter = true := by
  unfold Program.mayEnter Program.doorFits
  rw [h]
  simp only [stripFact, h1, h2, h3]
  simp
theorem lifts_of {P : Program} {l : List (List Char)} (h : behindMainWord (wordsSigns P.initOrder.toList) = "cut".toList :: "at".toList :: l) : P.liftsFinal = false := by
  unfold Program.liftsFinal Program.headLifts
  rw [h]
  simp only [stripFact]
  kernel_rfl
theorem make_of {P : Program} {l : List (List Char)} (h : behindMainWord (wordsSigns P.initOrder.toList) = "cut".toList :: "at".toList :: l) : P.make = some .cut := by
  unfold Program.make
  rw [h]
  kernel_rfl
theorem enterFact : Tryd.prog.mayEnter = true := by
  obtain ⟨l, h⟩ := wordsFact
  exact enter_of h laysFact bearsFact rowsFact
theorem liftsFact : Tryd.prog.liftsFinal = false := by
  obtain ⟨l, h⟩ := wordsFact
  exact lifts_of h
theorem makeFact : Tryd.prog.make = some .cut := by
  obtain ⟨l, h⟩ := wordsFact
  exact make_of h
theorem laidFact : laidOutB Tryd.prog = true := by kernel_rfl
theorem mapsFact : mapsRowed Tryd.prog = true := by kernel_rfl
theorem keysFact : Tryd.prog.plainKeys = true := by kernel_rfl
theorem heardFact : Tryd.prog.stopsHeard = true := by kernel_rfl
theorem ownFact : ownKnob Tryd.prog.godebug = none := by kernel_rfl
theorem band {a b : Bool} (h1 : a = true) (h2 : b = true) : (a && b) = true := by rw [h1, h2]; rfl

end Go.Proofs.YtokhnmchnfkiiaaDoor.Am
