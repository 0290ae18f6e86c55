/- Facts about the loaded program as a whole that every row asks. No conditions. -/
import Derived.Test.YtokhnmchnfkiiaaRows
import Derived.Test.YtokhnmchnfkiiaaProg
import Derived.WalkKit
import Derived.JoinedOf
namespace Go.Proofs.Ytokhnmchnfkiiaa.Am
open Go Go.ChangeShapes Go.WideShapes Go.RowKit Go.Proofs
set_option linter.unusedSimpArgs false
set_option linter.unusedVariables false
set_option maxRecDepth 100000

theorem ioEq : Try.prog.initOrder = "harness 2bdc52be07b3e5a7ede7fbdcf42aa2a1ab187051c5c701b84bd6fd96ca4d57f5 cut at " ++ "loop.example/g00090/laws.FnNewest loop.example/g00090/laws.FnExactPackBytes loop.example/g00090/laws.FnExactUnmetOf loop.example/g00090/laws.FnExactMentionsOf" := by kernel_rfl
theorem ioList : ∃ l, Try.prog.initOrder.toList = "harness 2bdc52be07b3e5a7ede7fbdcf42aa2a1ab187051c5c701b84bd6fd96ca4d57f5 cut at ".toList ++ l := ⟨_, by rw [ioEq, String.toList_append]⟩
theorem laysFact : Try.prog.laysLater = false := by kernel_rfl
theorem bearsFact : Try.prog.bearsReflect = false := by kernel_rfl
theorem rowsFact : Try.prog.doorRows = [] := by kernel_rfl
theorem stripFact (l : List (List Char)) : stripLifts liftWords ("cut".toList :: "at".toList :: l) = ([], "cut".toList :: "at".toList :: l) := by kernel_rfl
theorem wordsFact : ∃ l, behindMainWord (wordsSigns Try.prog.initOrder.toList) = "cut".toList :: "at".toList :: l := by
  obtain ⟨l, h⟩ := ioList
  exact ⟨wordsSigns l, by rw [h]; kernel_rfl⟩
theorem enter_of {P : Program} {l : List (List Char)} (h : behindMainWord (wordsSigns P.initOrder.toList) = "cut".toList :: "at".toList :: l) (h1 : P.laysLater = false) (h2 : P.bearsReflect = false) (h3 : P.doorRows = []) : P.mayEnter = true := by
  unfold Program.mayEnter Program.doorFits
  rw [h]
  simp only [stripFact, h1, h2, h3]
  kernel_rfl
theorem lifts_of {P : Program} {l : List (List Char)} (h : behindMainWord (wordsSigns P.initOrder.toList) = "cut".toList :: "at".toList :: l) : P.liftsFinal = false := by
  unfold Program.liftsFinal Program.headLifts
  rw [h]
  simp only [stripFact]
  kernel_rfl
theorem make_of {P : Program} {l : List (List Char)} (h : behindMainWord (wordsSigns P.initOrder.toList) = "cut".toList :: "at".toList :: l) : P.make = some .cut := by
  unfold Program.make
  rw [h]
  kernel_rfl
theorem enterFact : Try.prog.mayEnter = true := by
  obtain ⟨l, h⟩ := wordsFact
  exact enter_of h laysFact bearsFact rowsFact
theorem liftsFact : Try.prog.liftsFinal = false := by
  obtain ⟨l, h⟩ := wordsFact
  exact lifts_of h
theorem makeFact : Try.prog.make = some .cut := by
  obtain ⟨l, h⟩ := wordsFact
  exact make_of h
theorem laidFact : laidOutB Try.prog = true := by kernel_rfl
theorem mapsFact : mapsRowed Try.prog = true := by kernel_rfl
theorem keysFact : Try.prog.plainKeys = true := by kernel_rfl
theorem heardFact : Try.prog.stopsHeard = true := by kernel_rfl
theorem ownFact : ownKnob Try.prog.godebug = none := by kernel_rfl
theorem band {a b : Bool} (h1 : a = true) (h2 : b = true) : (a && b) = true := by rw [h1, h2]; rfl

end Go.Proofs.Ytokhnmchnfkiiaa.Am
