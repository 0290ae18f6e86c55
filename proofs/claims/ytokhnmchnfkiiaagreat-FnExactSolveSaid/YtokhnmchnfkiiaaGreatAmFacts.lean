/- Facts about the loaded program as a whole that every row asks. No conditions. -/
import Derived.Test.YtokhnmchnfkiiaaGreatRows
import Derived.Test.YtokhnmchnfkiiaaGreatProg
import Derived.WalkKit
import Derived.JoinedOf
namespace Go.Proofs.YtokhnmchnfkiiaaGreat.Am
open Go Go.ChangeShapes Go.WideShapes Go.RowKit Go.Proofs
set_option linter.unusedSimpArgs false
set_option linter.unusedVariables false
set_option maxRecDepth 100000

theorem ioEq : Tryz.prog.initOrder = "harness 20136283d27b790d68cab90a4c5e323cd042c31407ccea40e0a95c8d89cff36a cut at " ++ "loop.example/g00090/laws.FnExactSolve loop.example/g00090/laws.FnExactFaultsOf loop.example/g00090/laws.FnExactCandidatesOf loop.example/g00090/laws.FnMoved loop.example/g00090/laws.FnExactMovePacks loop.example/g00090/laws.FnExactChangedNames loop.example/g00090/laws.FnExactJoinedNames loop.example/g00090/laws.FnExactNamesOf loop.example/g00090/laws.FnBudgets loop.example/g00090/laws.FnSolves loop.example/g00090/laws.FnExactPartsOf" := by kernel_rfl
theorem ioList : ∃ l, Tryz.prog.initOrder.toList = "harness 20136283d27b790d68cab90a4c5e323cd042c31407ccea40e0a95c8d89cff36a cut at ".toList ++ l := ⟨_, by rw [ioEq, String.toList_append]⟩
theorem laysFact : Tryz.prog.laysLater = false := by kernel_rfl
theorem bearsFact : Tryz.prog.bearsReflect = false := by kernel_rfl
theorem rowsFact : Tryz.prog.doorRows = [] := by kernel_rfl
theorem stripFact (l : List (List Char)) : stripLifts liftWords ("cut".toList :: "at".toList :: l) = ([], "cut".toList :: "at".toList :: l) := by kernel_rfl
theorem wordsFact : ∃ l, behindMainWord (wordsSigns Tryz.prog.initOrder.toList) = "cut".toList :: "at".toList :: l := by
  obtain ⟨l, h⟩ := ioList
  exact ⟨wordsSigns l, by rw [h]; kernel_rfl⟩
theorem enter_of {P : Program} {l : List (List Char)} (h : behindMainWord (wordsSigns P.initOrder.toList) = "cut".toList :: "at".toList :: l) (h1 : P.laysLater = false) (h2 : P.bearsReflect = false) (h3 : P.doorRows = []) : P.mayEnter = true := by
  unfold Program.mayEnter Program.doorFits
  rw [h]
  simp only [stripFact, h1, h2, h3]
  kernel_rfl
theorem lifts_of {P : Program} {l : List (List Char)} (h : behindMainWord (wordsSigns P.initOrder.toList) = "cut".toList :: "at".toList :: l) : P.liftsFinal = false := by
  unfold Program.liftsFinal Program.headLifts
  rw [h]
  simp only [stripFact]
  kernel_rfl
theorem make_of {P : Program} {l : List (List Char)} (h : behindMainWord (wordsSigns P.initOrder.toList) = "cut".toList :: "at".toList :: l) : P.make = some .cut := by
  unfold Program.make
  rw [h]
  kernel_rfl
theorem enterFact : Tryz.prog.mayEnter = true := by
  obtain ⟨l, h⟩ := wordsFact
  exact enter_of h laysFact bearsFact rowsFact
theorem liftsFact : Tryz.prog.liftsFinal = false := by
  obtain ⟨l, h⟩ := wordsFact
  exact lifts_of h
theorem makeFact : Tryz.prog.make = some .cut := by
  obtain ⟨l, h⟩ := wordsFact
  exact make_of h
theorem laidFact : laidOutB Tryz.prog = true := by kernel_rfl
theorem mapsFact : mapsRowed Tryz.prog = true := by kernel_rfl
theorem keysFact : Tryz.prog.plainKeys = true := by kernel_rfl
theorem heardFact : Tryz.prog.stopsHeard = true := by kernel_rfl
theorem ownFact : ownKnob Tryz.prog.godebug = none := by kernel_rfl
theorem band {a b : Bool} (h1 : a = true) (h2 : b = true) : (a && b) = true := by rw [h1, h2]; rfl

end Go.Proofs.YtokhnmchnfkiiaaGreat.Am
