/- The law FnNewest is true for all arguments: its row. No conditions. -/
import Derived.Test.YtokhnmchnfkiiaaRows
import Derived.Test.YtokhnmchnfkiiaaAmL22
import Derived.Test.YtokhnmchnfkiiaaAmW
import Derived.Test.YtokhnmchnfkiiaaAmCg3
import Derived.Test.YtokhnmchnfkiiaaAmFacts
import Derived.WalkKit
import Derived.OpenShut
import Derived.ShutString
import Derived.ChangeOld
import Derived.Below
import Derived.SizedLaws
namespace Go.Proofs.Ytokhnmchnfkiiaa.Am.RowFnNewest
open Go Go.ChangeShapes Go.WideShapes Go.ChangeAt Go.RowKit Go.Proofs

set_option maxRecDepth 100000 in
theorem pure (xs : List AV) (h : TypedArgs Try.prog 8 [22] xs) : Pure Try.prog 3 xs (.v (.bool true)) := by
  simp only [TypedArgs, TypedV, Try.underlying22] at h
  obtain ⟨_, _, rfl, h0, rfl⟩ := h
  obtain ⟨a0, h0e, a0b⟩ := ty_bytes h0
  cases h0e
  exact l_fnNewest a0 a0b
theorem j0 : (Rows.fnNewestRow.wf (OpenSpec.ofChange Rows.fnNewestSpec)) = true := by kernel_rfl
theorem j3 : (Try.f3.params.all (Try.prog.readableRec ·)) = true := by kernel_rfl
theorem j4 : (namedTie Try.prog Rows.fnNewestRow.named Rows.fnNewestSpec.vars) = true := by kernel_rfl
theorem j5 : (Rows.fnNewestRow.stops == []) = true := by kernel_rfl
theorem j6 : (Try.prog.stops == []) = true := by kernel_rfl
theorem j7 : (Rows.fnNewestRow.knobs == []) = true := by kernel_rfl
theorem j8 : (Try.prog.stopKnobs == []) = true := by kernel_rfl
theorem j9 : (Rows.fnNewestRow.inPlace == Try.prog.inPlace 3) = true := by kernel_rfl
theorem j10 : (Rows.fnNewestRow.unfollowed == Try.prog.unfollowed 3) = true := by kernel_rfl
theorem j11 : (Rows.fnNewestRow.recurses == Try.prog.recurses 3) = true := by kernel_rfl
theorem j12 : (Rows.fnNewestRow.named == Try.prog.varsNamed 3) = true := by kernel_rfl
theorem j13 : (Rows.fnNewestRow.maps == (Try.f3.params.toList ++ Rows.fnNewestSpec.plain.varTypes Try.prog).any (Try.prog.mapsRec ·)) = true := by kernel_rfl
theorem j14 : (Rows.fnNewestRow.ifaces == (Try.f3.params.toList ++ Rows.fnNewestSpec.plain.varTypes Try.prog).any (Try.prog.ifacesRec ·)) = true := by kernel_rfl
theorem j15 : (Rows.fnNewestRow.mapsOut == Try.prog.mapsAmong Try.f3.resultTypes.toList) = true := by kernel_rfl
theorem j16 : (Rows.fnNewestRow.loops == (Try.f3.params.toList ++ Rows.fnNewestSpec.plain.varTypes Try.prog).any (Try.prog.loopsFrom ·)) = true := by kernel_rfl
theorem j17 : (Rows.fnNewestRow.wideKeys == (Try.f3.params.toList ++ Rows.fnNewestSpec.plain.varTypes Try.prog ++ Try.f3.resultTypes.toList).any (Try.prog.wideKeysFrom ·)) = true := by kernel_rfl
theorem j18 : (Rows.fnNewestSpec.vars.all (Try.prog.varReadable ·)) = true := by kernel_rfl
theorem j19 : (Try.f3.resultTypes.all (fun t => Try.prog.readableRec t && decide (t < Try.prog.types.size))) = true := by kernel_rfl
theorem j20 : (Rows.fnNewestRow.ifacesOut == Try.f3.resultTypes.toList.any (Try.prog.ifacesRec ·)) = true := by kernel_rfl
theorem j21 : (Rows.fnNewestRow.loopsOut == Try.f3.resultTypes.toList.any (Try.prog.loopsFrom ·)) = true := by kernel_rfl
theorem j23 : (Rows.fnNewestRow.shortTexts.isNone) = true := by kernel_rfl
theorem j28 : (Rows.fnNewestRow.kinds == (if Rows.fnNewestRow.domain.isEmpty then [] else Try.f3.params.toList.map fun t => match Try.prog.underlying t with | some (.int k) => some k | _ => none)) = true := by kernel_rfl
theorem j29 : (Rows.fnNewestRow.pinned == Rows.fnNewestRow.pinnedBy) = true := by kernel_rfl
theorem j30 : (Rows.fnNewestRow.veiled == (Try.f3.params.toList ++ Rows.fnNewestSpec.plain.varTypes Try.prog ++ Try.f3.resultTypes.toList).any (Try.prog.veiledRec ·)) = true := by kernel_rfl
theorem j31 : (Rows.fnNewestRow.veiledFits Try.prog Try.f3.params.toList (Try.f3.params.toList ++ Rows.fnNewestSpec.plain.varTypes Try.prog ++ Try.f3.resultTypes.toList)) = true := by kernel_rfl
theorem j22 : (Rows.fnNewestRow.plainKeys == Try.prog.plainKeys) = true := by rw [keysFact]; kernel_rfl
theorem j26 : (Rows.fnNewestRow.lifted == Try.prog.liftsFinal) = true := by rw [liftsFact]; kernel_rfl
theorem j27 : (Try.prog.make == some Rows.fnNewestRow.make) = true := by rw [makeFact]; kernel_rfl
set_option maxRecDepth 100000 in
theorem joined : joinedFacts Try.prog 3 Try.f3 Rows.fnNewestSpec Rows.fnNewestRow = true := by
  unfold joinedFacts
  exact band (band (band (band (band (band (band (band (band (band (band (band (band (band (band (band (band (band (band (band (band (band (band (band (band (band (band (band (band (band (band j0 laidFact) mapsFact) j3) j4) j5) j6) j7) j8) j9) j10) j11) j12) j13) j14) j15) j16) j17) j18) j19) j20) j21) j22) j23) heardFact) enterFact) j26) j27) j28) j29) j30) j31
theorem nameFact : Try.prog.funcNamed Rows.fnNewestRow.func = some 3 := by kernel_rfl
set_option linter.unusedVariables false
set_option maxRecDepth 100000 in
theorem lifted (os : Os) (started : os.Started) (H : Type) (enc : TypeId × Value → H) :
    ReturnsInHanded {} Try.checked os 3 .any (Rows.fnNewestSpec.pre6 enc Try.prog Try.f3 Rows.fnNewestRow.domain false) (Rows.fnNewestSpec.post enc Try.prog Try.f3 false true false false) := by
  refine returnsInHanded_of_change_sized (C := Try.checked) ownFact started (by kernel_rfl) Try.func3
    (ChangeSpec.witness6 (enc := enc) (C := Try.checked) false ⟨#[], #[.slice none 0 0], []⟩ 8 (by kernel_rfl) (by kernel_rfl) (by kernel_rfl) (by kernel_rfl)) ?_
  intro W base args ds gs before hval0 hW hcnd hsz0 _
  have hsz : (DataW.weightsEach Try.prog (Try.f3.params.toList ++ Rows.fnNewestSpec.plain.varTypes Try.prog) (ds ++ gs)).all (· ≤ reachBytes) = true := hsz0
  have hval : ∀ (j : Nat) t v, Try.f3.params[j]? = some t → args[j]? = some v → Value.okWide Try.prog W .any base t v := hval0
  have hW' := hW
  obtain ⟨p, q, hA0, hV, rfl, hfz, hnd⟩ := hW
  have hA : DataW.TrodAll enc Try.prog W 0 (fun _ => true) true Try.f3.params.toList args.toList ds p := hA0
  rw [Try.params3] at hA hval hsz
  have hA2 := hA
  obtain ⟨v0, vs0, d0, ds0, p0, q0, hargs, rfl, rfl, h0, r0⟩ := trodAll_cons hA
  obtain ⟨rfl, rfl, rfl⟩ := trodAll_nil r0
  obtain ⟨rfl, rfl⟩ := trodVars_none hV
  obtain ⟨xs, rxs, txs⟩ := args_rv (n := 8) (by kernel_rfl) (fun j t v h1 h2 => hval j t v (by simpa using h1) (by simpa using h2)) hA2 (fun x hx => of_decide_eq_true (List.all_eq_true.1 hsz x hx))
  refine (law_calls (fun q hq => absurd (show q ∈ ([] : List (Nat × (Array Value → Prop))) from hq) (by simp)) (pure xs txs) rxs).mono fun e W' ⟨he, bel⟩ => ?_
  subst he
  exact ⟨_, rfl, _, _, _, [], _, [], hW', trodAll_mk1 (shut_bool Try.underlying4 _), trodAll_below laidFact bel (by kernel_rfl) hA2, rfl, bel.frame _, fun h => by cases h⟩
theorem over : Rows.fnNewestRow.holds Try.pinned (OpenSpec.ofChange Rows.fnNewestSpec) :=
  OpenClaim.holds_of_wide 3 Try.f3 rfl rfl rfl rfl rfl rfl rfl ⟨rfl, rfl, rfl, rfl, rfl⟩ rfl rfl rfl rfl rfl nameFact Try.func3 joined
    (of_decide_eq_true (by kernel_rfl)) (by unfold Func.isWrapper; first | (rw [if_pos (by decide +kernel)]; kernel_rfl) | (rw [if_neg (by decide +kernel)]; exact ⟨rfl, rfl⟩))
    (fun os started H enc _ => lifted os started H enc)
theorem proved : Rows.FnNewestSaid := over
#print axioms proved
end Go.Proofs.Ytokhnmchnfkiiaa.Am.RowFnNewest
namespace Go.Proofs.Ytokhnmchnfkiiaa
/-- The row, under a short name, for the claim. -/
theorem fnNewest_holds : Rows.FnNewestSaid := Am.RowFnNewest.proved
end Go.Proofs.Ytokhnmchnfkiiaa
