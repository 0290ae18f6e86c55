/- UpgradesOf of the program returns what the reference's returns, for all arguments: the row of the law. No conditions. -/
import Derived.Test.YtbmfoijakgccgaaRows
import Derived.Test.YtbmfoijakgccgaaAmL11
import Derived.Test.YtbmfoijakgccgaaAmW
import Derived.Test.YtbmfoijakgccgaaAmC9
import Derived.Test.YtbmfoijakgccgaaAmFacts
import Derived.WalkKit
import Derived.OpenShut
import Derived.ShutString
import Derived.ChangeOld
import Derived.Below
import Derived.SizedLaws
namespace Go.Proofs.Ytbmfoijakgccgaa.Am.RowFnExactUpgradesOf
open Go Go.ChangeShapes Go.WideShapes Go.ChangeAt Go.RowKit Go.Proofs

set_option maxRecDepth 100000 in
theorem pure (xs : List AV) (h : TypedArgs Try.prog 8 [60, 69] xs) : Pure Try.prog 18 xs (.v (.bool true)) := by
  simp only [TypedArgs, TypedV, Try.underlying69, Try.underlying60] at h
  obtain ⟨_, _, rfl, h0, _, _, rfl, h1, rfl⟩ := h
  obtain ⟨a0, h0e, a0b, a0s⟩ := ty_pks2 h0
  cases h0e
  obtain ⟨a1, h1e, a1b, a1r⟩ := ty_ints h1
  cases h1e
  exact l_upg a0 a0b a0s a1 a1b
theorem j0 : (Rows.fnExactUpgradesOfRow.wf (OpenSpec.ofChange Rows.fnExactUpgradesOfSpec)) = true := by kernel_rfl
theorem j3 : (Try.f18.params.all (Try.prog.readableRec ·)) = true := by kernel_rfl
theorem j4 : (namedTie Try.prog Rows.fnExactUpgradesOfRow.named Rows.fnExactUpgradesOfSpec.vars) = true := by kernel_rfl
theorem j5 : (Rows.fnExactUpgradesOfRow.stops == []) = true := by kernel_rfl
theorem j6 : (Try.prog.stops == []) = true := by kernel_rfl
theorem j7 : (Rows.fnExactUpgradesOfRow.knobs == []) = true := by kernel_rfl
theorem j8 : (Try.prog.stopKnobs == []) = true := by kernel_rfl
theorem j9 : (Rows.fnExactUpgradesOfRow.inPlace == Try.prog.inPlace 18) = true := by kernel_rfl
theorem j10 : (Rows.fnExactUpgradesOfRow.unfollowed == Try.prog.unfollowed 18) = true := by kernel_rfl
theorem j11 : (Rows.fnExactUpgradesOfRow.recurses == Try.prog.recurses 18) = true := by kernel_rfl
theorem j12 : (Rows.fnExactUpgradesOfRow.named == Try.prog.varsNamed 18) = true := by kernel_rfl
theorem j13 : (Rows.fnExactUpgradesOfRow.maps == (Try.f18.params.toList ++ Rows.fnExactUpgradesOfSpec.plain.varTypes Try.prog).any (Try.prog.mapsRec ·)) = true := by kernel_rfl
theorem j14 : (Rows.fnExactUpgradesOfRow.ifaces == (Try.f18.params.toList ++ Rows.fnExactUpgradesOfSpec.plain.varTypes Try.prog).any (Try.prog.ifacesRec ·)) = true := by kernel_rfl
theorem j15 : (Rows.fnExactUpgradesOfRow.mapsOut == Try.prog.mapsAmong Try.f18.resultTypes.toList) = true := by kernel_rfl
theorem j16 : (Rows.fnExactUpgradesOfRow.loops == (Try.f18.params.toList ++ Rows.fnExactUpgradesOfSpec.plain.varTypes Try.prog).any (Try.prog.loopsFrom ·)) = true := by kernel_rfl
theorem j17 : (Rows.fnExactUpgradesOfRow.wideKeys == (Try.f18.params.toList ++ Rows.fnExactUpgradesOfSpec.plain.varTypes Try.prog ++ Try.f18.resultTypes.toList).any (Try.prog.wideKeysFrom ·)) = true := by kernel_rfl
theorem j18 : (Rows.fnExactUpgradesOfSpec.vars.all (Try.prog.varReadable ·)) = true := by kernel_rfl
theorem j19 : (Try.f18.resultTypes.all (fun t => Try.prog.readableRec t && decide (t < Try.prog.types.size))) = true := by kernel_rfl
theorem j20 : (Rows.fnExactUpgradesOfRow.ifacesOut == Try.f18.resultTypes.toList.any (Try.prog.ifacesRec ·)) = true := by kernel_rfl
theorem j21 : (Rows.fnExactUpgradesOfRow.loopsOut == Try.f18.resultTypes.toList.any (Try.prog.loopsFrom ·)) = true := by kernel_rfl
theorem j23 : (Rows.fnExactUpgradesOfRow.shortTexts.isNone) = true := by kernel_rfl
theorem j28 : (Rows.fnExactUpgradesOfRow.kinds == (if Rows.fnExactUpgradesOfRow.domain.isEmpty then [] else Try.f18.params.toList.map fun t => match Try.prog.underlying t with | some (.int k) => some k | _ => none)) = true := by kernel_rfl
theorem j29 : (Rows.fnExactUpgradesOfRow.pinned == Rows.fnExactUpgradesOfRow.pinnedBy) = true := by kernel_rfl
theorem j30 : (Rows.fnExactUpgradesOfRow.veiled == (Try.f18.params.toList ++ Rows.fnExactUpgradesOfSpec.plain.varTypes Try.prog ++ Try.f18.resultTypes.toList).any (Try.prog.veiledRec ·)) = true := by kernel_rfl
theorem j31 : (Rows.fnExactUpgradesOfRow.veiledFits Try.prog Try.f18.params.toList (Try.f18.params.toList ++ Rows.fnExactUpgradesOfSpec.plain.varTypes Try.prog ++ Try.f18.resultTypes.toList)) = true := by kernel_rfl
theorem j22 : (Rows.fnExactUpgradesOfRow.plainKeys == Try.prog.plainKeys) = true := by rw [keysFact]; kernel_rfl
theorem j26 : (Rows.fnExactUpgradesOfRow.lifted == Try.prog.liftsFinal) = true := by rw [liftsFact]; kernel_rfl
theorem j27 : (Try.prog.make == some Rows.fnExactUpgradesOfRow.make) = true := by rw [makeFact]; kernel_rfl
set_option maxRecDepth 100000 in
theorem joined : joinedFacts Try.prog 18 Try.f18 Rows.fnExactUpgradesOfSpec Rows.fnExactUpgradesOfRow = true := by
  unfold joinedFacts
  exact band (band (band (band (band (band (band (band (band (band (band (band (band (band (band (band (band (band (band (band (band (band (band (band (band (band (band (band (band (band (band j0 laidFact) mapsFact) j3) j4) j5) j6) j7) j8) j9) j10) j11) j12) j13) j14) j15) j16) j17) j18) j19) j20) j21) j22) j23) heardFact) enterFact) j26) j27) j28) j29) j30) j31
theorem nameFact : Try.prog.funcNamed Rows.fnExactUpgradesOfRow.func = some 18 := by kernel_rfl
set_option linter.unusedVariables false
set_option maxRecDepth 100000 in
theorem lifted (os : Os) (started : os.Started) (H : Type) (enc : TypeId × Value → H) :
    ReturnsInHanded {} Try.checked os 18 .any (Rows.fnExactUpgradesOfSpec.pre6 enc Try.prog Try.f18 Rows.fnExactUpgradesOfRow.domain false) (Rows.fnExactUpgradesOfSpec.post enc Try.prog Try.f18 false true false false) := by
  refine returnsInHanded_of_change_sized (C := Try.checked) ownFact started (by kernel_rfl) Try.func18
    (ChangeSpec.witness6 (enc := enc) (C := Try.checked) false ⟨#[], #[.slice none 0 0, .slice none 0 0], []⟩ 8 (by kernel_rfl) (by kernel_rfl) (by kernel_rfl) (by kernel_rfl)) ?_
  intro W base args ds gs before hval0 hW hcnd hsz0 _
  have hsz : (DataW.weightsEach Try.prog (Try.f18.params.toList ++ Rows.fnExactUpgradesOfSpec.plain.varTypes Try.prog) (ds ++ gs)).all (· ≤ reachBytes) = true := hsz0
  have hval : ∀ (j : Nat) t v, Try.f18.params[j]? = some t → args[j]? = some v → Value.okWide Try.prog W .any base t v := hval0
  have hW' := hW
  obtain ⟨p, q, hA0, hV, rfl, hfz, hnd⟩ := hW
  have hA : DataW.TrodAll enc Try.prog W 0 (fun _ => true) true Try.f18.params.toList args.toList ds p := hA0
  rw [Try.params18] at hA hval hsz
  have hA2 := hA
  obtain ⟨v0, vs0, d0, ds0, p0, q0, hargs, rfl, rfl, h0, r0⟩ := trodAll_cons hA
  obtain ⟨v1, vs1, d1, ds1, p1, q1, rfl, rfl, rfl, h1, r1⟩ := trodAll_cons r0
  obtain ⟨rfl, rfl, rfl⟩ := trodAll_nil r1
  obtain ⟨rfl, rfl⟩ := trodVars_none hV
  obtain ⟨xs, rxs, txs⟩ := args_rv (n := 8) (by kernel_rfl) (fun j t v h1 h2 => hval j t v (by simpa using h1) (by simpa using h2)) hA2 (fun x hx => of_decide_eq_true (List.all_eq_true.1 hsz x hx))
  refine (law_calls (pure xs txs) rxs).mono fun e W' ⟨he, bel⟩ => ?_
  subst he
  exact ⟨_, rfl, _, _, _, [], _, [], hW', trodAll_mk1 (shut_bool Try.underlying4 _), trodAll_below laidFact bel (by kernel_rfl) hA2, rfl, bel.frame _, fun h => by cases h⟩
theorem over : Rows.fnExactUpgradesOfRow.holds Try.pinned (OpenSpec.ofChange Rows.fnExactUpgradesOfSpec) :=
  OpenClaim.holds_of_wide 18 Try.f18 rfl rfl rfl rfl rfl rfl rfl ⟨rfl, rfl, rfl, rfl, rfl⟩ rfl rfl rfl rfl rfl nameFact Try.func18 joined
    (of_decide_eq_true (by kernel_rfl)) (by unfold Func.isWrapper; first | (rw [if_pos (by decide +kernel)]; kernel_rfl) | (rw [if_neg (by decide +kernel)]; exact ⟨rfl, rfl⟩))
    (fun os started H enc _ => lifted os started H enc)
theorem proved : Rows.FnExactUpgradesOfSaid := over
#print axioms proved
end Go.Proofs.Ytbmfoijakgccgaa.Am.RowFnExactUpgradesOf
namespace Go.Proofs.Ytbmfoijakgccgaa
/-- The row, under a short name, for the claim. -/
theorem fnExactUpgradesOf_holds : Rows.FnExactUpgradesOfSaid := Am.RowFnExactUpgradesOf.proved
end Go.Proofs.Ytbmfoijakgccgaa
