/- UnmetOf of the program returns what the reference's returns, for all arguments: the row of the law. No conditions. -/
import Derived.Test.YtokhnmchnfkiiaaRows
import Derived.Test.YtokhnmchnfkiiaaAmL12
import Derived.Test.YtokhnmchnfkiiaaAmW
import Derived.Test.YtokhnmchnfkiiaaAmC9
import Derived.Test.YtokhnmchnfkiiaaAmFacts
import Derived.WalkKit
import Derived.OpenShut
import Derived.ShutString
import Derived.ChangeOld
import Derived.Below
import Derived.SizedLaws
namespace Go.Proofs.Ytokhnmchnfkiiaa.Am.RowFnExactUnmetOf
open Go Go.ChangeShapes Go.WideShapes Go.ChangeAt Go.RowKit Go.Proofs

set_option maxRecDepth 100000 in
theorem pure (xs : List AV) (h : TypedArgs Try.prog 8 [57, 47, 58] xs) : Pure Try.prog 5 xs (.v (.bool true)) := by
  simp only [TypedArgs, TypedV, Try.underlying58, Try.underlying57, Try.underlying47] at h
  obtain ⟨_, _, rfl, h0, _, _, rfl, h1, _, _, rfl, h2, rfl⟩ := h
  obtain ⟨a0, h0e, a0b, a0s⟩ := ty_pks2 h0
  cases h0e
  obtain ⟨a1, h1e, a1b, a1s⟩ := ty_trms2 h1
  cases h1e
  obtain ⟨a2, h2e, a2b, a2r⟩ := ty_ints h2
  cases h2e
  exact l_unm a0 a0b a0s a1 a1b a1s a2 a2b
theorem j0 : (Rows.fnExactUnmetOfRow.wf (OpenSpec.ofChange Rows.fnExactUnmetOfSpec)) = true := by kernel_rfl
theorem j3 : (Try.f5.params.all (Try.prog.readableRec ·)) = true := by kernel_rfl
theorem j4 : (namedTie Try.prog Rows.fnExactUnmetOfRow.named Rows.fnExactUnmetOfSpec.vars) = true := by kernel_rfl
theorem j5 : (Rows.fnExactUnmetOfRow.stops == []) = true := by kernel_rfl
theorem j6 : (Try.prog.stops == []) = true := by kernel_rfl
theorem j7 : (Rows.fnExactUnmetOfRow.knobs == []) = true := by kernel_rfl
theorem j8 : (Try.prog.stopKnobs == []) = true := by kernel_rfl
theorem j9 : (Rows.fnExactUnmetOfRow.inPlace == Try.prog.inPlace 5) = true := by kernel_rfl
theorem j10 : (Rows.fnExactUnmetOfRow.unfollowed == Try.prog.unfollowed 5) = true := by kernel_rfl
theorem j11 : (Rows.fnExactUnmetOfRow.recurses == Try.prog.recurses 5) = true := by kernel_rfl
theorem j12 : (Rows.fnExactUnmetOfRow.named == Try.prog.varsNamed 5) = true := by kernel_rfl
theorem j13 : (Rows.fnExactUnmetOfRow.maps == (Try.f5.params.toList ++ Rows.fnExactUnmetOfSpec.plain.varTypes Try.prog).any (Try.prog.mapsRec ·)) = true := by kernel_rfl
theorem j14 : (Rows.fnExactUnmetOfRow.ifaces == (Try.f5.params.toList ++ Rows.fnExactUnmetOfSpec.plain.varTypes Try.prog).any (Try.prog.ifacesRec ·)) = true := by kernel_rfl
theorem j15 : (Rows.fnExactUnmetOfRow.mapsOut == Try.prog.mapsAmong Try.f5.resultTypes.toList) = true := by kernel_rfl
theorem j16 : (Rows.fnExactUnmetOfRow.loops == (Try.f5.params.toList ++ Rows.fnExactUnmetOfSpec.plain.varTypes Try.prog).any (Try.prog.loopsFrom ·)) = true := by kernel_rfl
theorem j17 : (Rows.fnExactUnmetOfRow.wideKeys == (Try.f5.params.toList ++ Rows.fnExactUnmetOfSpec.plain.varTypes Try.prog ++ Try.f5.resultTypes.toList).any (Try.prog.wideKeysFrom ·)) = true := by kernel_rfl
theorem j18 : (Rows.fnExactUnmetOfSpec.vars.all (Try.prog.varReadable ·)) = true := by kernel_rfl
theorem j19 : (Try.f5.resultTypes.all (fun t => Try.prog.readableRec t && decide (t < Try.prog.types.size))) = true := by kernel_rfl
theorem j20 : (Rows.fnExactUnmetOfRow.ifacesOut == Try.f5.resultTypes.toList.any (Try.prog.ifacesRec ·)) = true := by kernel_rfl
theorem j21 : (Rows.fnExactUnmetOfRow.loopsOut == Try.f5.resultTypes.toList.any (Try.prog.loopsFrom ·)) = true := by kernel_rfl
theorem j23 : (Rows.fnExactUnmetOfRow.shortTexts.isNone) = true := by kernel_rfl
theorem j28 : (Rows.fnExactUnmetOfRow.kinds == (if Rows.fnExactUnmetOfRow.domain.isEmpty then [] else Try.f5.params.toList.map fun t => match Try.prog.underlying t with | some (.int k) => some k | _ => none)) = true := by kernel_rfl
theorem j29 : (Rows.fnExactUnmetOfRow.pinned == Rows.fnExactUnmetOfRow.pinnedBy) = true := by kernel_rfl
theorem j30 : (Rows.fnExactUnmetOfRow.veiled == (Try.f5.params.toList ++ Rows.fnExactUnmetOfSpec.plain.varTypes Try.prog ++ Try.f5.resultTypes.toList).any (Try.prog.veiledRec ·)) = true := by kernel_rfl
theorem j31 : (Rows.fnExactUnmetOfRow.veiledFits Try.prog Try.f5.params.toList (Try.f5.params.toList ++ Rows.fnExactUnmetOfSpec.plain.varTypes Try.prog ++ Try.f5.resultTypes.toList)) = true := by kernel_rfl
theorem j22 : (Rows.fnExactUnmetOfRow.plainKeys == Try.prog.plainKeys) = true := by rw [keysFact]; kernel_rfl
theorem j26 : (Rows.fnExactUnmetOfRow.lifted == Try.prog.liftsFinal) = true := by rw [liftsFact]; kernel_rfl
theorem j27 : (Try.prog.make == some Rows.fnExactUnmetOfRow.make) = true := by rw [makeFact]; kernel_rfl
set_option maxRecDepth 100000 in
theorem joined : joinedFacts Try.prog 5 Try.f5 Rows.fnExactUnmetOfSpec Rows.fnExactUnmetOfRow = true := by
  unfold joinedFacts
  exact band (band (band (band (band (band (band (band (band (band (band (band (band (band (band (band (band (band (band (band (band (band (band (band (band (band (band (band (band (band (band j0 laidFact) mapsFact) j3) j4) j5) j6) j7) j8) j9) j10) j11) j12) j13) j14) j15) j16) j17) j18) j19) j20) j21) j22) j23) heardFact) enterFact) j26) j27) j28) j29) j30) j31
theorem nameFact : Try.prog.funcNamed Rows.fnExactUnmetOfRow.func = some 5 := by kernel_rfl
set_option linter.unusedVariables false
set_option maxRecDepth 100000 in
theorem lifted (os : Os) (started : os.Started) (H : Type) (enc : TypeId × Value → H) :
    ReturnsInHanded {} Try.checked os 5 .any (Rows.fnExactUnmetOfSpec.pre6 enc Try.prog Try.f5 Rows.fnExactUnmetOfRow.domain false) (Rows.fnExactUnmetOfSpec.post enc Try.prog Try.f5 false true false false) := by
  refine returnsInHanded_of_change_sized (C := Try.checked) ownFact started (by kernel_rfl) Try.func5
    (ChangeSpec.witness6 (enc := enc) (C := Try.checked) false ⟨#[], #[.slice none 0 0, .slice none 0 0, .slice none 0 0], []⟩ 8 (by kernel_rfl) (by kernel_rfl) (by kernel_rfl) (by kernel_rfl)) ?_
  intro W base args ds gs before hval0 hW hcnd hsz0 _
  have hsz : (DataW.weightsEach Try.prog (Try.f5.params.toList ++ Rows.fnExactUnmetOfSpec.plain.varTypes Try.prog) (ds ++ gs)).all (· ≤ reachBytes) = true := hsz0
  have hval : ∀ (j : Nat) t v, Try.f5.params[j]? = some t → args[j]? = some v → Value.okWide Try.prog W .any base t v := hval0
  have hW' := hW
  obtain ⟨p, q, hA0, hV, rfl, hfz, hnd⟩ := hW
  have hA : DataW.TrodAll enc Try.prog W 0 (fun _ => true) true Try.f5.params.toList args.toList ds p := hA0
  rw [Try.params5] at hA hval hsz
  have hA2 := hA
  obtain ⟨v0, vs0, d0, ds0, p0, q0, hargs, rfl, rfl, h0, r0⟩ := trodAll_cons hA
  obtain ⟨v1, vs1, d1, ds1, p1, q1, rfl, rfl, rfl, h1, r1⟩ := trodAll_cons r0
  obtain ⟨v2, vs2, d2, ds2, p2, q2, rfl, rfl, rfl, h2, r2⟩ := trodAll_cons r1
  obtain ⟨rfl, rfl, rfl⟩ := trodAll_nil r2
  obtain ⟨rfl, rfl⟩ := trodVars_none hV
  obtain ⟨xs, rxs, txs⟩ := args_rv (n := 8) (by kernel_rfl) (fun j t v h1 h2 => hval j t v (by simpa using h1) (by simpa using h2)) hA2 (fun x hx => of_decide_eq_true (List.all_eq_true.1 hsz x hx))
  refine (law_calls (pure xs txs) rxs).mono fun e W' ⟨he, bel⟩ => ?_
  subst he
  exact ⟨_, rfl, _, _, _, [], _, [], hW', trodAll_mk1 (shut_bool Try.underlying4 _), trodAll_below laidFact bel (by kernel_rfl) hA2, rfl, bel.frame _, fun h => by cases h⟩
theorem over : Rows.fnExactUnmetOfRow.holds Try.pinned (OpenSpec.ofChange Rows.fnExactUnmetOfSpec) :=
  OpenClaim.holds_of_wide 5 Try.f5 rfl rfl rfl rfl rfl rfl rfl ⟨rfl, rfl, rfl, rfl, rfl⟩ rfl rfl rfl rfl rfl nameFact Try.func5 joined
    (of_decide_eq_true (by kernel_rfl)) (by unfold Func.isWrapper; first | (rw [if_pos (by decide +kernel)]; kernel_rfl) | (rw [if_neg (by decide +kernel)]; exact ⟨rfl, rfl⟩))
    (fun os started H enc _ => lifted os started H enc)
theorem proved : Rows.FnExactUnmetOfSaid := over
#print axioms proved
end Go.Proofs.Ytokhnmchnfkiiaa.Am.RowFnExactUnmetOf
namespace Go.Proofs.Ytokhnmchnfkiiaa
/-- The row, under a short name, for the claim. -/
theorem fnExactUnmetOf_holds : Rows.FnExactUnmetOfSaid := Am.RowFnExactUnmetOf.proved
end Go.Proofs.Ytokhnmchnfkiiaa
