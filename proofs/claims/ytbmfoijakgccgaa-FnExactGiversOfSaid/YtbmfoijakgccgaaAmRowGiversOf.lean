/- GiversOf of the program returns what the reference's returns, for all arguments: the row of the law. No conditions. -/
import Derived.Test.YtbmfoijakgccgaaRows
import Derived.Test.YtbmfoijakgccgaaAmL10
import Derived.Test.YtbmfoijakgccgaaAmW
import Derived.Test.YtbmfoijakgccgaaAmC9
import Derived.Test.YtbmfoijakgccgaaAmFacts
import Derived.WalkKit
import Derived.OpenShut
import Derived.ShutString
import Derived.ChangeOld
import Derived.Below
import Derived.SizedLaws
namespace Go.Proofs.Ytbmfoijakgccgaa.Am.RowFnExactGiversOf
open Go Go.ChangeShapes Go.WideShapes Go.ChangeAt Go.RowKit Go.Proofs

set_option maxRecDepth 100000 in
theorem pure (xs : List AV) (h : TypedArgs Try.prog 8 [60, 69, 40] xs) : Pure Try.prog 17 xs (.v (.bool true)) := by
  simp only [TypedArgs, TypedV, Try.underlying69, Try.underlying60, Try.underlying40] at h
  obtain ⟨_, _, rfl, h0, _, _, rfl, h1, _, _, rfl, ⟨_, rfl, h2⟩, rfl⟩ := h
  obtain ⟨a0, h0e, a0b, a0s⟩ := ty_pks2 h0
  cases h0e
  obtain ⟨a1, h1e, a1b, a1r⟩ := ty_ints h1
  cases h1e
  obtain ⟨a2, rfl, a2s⟩ := ty_trm2 h2
  exact l_givers a0 a0b a0s a1 a1b a2 a2s
theorem j0 : (Rows.fnExactGiversOfRow.wf (OpenSpec.ofChange Rows.fnExactGiversOfSpec)) = true := by kernel_rfl
theorem j3 : (Try.f17.params.all (Try.prog.readableRec ·)) = true := by kernel_rfl
theorem j4 : (namedTie Try.prog Rows.fnExactGiversOfRow.named Rows.fnExactGiversOfSpec.vars) = true := by kernel_rfl
theorem j5 : (Rows.fnExactGiversOfRow.stops == []) = true := by kernel_rfl
theorem j6 : (Try.prog.stops == []) = true := by kernel_rfl
theorem j7 : (Rows.fnExactGiversOfRow.knobs == []) = true := by kernel_rfl
theorem j8 : (Try.prog.stopKnobs == []) = true := by kernel_rfl
theorem j9 : (Rows.fnExactGiversOfRow.inPlace == Try.prog.inPlace 17) = true := by kernel_rfl
theorem j10 : (Rows.fnExactGiversOfRow.unfollowed == Try.prog.unfollowed 17) = true := by kernel_rfl
theorem j11 : (Rows.fnExactGiversOfRow.recurses == Try.prog.recurses 17) = true := by kernel_rfl
theorem j12 : (Rows.fnExactGiversOfRow.named == Try.prog.varsNamed 17) = true := by kernel_rfl
theorem j13 : (Rows.fnExactGiversOfRow.maps == (Try.f17.params.toList ++ Rows.fnExactGiversOfSpec.plain.varTypes Try.prog).any (Try.prog.mapsRec ·)) = true := by kernel_rfl
theorem j14 : (Rows.fnExactGiversOfRow.ifaces == (Try.f17.params.toList ++ Rows.fnExactGiversOfSpec.plain.varTypes Try.prog).any (Try.prog.ifacesRec ·)) = true := by kernel_rfl
theorem j15 : (Rows.fnExactGiversOfRow.mapsOut == Try.prog.mapsAmong Try.f17.resultTypes.toList) = true := by kernel_rfl
theorem j16 : (Rows.fnExactGiversOfRow.loops == (Try.f17.params.toList ++ Rows.fnExactGiversOfSpec.plain.varTypes Try.prog).any (Try.prog.loopsFrom ·)) = true := by kernel_rfl
theorem j17 : (Rows.fnExactGiversOfRow.wideKeys == (Try.f17.params.toList ++ Rows.fnExactGiversOfSpec.plain.varTypes Try.prog ++ Try.f17.resultTypes.toList).any (Try.prog.wideKeysFrom ·)) = true := by kernel_rfl
theorem j18 : (Rows.fnExactGiversOfSpec.vars.all (Try.prog.varReadable ·)) = true := by kernel_rfl
theorem j19 : (Try.f17.resultTypes.all (fun t => Try.prog.readableRec t && decide (t < Try.prog.types.size))) = true := by kernel_rfl
theorem j20 : (Rows.fnExactGiversOfRow.ifacesOut == Try.f17.resultTypes.toList.any (Try.prog.ifacesRec ·)) = true := by kernel_rfl
theorem j21 : (Rows.fnExactGiversOfRow.loopsOut == Try.f17.resultTypes.toList.any (Try.prog.loopsFrom ·)) = true := by kernel_rfl
theorem j23 : (Rows.fnExactGiversOfRow.shortTexts.isNone) = true := by kernel_rfl
theorem j28 : (Rows.fnExactGiversOfRow.kinds == (if Rows.fnExactGiversOfRow.domain.isEmpty then [] else Try.f17.params.toList.map fun t => match Try.prog.underlying t with | some (.int k) => some k | _ => none)) = true := by kernel_rfl
theorem j29 : (Rows.fnExactGiversOfRow.pinned == Rows.fnExactGiversOfRow.pinnedBy) = true := by kernel_rfl
theorem j30 : (Rows.fnExactGiversOfRow.veiled == (Try.f17.params.toList ++ Rows.fnExactGiversOfSpec.plain.varTypes Try.prog ++ Try.f17.resultTypes.toList).any (Try.prog.veiledRec ·)) = true := by kernel_rfl
theorem j31 : (Rows.fnExactGiversOfRow.veiledFits Try.prog Try.f17.params.toList (Try.f17.params.toList ++ Rows.fnExactGiversOfSpec.plain.varTypes Try.prog ++ Try.f17.resultTypes.toList)) = true := by kernel_rfl
theorem j22 : (Rows.fnExactGiversOfRow.plainKeys == Try.prog.plainKeys) = true := by rw [keysFact]; kernel_rfl
theorem j26 : (Rows.fnExactGiversOfRow.lifted == Try.prog.liftsFinal) = true := by rw [liftsFact]; kernel_rfl
theorem j27 : (Try.prog.make == some Rows.fnExactGiversOfRow.make) = true := by rw [makeFact]; kernel_rfl
set_option maxRecDepth 100000 in
theorem joined : joinedFacts Try.prog 17 Try.f17 Rows.fnExactGiversOfSpec Rows.fnExactGiversOfRow = true := by
  unfold joinedFacts
  exact band (band (band (band (band (band (band (band (band (band (band (band (band (band (band (band (band (band (band (band (band (band (band (band (band (band (band (band (band (band (band j0 laidFact) mapsFact) j3) j4) j5) j6) j7) j8) j9) j10) j11) j12) j13) j14) j15) j16) j17) j18) j19) j20) j21) j22) j23) heardFact) enterFact) j26) j27) j28) j29) j30) j31
theorem nameFact : Try.prog.funcNamed Rows.fnExactGiversOfRow.func = some 17 := by kernel_rfl
set_option linter.unusedVariables false
set_option maxRecDepth 100000 in
theorem lifted (os : Os) (started : os.Started) (H : Type) (enc : TypeId × Value → H) :
    ReturnsInHanded {} Try.checked os 17 .any (Rows.fnExactGiversOfSpec.pre6 enc Try.prog Try.f17 Rows.fnExactGiversOfRow.domain false) (Rows.fnExactGiversOfSpec.post enc Try.prog Try.f17 false true false false) := by
  refine returnsInHanded_of_change_sized (C := Try.checked) ownFact started (by kernel_rfl) Try.func17
    (ChangeSpec.witness6 (enc := enc) (C := Try.checked) false ⟨#[], #[.slice none 0 0, .slice none 0 0, .agg #[.string ByteArray.empty, .int .i64 0, .int .i64 0, .int .i64 0, .int .i64 0, .int .i64 0, .int .i64 0]], []⟩ 8 (by kernel_rfl) (by kernel_rfl) (by kernel_rfl) (by kernel_rfl)) ?_
  intro W base args ds gs before hval0 hW hcnd hsz0 _
  have hsz : (DataW.weightsEach Try.prog (Try.f17.params.toList ++ Rows.fnExactGiversOfSpec.plain.varTypes Try.prog) (ds ++ gs)).all (· ≤ reachBytes) = true := hsz0
  have hval : ∀ (j : Nat) t v, Try.f17.params[j]? = some t → args[j]? = some v → Value.okWide Try.prog W .any base t v := hval0
  have hW' := hW
  obtain ⟨p, q, hA0, hV, rfl, hfz, hnd⟩ := hW
  have hA : DataW.TrodAll enc Try.prog W 0 (fun _ => true) true Try.f17.params.toList args.toList ds p := hA0
  rw [Try.params17] at hA hval hsz
  have hA2 := hA
  obtain ⟨v0, vs0, d0, ds0, p0, q0, hargs, rfl, rfl, h0, r0⟩ := trodAll_cons hA
  obtain ⟨v1, vs1, d1, ds1, p1, q1, rfl, rfl, rfl, h1, r1⟩ := trodAll_cons r0
  obtain ⟨v2, vs2, d2, ds2, p2, q2, rfl, rfl, rfl, h2, r2⟩ := trodAll_cons r1
  obtain ⟨rfl, rfl, rfl⟩ := trodAll_nil r2
  obtain ⟨rfl, rfl⟩ := trodVars_none hV
  obtain ⟨xs, rxs, txs⟩ := args_rv (n := 8) (by kernel_rfl) (fun j t v h1 h2 => hval j t v (by simpa using h1) (by simpa using h2)) hA2 (fun x hx => of_decide_eq_true (List.all_eq_true.1 hsz x hx))
  refine (law_calls (pure xs txs) rxs).mono fun e W' ⟨he, bel⟩ => ?_
  subst he
  exact ⟨_, rfl, _, _, _, [], _, [], hW', trodAll_mk1 (shut_bool Try.underlying4 _), trodAll_below laidFact bel (by kernel_rfl) hA2, rfl, bel.frame _, fun h => by cases h⟩
theorem over : Rows.fnExactGiversOfRow.holds Try.pinned (OpenSpec.ofChange Rows.fnExactGiversOfSpec) :=
  OpenClaim.holds_of_wide 17 Try.f17 rfl rfl rfl rfl rfl rfl rfl ⟨rfl, rfl, rfl, rfl, rfl⟩ rfl rfl rfl rfl rfl nameFact Try.func17 joined
    (of_decide_eq_true (by kernel_rfl)) (by unfold Func.isWrapper; first | (rw [if_pos (by decide +kernel)]; kernel_rfl) | (rw [if_neg (by decide +kernel)]; exact ⟨rfl, rfl⟩))
    (fun os started H enc _ => lifted os started H enc)
theorem proved : Rows.FnExactGiversOfSaid := over
#print axioms proved
end Go.Proofs.Ytbmfoijakgccgaa.Am.RowFnExactGiversOf
namespace Go.Proofs.Ytbmfoijakgccgaa
/-- The row, under a short name, for the claim. -/
theorem fnExactGiversOf_holds : Rows.FnExactGiversOfSaid := Am.RowFnExactGiversOf.proved
end Go.Proofs.Ytbmfoijakgccgaa
