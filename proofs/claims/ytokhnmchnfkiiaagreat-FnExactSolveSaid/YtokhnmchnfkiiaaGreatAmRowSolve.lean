/- Solve of the program returns what the reference's returns, for all arguments: the row of the law. No conditions. -/
import Derived.Test.YtokhnmchnfkiiaaGreatRows
import Derived.Test.YtokhnmchnfkiiaaGreatAmL21
import Derived.Test.YtokhnmchnfkiiaaGreatAmW
import Derived.Test.YtokhnmchnfkiiaaGreatAmCg3
import Derived.Test.YtokhnmchnfkiiaaGreatAmFacts
import Derived.WalkKit
import Derived.OpenShut
import Derived.ShutString
import Derived.ChangeOld
import Derived.Below
import Derived.SizedLaws
namespace Go.Proofs.YtokhnmchnfkiiaaGreat.Am.RowFnExactSolve
open Go Go.ChangeShapes Go.WideShapes Go.ChangeAt Go.RowKit Go.Proofs

set_option maxRecDepth 100000 in
theorem pure (xs : List AV) (h : TypedArgs Tryz.prog 8 [22, 23, 24, 2] xs) : Pure Tryz.prog 3 xs (.v (.bool true)) := by
  simp only [TypedArgs, TypedV, Tryz.underlying24, Tryz.underlying22, Tryz.underlying23, Tryz.underlying2] at h
  obtain ⟨_, _, rfl, h0, _, _, rfl, h1, _, _, rfl, h2, _, _, rfl, h3, rfl⟩ := h
  obtain ⟨a0, h0e, a0b, a0s⟩ := ty_pks2 h0
  cases h0e
  obtain ⟨a1, h1e, a1b, a1s⟩ := ty_trms2 h1
  cases h1e
  obtain ⟨a2, h2e, a2b, a2r⟩ := ty_ints h2
  cases h2e
  simp [Typed, Tryz.underlying2] at h3
  obtain ⟨a3, rfl, a3b⟩ := h3
  exact l_slv a0 a0b a0s a1 a1b a1s a2 a2b a3 (by refine IntWalk.i64_in _ ?_; have h := a3b; simp [Lit.wf] at h; have h1 : IntKind.i64.min = -9223372036854775808 := (by decide); omega)
theorem j0 : (Rows.fnExactSolveRow.wf (OpenSpec.ofChange Rows.fnExactSolveSpec)) = true := by kernel_rfl
theorem j3 : (Tryz.f3.params.all (Tryz.prog.readableRec ·)) = true := by kernel_rfl
theorem j4 : (namedTie Tryz.prog Rows.fnExactSolveRow.named Rows.fnExactSolveSpec.vars) = true := by kernel_rfl
theorem j5 : (Rows.fnExactSolveRow.stops == []) = true := by kernel_rfl
theorem j6 : (Tryz.prog.stops == []) = true := by kernel_rfl
theorem j7 : (Rows.fnExactSolveRow.knobs == []) = true := by kernel_rfl
theorem j8 : (Tryz.prog.stopKnobs == []) = true := by kernel_rfl
theorem j9 : (Rows.fnExactSolveRow.inPlace == Tryz.prog.inPlace 3) = true := by kernel_rfl
theorem j10 : (Rows.fnExactSolveRow.unfollowed == Tryz.prog.unfollowed 3) = true := by kernel_rfl
theorem j11 : (Rows.fnExactSolveRow.recurses == Tryz.prog.recurses 3) = true := by kernel_rfl
theorem j12 : (Rows.fnExactSolveRow.named == Tryz.prog.varsNamed 3) = true := by kernel_rfl
theorem j13 : (Rows.fnExactSolveRow.maps == (Tryz.f3.params.toList ++ Rows.fnExactSolveSpec.plain.varTypes Tryz.prog).any (Tryz.prog.mapsRec ·)) = true := by kernel_rfl
theorem j14 : (Rows.fnExactSolveRow.ifaces == (Tryz.f3.params.toList ++ Rows.fnExactSolveSpec.plain.varTypes Tryz.prog).any (Tryz.prog.ifacesRec ·)) = true := by kernel_rfl
theorem j15 : (Rows.fnExactSolveRow.mapsOut == Tryz.prog.mapsAmong Tryz.f3.resultTypes.toList) = true := by kernel_rfl
theorem j16 : (Rows.fnExactSolveRow.loops == (Tryz.f3.params.toList ++ Rows.fnExactSolveSpec.plain.varTypes Tryz.prog).any (Tryz.prog.loopsFrom ·)) = true := by kernel_rfl
theorem j17 : (Rows.fnExactSolveRow.wideKeys == (Tryz.f3.params.toList ++ Rows.fnExactSolveSpec.plain.varTypes Tryz.prog ++ Tryz.f3.resultTypes.toList).any (Tryz.prog.wideKeysFrom ·)) = true := by kernel_rfl
theorem j18 : (Rows.fnExactSolveSpec.vars.all (Tryz.prog.varReadable ·)) = true := by kernel_rfl
theorem j19 : (Tryz.f3.resultTypes.all (fun t => Tryz.prog.readableRec t && decide (t < Tryz.prog.types.size))) = true := by kernel_rfl
theorem j20 : (Rows.fnExactSolveRow.ifacesOut == Tryz.f3.resultTypes.toList.any (Tryz.prog.ifacesRec ·)) = true := by kernel_rfl
theorem j21 : (Rows.fnExactSolveRow.loopsOut == Tryz.f3.resultTypes.toList.any (Tryz.prog.loopsFrom ·)) = true := by kernel_rfl
theorem j23 : (Rows.fnExactSolveRow.shortTexts.isNone) = true := by kernel_rfl
theorem j28 : (Rows.fnExactSolveRow.kinds == (if Rows.fnExactSolveRow.domain.isEmpty then [] else Tryz.f3.params.toList.map fun t => match Tryz.prog.underlying t with | some (.int k) => some k | _ => none)) = true := by kernel_rfl
theorem j29 : (Rows.fnExactSolveRow.pinned == Rows.fnExactSolveRow.pinnedBy) = true := by kernel_rfl
theorem j30 : (Rows.fnExactSolveRow.veiled == (Tryz.f3.params.toList ++ Rows.fnExactSolveSpec.plain.varTypes Tryz.prog ++ Tryz.f3.resultTypes.toList).any (Tryz.prog.veiledRec ·)) = true := by kernel_rfl
theorem j31 : (Rows.fnExactSolveRow.veiledFits Tryz.prog Tryz.f3.params.toList (Tryz.f3.params.toList ++ Rows.fnExactSolveSpec.plain.varTypes Tryz.prog ++ Tryz.f3.resultTypes.toList)) = true := by kernel_rfl
theorem j22 : (Rows.fnExactSolveRow.plainKeys == Tryz.prog.plainKeys) = true := by rw [keysFact]; kernel_rfl
theorem j26 : (Rows.fnExactSolveRow.lifted == Tryz.prog.liftsFinal) = true := by rw [liftsFact]; kernel_rfl
theorem j27 : (Tryz.prog.make == some Rows.fnExactSolveRow.make) = true := by rw [makeFact]; kernel_rfl
set_option maxRecDepth 100000 in
theorem joined : joinedFacts Tryz.prog 3 Tryz.f3 Rows.fnExactSolveSpec Rows.fnExactSolveRow = true := by
  unfold joinedFacts
  exact band (band (band (band (band (band (band (band (band (band (band (band (band (band (band (band (band (band (band (band (band (band (band (band (band (band (band (band (band (band (band j0 laidFact) mapsFact) j3) j4) j5) j6) j7) j8) j9) j10) j11) j12) j13) j14) j15) j16) j17) j18) j19) j20) j21) j22) j23) heardFact) enterFact) j26) j27) j28) j29) j30) j31
theorem nameFact : Tryz.prog.funcNamed Rows.fnExactSolveRow.func = some 3 := by kernel_rfl
set_option linter.unusedVariables false
set_option maxRecDepth 100000 in
theorem lifted (os : Os) (started : os.Started) (H : Type) (enc : TypeId × Value → H) :
    ReturnsInHanded {} Tryz.checked os 3 .any (Rows.fnExactSolveSpec.pre6 enc Tryz.prog Tryz.f3 Rows.fnExactSolveRow.domain false) (Rows.fnExactSolveSpec.post enc Tryz.prog Tryz.f3 false true false false) := by
  refine returnsInHanded_of_change_sized (C := Tryz.checked) ownFact started (by kernel_rfl) Tryz.func3
    (ChangeSpec.witness6 (enc := enc) (C := Tryz.checked) false ⟨#[], #[.slice none 0 0, .slice none 0 0, .slice none 0 0, .int .i64 0], []⟩ 8 (by kernel_rfl) (by kernel_rfl) (by kernel_rfl) (by kernel_rfl)) ?_
  intro W base args ds gs before hval0 hW hcnd hsz0 _
  have hsz : (DataW.weightsEach Tryz.prog (Tryz.f3.params.toList ++ Rows.fnExactSolveSpec.plain.varTypes Tryz.prog) (ds ++ gs)).all (· ≤ reachBytes) = true := hsz0
  have hval : ∀ (j : Nat) t v, Tryz.f3.params[j]? = some t → args[j]? = some v → Value.okWide Tryz.prog W .any base t v := hval0
  have hW' := hW
  obtain ⟨p, q, hA0, hV, rfl, hfz, hnd⟩ := hW
  have hA : DataW.TrodAll enc Tryz.prog W 0 (fun _ => true) true Tryz.f3.params.toList args.toList ds p := hA0
  rw [Tryz.params3] at hA hval hsz
  have hA2 := hA
  obtain ⟨v0, vs0, d0, ds0, p0, q0, hargs, rfl, rfl, h0, r0⟩ := trodAll_cons hA
  obtain ⟨v1, vs1, d1, ds1, p1, q1, rfl, rfl, rfl, h1, r1⟩ := trodAll_cons r0
  obtain ⟨v2, vs2, d2, ds2, p2, q2, rfl, rfl, rfl, h2, r2⟩ := trodAll_cons r1
  obtain ⟨v3, vs3, d3, ds3, p3, q3, rfl, rfl, rfl, h3, r3⟩ := trodAll_cons r2
  obtain ⟨rfl, rfl, rfl⟩ := trodAll_nil r3
  obtain ⟨rfl, rfl⟩ := trodVars_none hV
  obtain ⟨xs, rxs, txs⟩ := args_rv (n := 8) (by kernel_rfl) (fun j t v h1 h2 => hval j t v (by simpa using h1) (by simpa using h2)) hA2 (fun x hx => of_decide_eq_true (List.all_eq_true.1 hsz x hx))
  refine (law_calls (pure xs txs) rxs).mono fun e W' ⟨he, bel⟩ => ?_
  subst he
  exact ⟨_, rfl, _, _, _, [], _, [], hW', trodAll_mk1 (shut_bool Tryz.underlying4 _), trodAll_below laidFact bel (by kernel_rfl) hA2, rfl, bel.frame _, fun h => by cases h⟩
theorem over : Rows.fnExactSolveRow.holds Tryz.pinned (OpenSpec.ofChange Rows.fnExactSolveSpec) :=
  OpenClaim.holds_of_wide 3 Tryz.f3 rfl rfl rfl rfl rfl rfl rfl ⟨rfl, rfl, rfl, rfl, rfl⟩ rfl rfl rfl rfl rfl nameFact Tryz.func3 joined
    (of_decide_eq_true (by kernel_rfl)) (by unfold Func.isWrapper; first | (rw [if_pos (by decide +kernel)]; kernel_rfl) | (rw [if_neg (by decide +kernel)]; exact ⟨rfl, rfl⟩))
    (fun os started H enc _ => lifted os started H enc)
theorem proved : Rows.FnExactSolveSaid := over
#print axioms proved
end Go.Proofs.YtokhnmchnfkiiaaGreat.Am.RowFnExactSolve
namespace Go.Proofs.YtokhnmchnfkiiaaGreat
/-- The row, under a short name, for the claim. -/
theorem fnExactSolve_holds : Rows.FnExactSolveSaid := Am.RowFnExactSolve.proved
end Go.Proofs.YtokhnmchnfkiiaaGreat
