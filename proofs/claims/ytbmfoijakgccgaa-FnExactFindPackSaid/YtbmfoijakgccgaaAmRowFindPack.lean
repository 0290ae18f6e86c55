/- FindPack of the program returns what the reference's returns, for all arguments: the row of the law. No conditions. -/
import Derived.Test.YtbmfoijakgccgaaRows
import Derived.Test.YtbmfoijakgccgaaAmL6
import Derived.Test.YtbmfoijakgccgaaAmV
import Derived.Test.YtbmfoijakgccgaaAmC9
import Derived.Test.YtbmfoijakgccgaaAmFacts
import Derived.WalkKit
import Derived.OpenShut
import Derived.ShutString
import Derived.ChangeOld
import Derived.Below
import Derived.SizedLaws
namespace Go.Proofs.Ytbmfoijakgccgaa.Am.RowFnExactFindPack
open Go Go.ChangeShapes Go.WideShapes Go.ChangeAt Go.RowKit Go.Proofs

set_option maxRecDepth 100000 in
theorem pure (xs : List AV) (h : TypedArgs Try.prog 8 [60, 9, 23] xs) : Pure Try.prog 7 xs (.v (.bool true)) := by
  simp only [TypedArgs, TypedV, Try.underlying60, Try.underlying23, Try.underlying9] at h
  obtain ⟨_, _, rfl, h0, _, _, rfl, h1, _, _, rfl, ⟨_, rfl, h2⟩, rfl⟩ := h
  obtain ⟨a0, h0e, a0b⟩ := ty_pks h0
  cases h0e
  simp [Typed, Try.underlying9] at h1
  obtain ⟨a1, rfl, a1b⟩ := h1
  obtain ⟨a2, rfl⟩ := ty_ver h2
  exact l_findPack a0 a0b a1 a2
theorem j0 : (Rows.fnExactFindPackRow.wf (OpenSpec.ofChange Rows.fnExactFindPackSpec)) = true := by kernel_rfl
theorem j3 : (Try.f7.params.all (Try.prog.readableRec ·)) = true := by kernel_rfl
theorem j4 : (namedTie Try.prog Rows.fnExactFindPackRow.named Rows.fnExactFindPackSpec.vars) = true := by kernel_rfl
theorem j5 : (Rows.fnExactFindPackRow.stops == []) = true := by kernel_rfl
theorem j6 : (Try.prog.stops == []) = true := by kernel_rfl
theorem j7 : (Rows.fnExactFindPackRow.knobs == []) = true := by kernel_rfl
theorem j8 : (Try.prog.stopKnobs == []) = true := by kernel_rfl
theorem j9 : (Rows.fnExactFindPackRow.inPlace == Try.prog.inPlace 7) = true := by kernel_rfl
theorem j10 : (Rows.fnExactFindPackRow.unfollowed == Try.prog.unfollowed 7) = true := by kernel_rfl
theorem j11 : (Rows.fnExactFindPackRow.recurses == Try.prog.recurses 7) = true := by kernel_rfl
theorem j12 : (Rows.fnExactFindPackRow.named == Try.prog.varsNamed 7) = true := by kernel_rfl
theorem j13 : (Rows.fnExactFindPackRow.maps == (Try.f7.params.toList ++ Rows.fnExactFindPackSpec.plain.varTypes Try.prog).any (Try.prog.mapsRec ·)) = true := by kernel_rfl
theorem j14 : (Rows.fnExactFindPackRow.ifaces == (Try.f7.params.toList ++ Rows.fnExactFindPackSpec.plain.varTypes Try.prog).any (Try.prog.ifacesRec ·)) = true := by kernel_rfl
theorem j15 : (Rows.fnExactFindPackRow.mapsOut == Try.prog.mapsAmong Try.f7.resultTypes.toList) = true := by kernel_rfl
theorem j16 : (Rows.fnExactFindPackRow.loops == (Try.f7.params.toList ++ Rows.fnExactFindPackSpec.plain.varTypes Try.prog).any (Try.prog.loopsFrom ·)) = true := by kernel_rfl
theorem j17 : (Rows.fnExactFindPackRow.wideKeys == (Try.f7.params.toList ++ Rows.fnExactFindPackSpec.plain.varTypes Try.prog ++ Try.f7.resultTypes.toList).any (Try.prog.wideKeysFrom ·)) = true := by kernel_rfl
theorem j18 : (Rows.fnExactFindPackSpec.vars.all (Try.prog.varReadable ·)) = true := by kernel_rfl
theorem j19 : (Try.f7.resultTypes.all (fun t => Try.prog.readableRec t && decide (t < Try.prog.types.size))) = true := by kernel_rfl
theorem j20 : (Rows.fnExactFindPackRow.ifacesOut == Try.f7.resultTypes.toList.any (Try.prog.ifacesRec ·)) = true := by kernel_rfl
theorem j21 : (Rows.fnExactFindPackRow.loopsOut == Try.f7.resultTypes.toList.any (Try.prog.loopsFrom ·)) = true := by kernel_rfl
theorem j23 : (Rows.fnExactFindPackRow.shortTexts.isNone) = true := by kernel_rfl
theorem j28 : (Rows.fnExactFindPackRow.kinds == (if Rows.fnExactFindPackRow.domain.isEmpty then [] else Try.f7.params.toList.map fun t => match Try.prog.underlying t with | some (.int k) => some k | _ => none)) = true := by kernel_rfl
theorem j29 : (Rows.fnExactFindPackRow.pinned == Rows.fnExactFindPackRow.pinnedBy) = true := by kernel_rfl
theorem j30 : (Rows.fnExactFindPackRow.veiled == (Try.f7.params.toList ++ Rows.fnExactFindPackSpec.plain.varTypes Try.prog ++ Try.f7.resultTypes.toList).any (Try.prog.veiledRec ·)) = true := by kernel_rfl
theorem j31 : (Rows.fnExactFindPackRow.veiledFits Try.prog Try.f7.params.toList (Try.f7.params.toList ++ Rows.fnExactFindPackSpec.plain.varTypes Try.prog ++ Try.f7.resultTypes.toList)) = true := by kernel_rfl
theorem j22 : (Rows.fnExactFindPackRow.plainKeys == Try.prog.plainKeys) = true := by rw [keysFact]; kernel_rfl
theorem j26 : (Rows.fnExactFindPackRow.lifted == Try.prog.liftsFinal) = true := by rw [liftsFact]; kernel_rfl
theorem j27 : (Try.prog.make == some Rows.fnExactFindPackRow.make) = true := by rw [makeFact]; kernel_rfl
set_option maxRecDepth 100000 in
theorem joined : joinedFacts Try.prog 7 Try.f7 Rows.fnExactFindPackSpec Rows.fnExactFindPackRow = true := by
  unfold joinedFacts
  exact band (band (band (band (band (band (band (band (band (band (band (band (band (band (band (band (band (band (band (band (band (band (band (band (band (band (band (band (band (band (band j0 laidFact) mapsFact) j3) j4) j5) j6) j7) j8) j9) j10) j11) j12) j13) j14) j15) j16) j17) j18) j19) j20) j21) j22) j23) heardFact) enterFact) j26) j27) j28) j29) j30) j31
theorem nameFact : Try.prog.funcNamed Rows.fnExactFindPackRow.func = some 7 := by kernel_rfl
set_option linter.unusedVariables false
set_option maxRecDepth 100000 in
theorem lifted (os : Os) (started : os.Started) (H : Type) (enc : TypeId × Value → H) :
    ReturnsInHanded {} Try.checked os 7 .any (Rows.fnExactFindPackSpec.pre6 enc Try.prog Try.f7 Rows.fnExactFindPackRow.domain false) (Rows.fnExactFindPackSpec.post enc Try.prog Try.f7 false true false false) := by
  refine returnsInHanded_of_change_sized (C := Try.checked) ownFact started (by kernel_rfl) Try.func7
    (ChangeSpec.witness6 (enc := enc) (C := Try.checked) false ⟨#[], #[.slice none 0 0, .string ByteArray.empty, .agg #[.int .i64 0, .int .i64 0, .int .i64 0]], []⟩ 8 (by kernel_rfl) (by kernel_rfl) (by kernel_rfl) (by kernel_rfl)) ?_
  intro W base args ds gs before hval0 hW hcnd hsz0 _
  have hsz : (DataW.weightsEach Try.prog (Try.f7.params.toList ++ Rows.fnExactFindPackSpec.plain.varTypes Try.prog) (ds ++ gs)).all (· ≤ reachBytes) = true := hsz0
  have hval : ∀ (j : Nat) t v, Try.f7.params[j]? = some t → args[j]? = some v → Value.okWide Try.prog W .any base t v := hval0
  have hW' := hW
  obtain ⟨p, q, hA0, hV, rfl, hfz, hnd⟩ := hW
  have hA : DataW.TrodAll enc Try.prog W 0 (fun _ => true) true Try.f7.params.toList args.toList ds p := hA0
  rw [Try.params7] at hA hval hsz
  have hA2 := hA
  obtain ⟨v0, vs0, d0, ds0, p0, q0, hargs, rfl, rfl, h0, r0⟩ := trodAll_cons hA
  obtain ⟨v1, vs1, d1, ds1, p1, q1, rfl, rfl, rfl, h1, r1⟩ := trodAll_cons r0
  obtain ⟨v2, vs2, d2, ds2, p2, q2, rfl, rfl, rfl, h2, r2⟩ := trodAll_cons r1
  obtain ⟨rfl, rfl, rfl⟩ := trodAll_nil r2
  obtain ⟨rfl, rfl⟩ := trodVars_none hV
  obtain ⟨xs, rxs, txs⟩ := args_rv (n := 8) (by kernel_rfl) (fun j t v h1 h2 => hval j t v (by simpa using h1) (by simpa using h2)) hA2 (fun x hx => of_decide_eq_true (List.all_eq_true.1 hsz x hx))
  refine (law_calls (pure xs txs) rxs).mono fun e W' ⟨he, bel⟩ => ?_
  subst he
  exact ⟨_, rfl, _, _, _, [], _, [], hW', trodAll_mk1 (shut_bool Try.underlying4 _), trodAll_below laidFact bel (by kernel_rfl) hA2, rfl, bel.frame _, fun h => by cases h⟩
theorem over : Rows.fnExactFindPackRow.holds Try.pinned (OpenSpec.ofChange Rows.fnExactFindPackSpec) :=
  OpenClaim.holds_of_wide 7 Try.f7 rfl rfl rfl rfl rfl rfl rfl ⟨rfl, rfl, rfl, rfl, rfl⟩ rfl rfl rfl rfl rfl nameFact Try.func7 joined
    (of_decide_eq_true (by kernel_rfl)) (by unfold Func.isWrapper; first | (rw [if_pos (by decide +kernel)]; kernel_rfl) | (rw [if_neg (by decide +kernel)]; exact ⟨rfl, rfl⟩))
    (fun os started H enc _ => lifted os started H enc)
theorem proved : Rows.FnExactFindPackSaid := over
#print axioms proved
end Go.Proofs.Ytbmfoijakgccgaa.Am.RowFnExactFindPack
namespace Go.Proofs.Ytbmfoijakgccgaa
/-- The row, under a short name, for the claim. -/
theorem fnExactFindPack_holds : Rows.FnExactFindPackSaid := Am.RowFnExactFindPack.proved
end Go.Proofs.Ytbmfoijakgccgaa
