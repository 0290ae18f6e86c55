/- FormatCatalog of the program returns what the reference's returns, for all arguments: the row of the law. No conditions. -/
import Derived.Test.YtokhnmchnfkiiaaDoorRows
import Derived.Test.YtokhnmchnfkiiaaDoorAmE8
import Derived.Test.YtokhnmchnfkiiaaDoorAmW
import Derived.Test.YtokhnmchnfkiiaaDoorAmCg3
import Derived.Test.YtokhnmchnfkiiaaDoorAmFacts
import Derived.WalkKit
import Derived.OpenShut
import Derived.ShutString
import Derived.ChangeOld
import Derived.Below
import Derived.SizedLaws
import Derived.Test.YtokhnmchnfkiiaaDoorCards
import Derived.Test.YtokhnmchnfkiiaaDoorTie
import Derived.SevenTiedAt
import Derived.LaidMore
import Derived.ProofKit
import Derived.Stop.Joined
import Derived.Stop.LaidErr
import Derived.Lib.LaidTab
import Derived.Lay
namespace Go.Proofs.YtokhnmchnfkiiaaDoor.Am.RowFnExactFormatCatalog
open Go Go.ChangeShapes Go.WideShapes Go.ChangeAt Go.RowKit Go.Proofs

theorem glob_of_laid {W : World} (h : laidMetH Tryd.prog Rows.fnExactFormatCatalogRow.laid W) : GlobOK (Ctx.outer W) := by
  rw [MakeChecks.laidMetH_plain _ _ _ (by kernel_rfl)] at h
  have e : (Rows.laid_internal_strconv_uint64pow10 : DataW Unit) = Lib.tabData .u64 Lib.pow10Tab := by kernel_rfl
  have h1 : laidMet Tryd.prog [("math/bits.deBruijn32tab", Rows.laid_math_bits_deBruijn32tab), ("math/bits.deBruijn64tab", Rows.laid_math_bits_deBruijn64tab), ("internal/strconv.uint64pow10", Rows.laid_internal_strconv_uint64pow10)] W := h
  have h2 := Go.laidMet.tail (Go.laidMet.tail h1)
  rw [e] at h2
  have h3 : Lib.TabIs Tryd.prog W "internal/strconv.uint64pow10" .u64 Lib.pow10Tab := Lib.tabIs_of_head (g := tabPow) (t := 177) (e := 166) (n := 20) (by kernel_rfl) (by kernel_rfl) Tryd.underlying177 Tryd.underlying166 (by kernel_rfl) (by kernel_rfl) h2
  intro q hq
  obtain rfl := List.mem_singleton.1 hq
  have g : Tryd.prog.globalNamed "internal/strconv.uint64pow10" = some tabPow := by kernel_rfl
  unfold Lib.TabIs World.var? at h3
  rw [g] at h3
  simp only [Option.bind_some] at h3
  split at h3
  · rename_i cs t fr hh
    cases h3
    refine ⟨(Array.getElem?_eq_some_iff.1 hh).1, ?_, _, t, fr, hh, rfl⟩
    rintro ((h | h) | h | ⟨_, _, h, _⟩)
    · exact h
    · exact h
    · cases h
    · cases h
  · cases h3

set_option maxRecDepth 100000 in
theorem pure (xs : List AV) (h : TypedArgs Tryd.prog 8 [57] xs) : Pure Tryd.prog 10 xs (.v (.bool true)) := by
  simp only [TypedArgs, TypedV, Tryd.underlying57] at h
  obtain ⟨_, _, rfl, h0, rfl⟩ := h
  obtain ⟨a0, h0e, a0b⟩ := ty_pks h0
  cases h0e
  exact l_formatCatalog a0 a0b
theorem j0 : (Rows.fnExactFormatCatalogRow.wf (OpenSpec.ofChange Rows.fnExactFormatCatalogSpec)) = true := by kernel_rfl
theorem j3 : (Tryd.f10.params.all (Tryd.prog.readableRec ·)) = true := by kernel_rfl
theorem j4 : (namedTie Tryd.prog Rows.fnExactFormatCatalogRow.named Rows.fnExactFormatCatalogSpec.vars) = true := by kernel_rfl
theorem j5 : (Rows.fnExactFormatCatalogRow.stops == []) = true := by kernel_rfl
theorem j6 : (Tryd.prog.stops == []) = true := by kernel_rfl
theorem j7 : (Rows.fnExactFormatCatalogRow.knobs == []) = true := by kernel_rfl
theorem j8 : (Tryd.prog.stopKnobs == []) = true := by kernel_rfl
theorem j9 : (Rows.fnExactFormatCatalogRow.inPlace == Tryd.prog.inPlace 10) = true := by kernel_rfl
theorem j10 : (Rows.fnExactFormatCatalogRow.unfollowed == Tryd.prog.unfollowed 10) = true := by kernel_rfl
theorem j11 : (Rows.fnExactFormatCatalogRow.recurses == Tryd.prog.recurses 10) = true := by kernel_rfl
theorem j12 : (Rows.fnExactFormatCatalogRow.named == Tryd.prog.varsNamed 10) = true := by kernel_rfl
theorem j13 : (Rows.fnExactFormatCatalogRow.maps == (Tryd.f10.params.toList ++ Rows.fnExactFormatCatalogSpec.plain.varTypes Tryd.prog).any (Tryd.prog.mapsRec ·)) = true := by kernel_rfl
theorem j14 : (Rows.fnExactFormatCatalogRow.ifaces == (Tryd.f10.params.toList ++ Rows.fnExactFormatCatalogSpec.plain.varTypes Tryd.prog).any (Tryd.prog.ifacesRec ·)) = true := by kernel_rfl
theorem j15 : (Rows.fnExactFormatCatalogRow.mapsOut == Tryd.prog.mapsAmong Tryd.f10.resultTypes.toList) = true := by kernel_rfl
theorem j16 : (Rows.fnExactFormatCatalogRow.loops == (Tryd.f10.params.toList ++ Rows.fnExactFormatCatalogSpec.plain.varTypes Tryd.prog).any (Tryd.prog.loopsFrom ·)) = true := by kernel_rfl
theorem j17 : (Rows.fnExactFormatCatalogRow.wideKeys == (Tryd.f10.params.toList ++ Rows.fnExactFormatCatalogSpec.plain.varTypes Tryd.prog ++ Tryd.f10.resultTypes.toList).any (Tryd.prog.wideKeysFrom ·)) = true := by kernel_rfl
theorem j18 : (Rows.fnExactFormatCatalogSpec.vars.all (Tryd.prog.varReadable ·)) = true := by kernel_rfl
theorem j19 : (Tryd.f10.resultTypes.all (fun t => Tryd.prog.readableRec t && decide (t < Tryd.prog.types.size))) = true := by kernel_rfl
theorem j20 : (Rows.fnExactFormatCatalogRow.ifacesOut == Tryd.f10.resultTypes.toList.any (Tryd.prog.ifacesRec ·)) = true := by kernel_rfl
theorem j21 : (Rows.fnExactFormatCatalogRow.loopsOut == Tryd.f10.resultTypes.toList.any (Tryd.prog.loopsFrom ·)) = true := by kernel_rfl
theorem j23 : (Rows.fnExactFormatCatalogRow.shortTexts.isNone) = true := by kernel_rfl
theorem j28 : (Rows.fnExactFormatCatalogRow.kinds == (if Rows.fnExactFormatCatalogRow.domain.isEmpty then [] else Tryd.f10.params.toList.map fun t => match Tryd.prog.underlying t with | some (.int k) => some k | _ => none)) = true := by kernel_rfl
theorem j29 : (Rows.fnExactFormatCatalogRow.pinned == Rows.fnExactFormatCatalogRow.pinnedBy) = true := by kernel_rfl
theorem j30 : (Rows.fnExactFormatCatalogRow.veiled == (Tryd.f10.params.toList ++ Rows.fnExactFormatCatalogSpec.plain.varTypes Tryd.prog ++ Tryd.f10.resultTypes.toList).any (Tryd.prog.veiledRec ·)) = true := by kernel_rfl
theorem j31 : (Rows.fnExactFormatCatalogRow.veiledFits Tryd.prog Tryd.f10.params.toList (Tryd.f10.params.toList ++ Rows.fnExactFormatCatalogSpec.plain.varTypes Tryd.prog ++ Tryd.f10.resultTypes.toList)) = true := by kernel_rfl
theorem j22 : (Rows.fnExactFormatCatalogRow.plainKeys == Tryd.prog.plainKeys) = true := by rw [keysFact]; kernel_rfl
theorem j26 : (Rows.fnExactFormatCatalogRow.lifted == Tryd.prog.liftsFinal) = true := by rw [liftsFact]; kernel_rfl
theorem j27 : (Tryd.prog.make == some Rows.fnExactFormatCatalogRow.make) = true := by rw [makeFact]; kernel_rfl
set_option maxRecDepth 100000 in
theorem joined : joinedFacts Tryd.prog 10 Tryd.f10 Rows.fnExactFormatCatalogSpec Rows.fnExactFormatCatalogRow = true := by
  unfold joinedFacts
  exact band (band (band (band (band (band (band (band (band (band (band (band (band (band (band (band (band (band (band (band (band (band (band (band (band (band (band (band (band (band (band j0 laidFact) mapsFact) j3) j4) j5) j6) j7) j8) j9) j10) j11) j12) j13) j14) j15) j16) j17) j18) j19) j20) j21) j22) j23) heardFact) enterFact) j26) j27) j28) j29) j30) j31
theorem nameFact : Tryd.prog.funcNamed Rows.fnExactFormatCatalogRow.func = some 10 := by kernel_rfl
set_option linter.unusedVariables false
theorem door_met (os : Os) (args : Array Value) : laidMetH Tryd.prog Rows.fnExactFormatCatalogRow.laid ((World.doorLaid Tryd.prog 400 os).forCall (fun _ _ => 0) ⟨#[], args, []⟩).memory :=
  laidMetH_of_parts3 (fuel := 8) (laidMet_of_run' 8 (by kernel_rfl) (by kernel_rfl)) (by kernel_rfl) (by kernel_rfl)
set_option maxRecDepth 100000 in
theorem lifted (os : Os) (started : os.Started) (H : Type) (enc : TypeId × Value → H) :
    ReturnsInHanded {} Tryd.checked os 10 .any (fun w args => (Rows.fnExactFormatCatalogSpec.pre enc Tryd.prog Tryd.f10 Rows.fnExactFormatCatalogRow.domain false w args ∧ laidMetH Tryd.prog Rows.fnExactFormatCatalogRow.laid w) ∧ sizedMet enc Tryd.prog Tryd.f10 (OpenSpec.ofChange Rows.fnExactFormatCatalogSpec) false w args) (Rows.fnExactFormatCatalogSpec.post enc Tryd.prog Tryd.f10 false true false false) := by
  refine returnsInHanded_of_change_and (C := Tryd.checked) (X := fun w _ => laidMetH Tryd.prog Rows.fnExactFormatCatalogRow.laid w) (fun _ _ _ hh h => h.of_heap hh) ownFact started (by kernel_rfl) Tryd.func10
    (ChangeSpec.witness_shaped (enc := enc) (C := Tryd.checked) (os := os) (X := fun w _ => laidMetH Tryd.prog Rows.fnExactFormatCatalogRow.laid w) false (World.doorLaid Tryd.prog 400 os) #[.slice none 0 0] 8 rfl (World.shaped_of_RefB (by kernel_rfl) (by kernel_rfl)) (by kernel_rfl) (by kernel_rfl) (by kernel_rfl) (door_met os _)) ?_
  intro W base args ds gs before hval0 hW hcnd hsz0 hL _
  have hsz : (DataW.weightsEach Tryd.prog (Tryd.f10.params.toList ++ Rows.fnExactFormatCatalogSpec.plain.varTypes Tryd.prog) (ds ++ gs)).all (· ≤ reachBytes) = true := hsz0
  have hval : ∀ (j : Nat) t v, Tryd.f10.params[j]? = some t → args[j]? = some v → Value.okWide Tryd.prog W .any base t v := hval0
  have hW' := hW
  obtain ⟨p, q, hA0, hV, rfl, hfz, hnd⟩ := hW
  have hA : DataW.TrodAll enc Tryd.prog W 0 (fun _ => true) true Tryd.f10.params.toList args.toList ds p := hA0
  rw [Tryd.params10] at hA hval hsz
  have hA2 := hA
  obtain ⟨v0, vs0, d0, ds0, p0, q0, hargs, rfl, rfl, h0, r0⟩ := trodAll_cons hA
  obtain ⟨rfl, rfl, rfl⟩ := trodAll_nil r0
  obtain ⟨rfl, rfl⟩ := trodVars_none hV
  obtain ⟨xs, rxs, txs⟩ := args_rv (n := 8) (by kernel_rfl) (fun j t v h1 h2 => hval j t v (by simpa using h1) (by simpa using h2)) hA2 (fun x hx => of_decide_eq_true (List.all_eq_true.1 hsz x hx))
  refine (law_calls (glob_of_laid hL) (pure xs txs) rxs).mono fun e W' ⟨he, bel⟩ => ?_
  subst he
  exact ⟨_, rfl, _, _, _, [], _, [], hW', trodAll_mk1 (shut_bool Tryd.underlying4 _), trodAll_below laidFact bel (by kernel_rfl) hA2, rfl, bel.frame _, fun h => by cases h⟩
theorem over : Rows.fnExactFormatCatalogRow.holds Tryd.pinned (OpenSpec.ofChange Rows.fnExactFormatCatalogSpec) :=
  OpenClaim.holds_of_wide 10 Tryd.f10 rfl rfl rfl rfl rfl rfl rfl ⟨rfl, rfl, rfl, rfl, rfl⟩ rfl rfl rfl rfl rfl nameFact Tryd.func10 joined
    (of_decide_eq_true (by kernel_rfl)) (by unfold Func.isWrapper; first | (rw [if_pos (by decide +kernel)]; kernel_rfl) | (rw [if_neg (by decide +kernel)]; exact ⟨rfl, rfl⟩))
    (fun os started H enc _ => lifted os started H enc)
theorem standFact (j : Nat) (t : TypeId) (ht : Tryd.f10.params[j]? = some t) : Tryd.prog.wantsStandIn t = false := by
  have hm : t ∈ Tryd.f10.params.toList := by simpa using Array.mem_of_getElem? ht
  have hall : (Tryd.f10.params.toList.all fun u => !Tryd.prog.wantsStandIn u) = true := by kernel_rfl
  simpa using List.all_eq_true.1 hall t hm
theorem proved : Rows.FnExactFormatCatalogCardSaid :=
  Claim7.holds_tied_plain_at .later [] [.data, .data, .data] true (true, "244ebad62b68422602c76a682faba520e6e758710c3f37cc04d1b5b7cfb6baa0") false
    over (fun _ h => by cases h) (by kernel_rfl) (fun _ h => by cases h) fnExactFormatCatalog_row_tie rfl ⟨rfl, rfl⟩ (by kernel_rfl) rfl
    (fun f fn hf hfn => by
      obtain rfl : f = 10 := Option.some.inj (nameFact.symm.trans hf) |>.symm
      obtain rfl : fn = Tryd.f10 := (Option.some.inj (Tryd.func10.symm.trans hfn)).symm
      exact ⟨by kernel_rfl, standFact⟩)
    (by kernel_rfl)
#print axioms proved
end Go.Proofs.YtokhnmchnfkiiaaDoor.Am.RowFnExactFormatCatalog
namespace Go.Proofs.YtokhnmchnfkiiaaDoor
/-- The card, under a short name, for the claim. -/
theorem fnExactFormatCatalog_holds : Rows.FnExactFormatCatalogCardSaid := Am.RowFnExactFormatCatalog.proved
end Go.Proofs.YtokhnmchnfkiiaaDoor
