/- The law FnTerms is true for all arguments: its row. No conditions. -/
import Derived.Test.YtokhnmchnfkiiaaDoorRows
import Derived.Test.YtokhnmchnfkiiaaDoorAmL24
import Derived.Test.YtokhnmchnfkiiaaDoorAmW
import Derived.Test.YtokhnmchnfkiiaaDoorAmCg3
import Derived.Test.YtokhnmchnfkiiaaDoorAmFacts
import Derived.WalkKit
import Derived.OpenShut
import Derived.ShutString
import Derived.ChangeOld
import Derived.Below
import Derived.SizedLaws
import Derived.Test.YtokhnmchnfkiiaaDoorCards
import Derived.Test.YtokhnmchnfkiiaaDoorTie
import Derived.SevenTiedAt
import Derived.LaidMore
import Derived.ProofKit
import Derived.Stop.Joined
import Derived.Stop.LaidErr
import Derived.Lib.LaidTab
import Derived.Lay
namespace Go.Proofs.YtokhnmchnfkiiaaDoor.Am.RowFnTerms
open Go Go.ChangeShapes Go.WideShapes Go.ChangeAt Go.RowKit Go.Proofs

theorem glob_both {W : World} (hL : laidMetH Tryd.prog Rows.fnTermsRow.laid W) (hsh : W.ShapedOpen Tryd.prog) : GlobOK (Ctx.outer W) := by
  have hno : ∀ b, ¬ (Ctx.outer W).N true b := by
    rintro b ((h | h) | h | ⟨_, _, h, _⟩)
    · exact h
    · exact h
    · cases h
    · cases h
  rw [MakeChecks.laidMetH_plain _ _ _ (by kernel_rfl)] at hL
  have e : (Rows.laid_internal_strconv_uint64pow10 : DataW Unit) = Lib.tabData .u64 Lib.pow10Tab := by kernel_rfl
  have h1 : laidMet Tryd.prog (("math/bits.deBruijn32tab", Rows.laid_math_bits_deBruijn32tab) :: ("math/bits.deBruijn64tab", Rows.laid_math_bits_deBruijn64tab) :: ("internal/strconv.uint64pow10", Rows.laid_internal_strconv_uint64pow10) :: [("unicode/utf8.acceptRanges", Rows.laid_unicode_utf8_acceptRanges), ("unicode/utf8.first", Rows.laid_unicode_utf8_first)]) W := hL
  have h2 := Go.laidMet.tail (Go.laidMet.tail h1)
  rw [e] at h2
  have h3 : Lib.TabIs Tryd.prog W "internal/strconv.uint64pow10" .u64 Lib.pow10Tab := Lib.tabIs_of_head (g := tabPow) (t := 177) (e := 166) (n := 20) (by kernel_rfl) (by kernel_rfl) Tryd.underlying177 Tryd.underlying166 (by kernel_rfl) (by kernel_rfl) h2
  have k1 : tabPow < W.heap.size ∧ ¬ (Ctx.outer W).N true tabPow ∧ ∃ cs t fr, W.heap[tabPow]? = some (.cells cs t fr) ∧ cs = (Lib.pow10Tab.map fun z => Value.int .u64 z).toArray := by
    have g : Tryd.prog.globalNamed "internal/strconv.uint64pow10" = some tabPow := by kernel_rfl
    unfold Lib.TabIs World.var? at h3
    rw [g] at h3
    simp only [Option.bind_some] at h3
    split at h3
    · rename_i cs t fr hh
      cases h3
      exact ⟨(Array.getElem?_eq_some_iff.1 hh).1, hno _, _, t, fr, hh, rfl⟩
    · cases h3
  have k2 : tabMax < W.heap.size ∧ ¬ (Ctx.outer W).N true tabMax ∧ ∃ cs t fr, W.heap[tabMax]? = some (.cells cs t fr) ∧ ∃ m, cs[0]? = some (.int .i64 m) := by
    obtain ⟨m, hm⟩ := m146.s1_3 W hsh
    have hm2 : W.cell? ⟨tabMax, 0, none⟩ = some (.int .i64 m) := hm
    unfold World.cell? at hm2
    simp only at hm2
    split at hm2
    · rename_i cs t fr hh
      exact ⟨(Array.getElem?_eq_some_iff.1 hh).1, hno _, _, t, fr, hh, m, hm2⟩
    · cases hm2
  intro q hq
  rcases List.mem_cons.1 hq with rfl | hq
  · exact k1
  · obtain rfl := List.mem_singleton.1 hq
    exact k2

set_option maxRecDepth 100000 in
theorem pure (xs : List AV) (h : TypedArgs Tryd.prog 8 [41] xs) : Pure Tryd.prog 8 xs (.v (.bool true)) := by
  simp only [TypedArgs, TypedV, Tryd.underlying41] at h
  obtain ⟨_, _, rfl, h0, rfl⟩ := h
  obtain ⟨a0, h0e, a0b⟩ := ty_bytes h0
  cases h0e
  exact l_fnTerms a0 a0b
theorem j0 : (Rows.fnTermsRow.wf (OpenSpec.ofChange Rows.fnTermsSpec)) = true := by kernel_rfl
theorem j3 : (Tryd.f8.params.all (Tryd.prog.readableRec ·)) = true := by kernel_rfl
theorem j4 : (namedTie Tryd.prog Rows.fnTermsRow.named Rows.fnTermsSpec.vars) = true := by kernel_rfl
theorem j5 : (Rows.fnTermsRow.stops == []) = true := by kernel_rfl
theorem j6 : (Tryd.prog.stops == []) = true := by kernel_rfl
theorem j7 : (Rows.fnTermsRow.knobs == []) = true := by kernel_rfl
theorem j8 : (Tryd.prog.stopKnobs == []) = true := by kernel_rfl
theorem j9 : (Rows.fnTermsRow.inPlace == Tryd.prog.inPlace 8) = true := by kernel_rfl
theorem j10 : (Rows.fnTermsRow.unfollowed == Tryd.prog.unfollowed 8) = true := by kernel_rfl
theorem j11 : (Rows.fnTermsRow.recurses == Tryd.prog.recurses 8) = true := by kernel_rfl
theorem j12 : (Rows.fnTermsRow.named == Tryd.prog.varsNamed 8) = true := by kernel_rfl
theorem j13 : (Rows.fnTermsRow.maps == (Tryd.f8.params.toList ++ Rows.fnTermsSpec.plain.varTypes Tryd.prog).any (Tryd.prog.mapsRec ·)) = true := by kernel_rfl
theorem j14 : (Rows.fnTermsRow.ifaces == (Tryd.f8.params.toList ++ Rows.fnTermsSpec.plain.varTypes Tryd.prog).any (Tryd.prog.ifacesRec ·)) = true := by kernel_rfl
theorem j15 : (Rows.fnTermsRow.mapsOut == Tryd.prog.mapsAmong Tryd.f8.resultTypes.toList) = true := by kernel_rfl
theorem j16 : (Rows.fnTermsRow.loops == (Tryd.f8.params.toList ++ Rows.fnTermsSpec.plain.varTypes Tryd.prog).any (Tryd.prog.loopsFrom ·)) = true := by kernel_rfl
theorem j17 : (Rows.fnTermsRow.wideKeys == (Tryd.f8.params.toList ++ Rows.fnTermsSpec.plain.varTypes Tryd.prog ++ Tryd.f8.resultTypes.toList).any (Tryd.prog.wideKeysFrom ·)) = true := by kernel_rfl
theorem j18 : (Rows.fnTermsSpec.vars.all (Tryd.prog.varReadable ·)) = true := by kernel_rfl
theorem j19 : (Tryd.f8.resultTypes.all (fun t => Tryd.prog.readableRec t && decide (t < Tryd.prog.types.size))) = true := by kernel_rfl
theorem j20 : (Rows.fnTermsRow.ifacesOut == Tryd.f8.resultTypes.toList.any (Tryd.prog.ifacesRec ·)) = true := by kernel_rfl
theorem j21 : (Rows.fnTermsRow.loopsOut == Tryd.f8.resultTypes.toList.any (Tryd.prog.loopsFrom ·)) = true := by kernel_rfl
theorem j23 : (Rows.fnTermsRow.shortTexts.isNone) = true := by kernel_rfl
theorem j28 : (Rows.fnTermsRow.kinds == (if Rows.fnTermsRow.domain.isEmpty then [] else Tryd.f8.params.toList.map fun t => match Tryd.prog.underlying t with | some (.int k) => some k | _ => none)) = true := by kernel_rfl
theorem j29 : (Rows.fnTermsRow.pinned == Rows.fnTermsRow.pinnedBy) = true := by kernel_rfl
theorem j30 : (Rows.fnTermsRow.veiled == (Tryd.f8.params.toList ++ Rows.fnTermsSpec.plain.varTypes Tryd.prog ++ Tryd.f8.resultTypes.toList).any (Tryd.prog.veiledRec ·)) = true := by kernel_rfl
theorem j31 : (Rows.fnTermsRow.veiledFits Tryd.prog Tryd.f8.params.toList (Tryd.f8.params.toList ++ Rows.fnTermsSpec.plain.varTypes Tryd.prog ++ Tryd.f8.resultTypes.toList)) = true := by kernel_rfl
theorem j22 : (Rows.fnTermsRow.plainKeys == Tryd.prog.plainKeys) = true := by rw [keysFact]; kernel_rfl
theorem j26 : (Rows.fnTermsRow.lifted == Tryd.prog.liftsFinal) = true := by rw [liftsFact]; kernel_rfl
theorem j27 : (Tryd.prog.make == some Rows.fnTermsRow.make) = true := by rw [makeFact]; kernel_rfl
set_option maxRecDepth 100000 in
theorem joined : joinedFacts Tryd.prog 8 Tryd.f8 Rows.fnTermsSpec Rows.fnTermsRow = true := by
  unfold joinedFacts
  exact band (band (band (band (band (band (band (band (band (band (band (band (band (band (band (band (band (band (band (band (band (band (band (band (band (band (band (band (band (band (band j0 laidFact) mapsFact) j3) j4) j5) j6) j7) j8) j9) j10) j11) j12) j13) j14) j15) j16) j17) j18) j19) j20) j21) j22) j23) heardFact) enterFact) j26) j27) j28) j29) j30) j31
theorem nameFact : Tryd.prog.funcNamed Rows.fnTermsRow.func = some 8 := by kernel_rfl
set_option linter.unusedVariables false
theorem handed_shaped {H : Type} {enc : TypeId × Value → H} {a : Assume} {C : Checked} {os : Os} {f : FuncId} {fn : Func} {s : ChangeSpec} {conds : List PathCond} {apart fresh handsOn again : Bool} {X : World → Array Value → Prop}
    (hX : ∀ (w w' : World) (args : Array Value), w.heap = w'.heap → X w args → X w' args) (own : ownKnob C.prog.godebug = none) (started : os.Started) (noInit : C.prog.inits.idxOf? f = none) (hfn : C.prog.funcs[f]? = some fn)
    (wit : ∃ (w : World) (tape : Tape) (i : Input), w.os = os ∧ (w.forCall tape i).Shaped C.prog ∧ i.vars = [] ∧ Input.okWide C.prog (w.forCall tape i) .any w.heap.size f i ∧
      ((s.pre enc C.prog fn conds apart (w.forCall tape i).memory i.args ∧ X (w.forCall tape i).memory i.args) ∧ sizedMet enc C.prog fn (OpenSpec.ofChange s) apart (w.forCall tape i).memory i.args) ∧ a.holds C.prog (lone (Frame.enter C.prog f i.args .normal) [] (w.forCall tape i)))
    (con : ∀ (W : World) (base : Nat) (args : Array Value) (ds gs : List (DataW H)) (before : List MemPlace), (∀ (j : Nat) t v, fn.params[j]? = some t → args[j]? = some v → Value.okWide C.prog W .any base t v) →
      DataW.Whole enc C.prog fn.params.toList s.vars apart W args.toList ds gs before → conds.all (PathCond.test C.prog ⟨fn.params.toList, ds, s.plain.varTypes C.prog, gs⟩) = true →
      (DataW.weightsEach C.prog (fn.params.toList ++ s.plain.varTypes C.prog) (ds ++ gs)).all (· ≤ reachBytes) = true → X W args → W.ShapedOpen C.prog → a.holds C.prog (lone (Frame.enter C.prog f args .normal) [] W) →
      Calls C.prog f args W fun e W' => ∃ v, e = .returned v ∧ s.post enc C.prog fn apart fresh handsOn again W args v W') :
    ReturnsInHanded a C os f .any (fun w args => (s.pre enc C.prog fn conds apart w args ∧ X w args) ∧ sizedMet enc C.prog fn (OpenSpec.ofChange s) apart w args) (s.post enc C.prog fn apart fresh handsOn again) := by
  refine returnsInHanded_of_calls own started noInit wit ?_
  rintro w tape i _ hsh _ ⟨_, _, _, gn, hgn, _, _, _, _, hval⟩ ⟨⟨⟨ds, gs, before, hw, hc⟩, hx⟩, hz⟩ hh
  obtain rfl : gn = fn := Option.some.inj (hgn.symm.trans hfn)
  refine (con (w.forCall tape i) w.heap.size i.args ds gs before hval (DataW.Whole.of_heap (w' := w.forCall tape i) (by rfl) hw) hc (hz.weights hw) (hX _ _ _ (by rfl) hx) hsh hh).mono ?_
  rintro e W' ⟨v, rfl, hp⟩
  exact ChangeSpec.post_blind hp
set_option maxRecDepth 100000 in
theorem lifted (os : Os) (started : os.Started) (H : Type) (enc : TypeId × Value → H) :
    ReturnsInHanded {} Tryd.checked os 8 .any (fun w args => (Rows.fnTermsSpec.pre enc Tryd.prog Tryd.f8 Rows.fnTermsRow.domain false w args ∧ laidMetH Tryd.prog Rows.fnTermsRow.laid w) ∧ sizedMet enc Tryd.prog Tryd.f8 (OpenSpec.ofChange Rows.fnTermsSpec) false w args) (Rows.fnTermsSpec.post enc Tryd.prog Tryd.f8 false true false false) := by
  refine handed_shaped (C := Tryd.checked) (X := fun w _ => laidMetH Tryd.prog Rows.fnTermsRow.laid w) (fun _ _ _ hh h => h.of_heap hh) ownFact started (by kernel_rfl) Tryd.func8
    (ChangeSpec.witness_shaped (enc := enc) (C := Tryd.checked) (os := os) (X := fun w _ => laidMetH Tryd.prog Rows.fnTermsRow.laid w) false (World.laidAll Tryd.prog os Rows.fnTermsRow.laid) #[.slice none 0 0] 8 (World.laidAll_os _ _ _) (World.shaped_of_ZipB (by kernel_rfl) (by kernel_rfl)) (by kernel_rfl) (by kernel_rfl) (by kernel_rfl)
      (by rw [MakeChecks.laidMetH_plain _ _ _ (by kernel_rfl)]; exact laidMet_laidAll _ (by kernel_rfl) (by kernel_rfl))) ?_
  intro W base args ds gs before hval0 hW hcnd hsz0 hL hsh _
  have hsz : (DataW.weightsEach Tryd.prog (Tryd.f8.params.toList ++ Rows.fnTermsSpec.plain.varTypes Tryd.prog) (ds ++ gs)).all (· ≤ reachBytes) = true := hsz0
  have hval : ∀ (j : Nat) t v, Tryd.f8.params[j]? = some t → args[j]? = some v → Value.okWide Tryd.prog W .any base t v := hval0
  have hW' := hW
  obtain ⟨p, q, hA0, hV, rfl, hfz, hnd⟩ := hW
  have hA : DataW.TrodAll enc Tryd.prog W 0 (fun _ => true) true Tryd.f8.params.toList args.toList ds p := hA0
  rw [Tryd.params8] at hA hval hsz
  have hA2 := hA
  obtain ⟨v0, vs0, d0, ds0, p0, q0, hargs, rfl, rfl, h0, r0⟩ := trodAll_cons hA
  obtain ⟨rfl, rfl, rfl⟩ := trodAll_nil r0
  obtain ⟨rfl, rfl⟩ := trodVars_none hV
  obtain ⟨xs, rxs, txs⟩ := args_rv (n := 8) (by kernel_rfl) (fun j t v h1 h2 => hval j t v (by simpa using h1) (by simpa using h2)) hA2 (fun x hx => of_decide_eq_true (List.all_eq_true.1 hsz x hx))
  refine (law_calls (glob_both hL hsh) (pure xs txs) rxs).mono fun e W' ⟨he, bel⟩ => ?_
  subst he
  exact ⟨_, rfl, _, _, _, [], _, [], hW', trodAll_mk1 (shut_bool Tryd.underlying4 _), trodAll_below laidFact bel (by kernel_rfl) hA2, rfl, bel.frame _, fun h => by cases h⟩
theorem over : Rows.fnTermsRow.holds Tryd.pinned (OpenSpec.ofChange Rows.fnTermsSpec) :=
  OpenClaim.holds_of_wide 8 Tryd.f8 rfl rfl rfl rfl rfl rfl rfl ⟨rfl, rfl, rfl, rfl, rfl⟩ rfl rfl rfl rfl rfl nameFact Tryd.func8 joined
    (of_decide_eq_true (by kernel_rfl)) (by unfold Func.isWrapper; first | (rw [if_pos (by decide +kernel)]; kernel_rfl) | (rw [if_neg (by decide +kernel)]; exact ⟨rfl, rfl⟩))
    (fun os started H enc _ => lifted os started H enc)
theorem standFact (j : Nat) (t : TypeId) (ht : Tryd.f8.params[j]? = some t) : Tryd.prog.wantsStandIn t = false := by
  have hm : t ∈ Tryd.f8.params.toList := by simpa using Array.mem_of_getElem? ht
  have hall : (Tryd.f8.params.toList.all fun u => !Tryd.prog.wantsStandIn u) = true := by kernel_rfl
  simpa using List.all_eq_true.1 hall t hm
theorem proved : Rows.FnTermsCardSaid :=
  Claim7.holds_tied_plain_at .later [] [.data, .data, .data, .data, .pinned] true (true, "244ebad62b68422602c76a682faba520e6e758710c3f37cc04d1b5b7cfb6baa0") false
    over (fun _ h => by cases h) (by kernel_rfl) (fun _ h => by cases h) fnTerms_row_tie rfl ⟨rfl, rfl⟩ (by kernel_rfl) rfl
    (fun f fn hf hfn => by
      obtain rfl : f = 8 := Option.some.inj (nameFact.symm.trans hf) |>.symm
      obtain rfl : fn = Tryd.f8 := (Option.some.inj (Tryd.func8.symm.trans hfn)).symm
      exact ⟨by kernel_rfl, standFact⟩)
    (by kernel_rfl)
#print axioms proved
end Go.Proofs.YtokhnmchnfkiiaaDoor.Am.RowFnTerms
namespace Go.Proofs.YtokhnmchnfkiiaaDoor
/-- The card, under a short name, for the claim. -/
theorem fnTerms_holds : Rows.FnTermsCardSaid := Am.RowFnTerms.proved
end Go.Proofs.YtokhnmchnfkiiaaDoor
