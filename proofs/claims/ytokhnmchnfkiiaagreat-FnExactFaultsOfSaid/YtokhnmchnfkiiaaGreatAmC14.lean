/- The faults of a set, as the program finds them. No conditions. -/
import Derived.Test.YtokhnmchnfkiiaaGreatAmC13
namespace Go.Proofs.YtokhnmchnfkiiaaGreat.Am
open Go Go.RowKit Go.Proofs
set_option linter.unusedSimpArgs false
set_option linter.unusedVariables false

theorem getA {α : Type} {l : List α} {k : Nat} {x : α} (h : l[k]? = some x) (z : List α) : (l ++ z)[k]? = some x := by
  rw [List.getElem?_append_left (List.getElem?_eq_some_iff.1 h).1]
  exact h
@[reducible] def StabL (B : List (List AV)) : Prop := ∀ b ∈ B, ∀ c ∈ b, StabC c
theorem stabL_app {B : List (List AV)} (h : StabL B) {r : List AV} (hr : ∀ c ∈ r, StabC c) : StabL (B ++ [r]) := by
  intro b hb
  rcases List.mem_append.1 hb with hb | hb
  · exact h b hb
  · simp only [List.mem_singleton] at hb
    subst hb
    exact hr
theorem stabL_cons {B : List (List AV)} (h : StabL B) {r : List AV} (hr : ∀ c ∈ r, StabC c) : StabL (r :: B) := by
  intro b hb
  rcases List.mem_cons.1 hb with rfl | hb
  · exact hr
  · exact h b hb
theorem stab_pk (d : Bool) (p : Pk) : ∀ c ∈ p.cells d, StabC c := by
  intro c hc
  simp at hc
  rcases hc with rfl | rfl | rfl | rfl | rfl | rfl | rfl | rfl <;> exact fun _ => rfl
theorem stab_trm (t : Trm) : ∀ c ∈ t.cells, StabC c := by
  intro c hc
  simp at hc
  rcases hc with rfl | rfl | rfl | rfl | rfl | rfl | rfl <;> exact fun _ => rfl
theorem stab_one {x : AV} (h : StabC x) : ∀ c ∈ [x], StabC c := by
  intro c hc
  simp only [List.mem_singleton] at hc
  subst hc
  exact h

set_option maxHeartbeats 4000000 in
set_option maxRecDepth 10000 in
theorem q_faultsO (a b k : Bool) (c : List Pk) (hb : CatOk c) (s : List Int) (hs : s.length ≤ 4611686018427387904) (hp : Places c.length s) (hbig : (faultsR c s [] s).length * 24 ≤ 140737488355328) : OCall Tryz.prog 86 none [pksAV a b c, intsAV k s] (some (false, 159, (faultsR c s [] s).map fltCells)) (.arr 0 0 0 (faultsR c s [] s).length) := by
  have hp0 : ∀ x ∈ s, 0 ≤ x := fun x hx => (hp x hx).1
  refine own_of_code (G := Go1 13) (verso 13) mixed0 Tryz.func86 rfl (by decide) (by simp [Tryz.f86]) 13 .dead (by intro s' e es h; cases h; exact fr_flt _) ?_
  obtain ⟨ver, hver⟩ : ∃ ver : Nat → Nat, ver = fun _ => 0 := ⟨_, rfl⟩
  have hin : inArrs none = noArrs ver := by rw [hver]; rfl
  rw [hin]
  clear hin hver
  simp only [Tryz.f86, Go1]
  simp [Mem.made, noArrs, sealRows]
  refine aloop (α := Nat × Nat × List (Int × Int × Int) × List (List AV)) (fun d => ⟨envOf [(1, intsAV k s), (2, .box 0 0), (5, .arr 13 d.2.1 0 d.2.2.1.length), (14, intsAV k s), (15, .v (.int .i64 s.length)), (16, .v (.int .i64 d.1))], ⟨[pksAV a b c] :: d.2.2.2, arrF 13 ver d.2.1 d.2.2.1⟩⟩)
    (fun d => (d.1 ≤ s.length ∧ d.2.2.1 ++ faultsR c s (s.take d.1) (s.drop d.1) = faultsR c s [] s) ∧ StabL d.2.2.2) (fun d => s.length - d.1) (0, ver 13 + 1, [], []) (less_envOf (by simp) rfl (by intro j; simp [arrF])) ⟨by simp, fun q hq => by cases hq⟩ ?_
  rintro ⟨i, v, out, B⟩ ⟨⟨hk, hm⟩, hst⟩
  simp only at hk hm hst ⊢
  by_cases hlt : i < s.length
  · have hw := wrapS hlt hs
    rw [faultsR_app hlt] at hm
    obtain ⟨q1, q2⟩ := hp _ (List.getElem_mem hlt)
    have hg := pkAt_get q2
    have hok := hb _ (pkAt_mem q2)
    simp [hlt, q1, hg]
    refine adraw_all (by kernel_rfl) ?_
    simp [hlt, q1, hg, show (i : Int) ≤ s.length by omega, Nat.le_of_lt hlt]
    simp only [← List.map_take]
    refine call_p (q_named a b k c (s.take i) (by simp; omega) (fun x hx => hp x (List.mem_of_mem_take hx)) _) (by simp [-List.map_take]) ?_
    have goon : ∀ (B2 : List (List AV)), B2 = B ++ [[.v (.int .i64 s[i])], (pkAt c s[i]).cells b] → B2[B.length]? = some [.v (.int .i64 s[i])] ∧ B2[B.length + 1]? = some ((pkAt c s[i]).cells b) ∧ StabL B2 := by
      rintro B2 rfl
      refine ⟨by simp, by simp, ?_⟩
      have h1 := stabL_app (stabL_app hst (r := [.v (.int .i64 s[i])]) (stab_one (stabC_v _))) (stab_pk b (pkAt c s[i]))
      simpa using h1
    by_cases hon : 0 ≤ oneF c (pkAt c s[i]).n (s.take i)
    · rw [if_pos hon] at hm
      have hro := room (by simpa using hm) hbig
      simp [hon, aappend, arrF, sealRows, sealCells, List.range_succ, hro]
      obtain ⟨v1, hv1⟩ : ∃ v1, v1 = v + 1 := ⟨_, rfl⟩
      obtain ⟨out1, hout1⟩ : ∃ out1, out1 = out ++ [((1 : Int), s[i], (0 : Int))] := ⟨_, rfl⟩
      have hm1 : out1 ++ (needsR c s s[i] (pkAt c s[i]).ne 0 ++ (barsR c s s[i] (pkAt c s[i]).ba 0 ++ faultsR c s (s.take (i + 1)) (s.drop (i + 1)))) = faultsR c s [] s := by rw [hout1, ← hm]; simp
      obtain ⟨g7, g8, gst⟩ := goon _ rfl
      refine aloop (α := Nat × Nat × List (Int × Int × Int) × List (List AV)) (fun d => ⟨envOf [(1, intsAV k s), (2, .box 0 0), (5, .arr 13 d.2.1 0 d.2.2.1.length), (7, .box (B.length + 1) 0), (8, .box (B.length + 2) 0), (14, intsAV k s), (15, .v (.int .i64 s.length)), (16, .v (.int .i64 i)), (39, clausesAV b (pkAt c s[i]).ne), (40, .v (.int .i64 (pkAt c s[i]).ne.length)), (41, .v (.int .i64 d.1))], ⟨[pksAV a b c] :: d.2.2.2, arrF 13 ver d.2.1 d.2.2.1⟩⟩)
        (fun d => (d.1 ≤ (pkAt c s[i]).ne.length ∧ d.2.2.1 ++ (needsR c s s[i] ((pkAt c s[i]).ne.drop d.1) d.1 ++ (barsR c s s[i] (pkAt c s[i]).ba 0 ++ faultsR c s (s.take (i + 1)) (s.drop (i + 1)))) = faultsR c s [] s) ∧ d.2.2.2[B.length]? = some [.v (.int .i64 s[i])] ∧ StabL d.2.2.2 ∧ d.2.2.2[B.length + 1]? = some ((pkAt c s[i]).cells b)) (fun d => (pkAt c s[i]).ne.length - d.1) (0, v1, out1, B ++ [[.v (.int .i64 s[i])], (pkAt c s[i]).cells b])
        (less_envOf (by simp [hv1, hout1]) rfl (by intro q; by_cases hq : q = 13 <;> simp [hq, arrF, hv1, hout1])) ⟨⟨Nat.zero_le _, by simpa using hm1⟩, g7, gst, g8⟩ ?_
      rintro ⟨j2, v2, out2, D⟩ ⟨⟨hj2, hm2⟩, d7, dst, d8⟩
      simp only at hj2 hm2 d7 d8 dst ⊢
      have e7 := getA d7
      have e8 := getA d8
      by_cases hl2 : j2 < (pkAt c s[i]).ne.length
      · have hw2 := wrapS hl2 (by have := hok.2.1; omega)
        rw [drop_get hl2, needsR] at hm2
        have dst2 : StabL (D ++ [[trmsAV b (pkAt c s[i]).ne[j2]]]) := stabL_app dst (stab_one (stabC_sl _ _))
        simp [hl2, e7, e8]
        refine call_b (cb_ints k s hs 147 [] [.box 0 0, .box (D.length + 1) 0] ([pksAV a b c] :: (D ++ [[trmsAV b (pkAt c s[i]).ne[j2]]])) (fun x => (pkAt c s[i]).ne[j2].any (givesF (pkAt c x))) (stab_of (stabL_cons dst2 (stab_one (stabC_sl _ _)))) (fun _ => rfl) (fun _ => rfl)
          fun x hx => q_needs1 a b b c hb (pkAt c s[i]).ne[j2] (by have := hok.2.2.2 _ (List.getElem_mem hl2); omega) x (hp x hx) 0 (D.length + 1) _ rfl (by simp)) (stab_of (stabL_cons dst2 (stab_one (stabC_sl _ _))) _) ?_
        rw [met_any c s hp0]
        cases hmet : metF c s (pkAt c s[i]).ne[j2] with
        | true =>
          simp
          exact ⟨j2 + 1, v2, out2, _, less_envOf (by simp [hw2]) rfl (by intro q; by_cases hq : q = 13 <;> simp [hq, arrF, hw2]), ⟨⟨by omega, by simpa [hmet] using hm2⟩, e7 _, dst2, e8 _⟩, by omega⟩
        | false =>
          have hro : (out2.length + 1) * 24 ≤ 140737488355328 := room (x := (2, s[i], (j2 : Int))) (by simpa [hmet] using hm2) hbig
          simp [e7, e8, aappend, arrF, sealRows, sealCells, List.range_succ, hro]
          exact ⟨j2 + 1, v2 + 1, out2 ++ [(2, s[i], (j2 : Int))], _, less_envOf (by simp [hw2]) rfl (by intro q; by_cases hq : q = 13 <;> simp [hq, arrF, hw2]), ⟨⟨by omega, by simpa [hmet] using hm2⟩, e7 _, dst2, e8 _⟩, by omega⟩
      · rw [List.drop_eq_nil_of_le (by omega), needsR, List.nil_append] at hm2
        simp [hl2, d7, d8]
        refine aloop (α := Nat × Nat × List (Int × Int × Int) × List (List AV)) (fun d => ⟨envOf [(1, intsAV k s), (2, .box 0 0), (5, .arr 13 d.2.1 0 d.2.2.1.length), (7, .box (B.length + 1) 0), (14, intsAV k s), (15, .v (.int .i64 s.length)), (16, .v (.int .i64 i)), (58, trmsAV b (pkAt c s[i]).ba), (59, .v (.int .i64 (pkAt c s[i]).ba.length)), (60, .v (.int .i64 d.1))], ⟨[pksAV a b c] :: d.2.2.2, arrF 13 ver d.2.1 d.2.2.1⟩⟩)
          (fun d => (d.1 ≤ (pkAt c s[i]).ba.length ∧ d.2.2.1 ++ (barsR c s s[i] ((pkAt c s[i]).ba.drop d.1) d.1 ++ faultsR c s (s.take (i + 1)) (s.drop (i + 1))) = faultsR c s [] s) ∧ d.2.2.2[B.length]? = some [.v (.int .i64 s[i])] ∧ StabL d.2.2.2) (fun d => (pkAt c s[i]).ba.length - d.1) (0, v2, out2, D) (less_envOf (by simp) rfl fun _ => rfl) ⟨⟨Nat.zero_le _, by simpa using hm2⟩, d7, dst⟩ ?_
        rintro ⟨j3, v3, out3, D⟩ ⟨⟨hj3, hm3⟩, d7, dst⟩
        simp only at hj3 hm3 d7 dst ⊢
        have e7 := getA d7
        by_cases hl3 : j3 < (pkAt c s[i]).ba.length
        · have hw3 := wrapS hl3 (by have := hok.2.2.1; omega)
          rw [drop_get hl3, barsR] at hm3
          have dst2 : StabL (D ++ [((pkAt c s[i]).ba[j3]).cells]) := stabL_app dst (stab_trm _)
          simp [hl3, e7]
          refine call_b (cb_ints k s hs 148 [] [.box (B.length + 1) 0, .box 0 0, .box (D.length + 1) 0] ([pksAV a b c] :: (D ++ [((pkAt c s[i]).ba[j3]).cells])) (fun x => decide (¬ x = s[i]) && givesF (pkAt c x) (pkAt c s[i]).ba[j3]) (stab_of (stabL_cons dst2 (stab_one (stabC_sl _ _)))) (fun _ => rfl) (fun _ => rfl)
            fun x hx => q_bars1 a b c hb (pkAt c s[i]).ba[j3] x s[i] (hp x hx) 0 (D.length + 1) (B.length + 1) _ (by simpa using e7 _) rfl (by simp)) (stab_of (stabL_cons dst2 (stab_one (stabC_sl _ _))) _) ?_
          cases hmet : givenF c s (pkAt c s[i]).ba[j3] s[i] with
          | false =>
            have hmet2 : (s.any fun x => decide (¬ x = s[i]) && givesF (pkAt c x) (pkAt c s[i]).ba[j3]) = false := hmet
            rw [hmet2]
            simp
            exact ⟨j3 + 1, v3, out3, _, less_envOf (by simp [hw3]) rfl (by intro q; by_cases hq : q = 13 <;> simp [hq, arrF, hw3]), ⟨⟨by omega, by simpa [hmet] using hm3⟩, e7 _, dst2⟩, by omega⟩
          | true =>
            have hmet2 : (s.any fun x => decide (¬ x = s[i]) && givesF (pkAt c x) (pkAt c s[i]).ba[j3]) = true := hmet
            rw [hmet2]
            have hro : (out3.length + 1) * 24 ≤ 140737488355328 := room (x := (3, s[i], (j3 : Int))) (by simpa [hmet] using hm3) hbig
            simp [e7, aappend, arrF, sealRows, sealCells, List.range_succ, hro]
            exact ⟨j3 + 1, v3 + 1, out3 ++ [(3, s[i], (j3 : Int))], _, less_envOf (by simp [hw3]) rfl (by intro q; by_cases hq : q = 13 <;> simp [hq, arrF, hw3]), ⟨⟨by omega, by simpa [hmet] using hm3⟩, e7 _, dst2⟩, by omega⟩
        · rw [List.drop_eq_nil_of_le (by omega), barsR, List.nil_append] at hm3
          simp [hl3]
          exact ⟨i + 1, v3, out3, D, less_envOf (by simp [hw]) rfl fun _ => rfl, ⟨⟨by omega, hm3⟩, dst⟩, by omega⟩
    · rw [if_neg hon, List.nil_append] at hm
      simp [hon]
      obtain ⟨v1, hv1⟩ : ∃ v1, v1 = v := ⟨_, rfl⟩
      obtain ⟨out1, hout1⟩ : ∃ out1, out1 = out := ⟨_, rfl⟩
      have hm1 : out1 ++ (needsR c s s[i] (pkAt c s[i]).ne 0 ++ (barsR c s s[i] (pkAt c s[i]).ba 0 ++ faultsR c s (s.take (i + 1)) (s.drop (i + 1)))) = faultsR c s [] s := by rw [hout1]; exact hm
      obtain ⟨g7, g8, gst⟩ := goon _ rfl
      refine aloop (α := Nat × Nat × List (Int × Int × Int) × List (List AV)) (fun d => ⟨envOf [(1, intsAV k s), (2, .box 0 0), (5, .arr 13 d.2.1 0 d.2.2.1.length), (7, .box (B.length + 1) 0), (8, .box (B.length + 2) 0), (14, intsAV k s), (15, .v (.int .i64 s.length)), (16, .v (.int .i64 i)), (39, clausesAV b (pkAt c s[i]).ne), (40, .v (.int .i64 (pkAt c s[i]).ne.length)), (41, .v (.int .i64 d.1))], ⟨[pksAV a b c] :: d.2.2.2, arrF 13 ver d.2.1 d.2.2.1⟩⟩)
        (fun d => (d.1 ≤ (pkAt c s[i]).ne.length ∧ d.2.2.1 ++ (needsR c s s[i] ((pkAt c s[i]).ne.drop d.1) d.1 ++ (barsR c s s[i] (pkAt c s[i]).ba 0 ++ faultsR c s (s.take (i + 1)) (s.drop (i + 1)))) = faultsR c s [] s) ∧ d.2.2.2[B.length]? = some [.v (.int .i64 s[i])] ∧ StabL d.2.2.2 ∧ d.2.2.2[B.length + 1]? = some ((pkAt c s[i]).cells b)) (fun d => (pkAt c s[i]).ne.length - d.1) (0, v1, out1, B ++ [[.v (.int .i64 s[i])], (pkAt c s[i]).cells b])
        (less_envOf (by simp [hv1, hout1]) rfl (by intro q; by_cases hq : q = 13 <;> simp [hq, arrF, hv1, hout1])) ⟨⟨Nat.zero_le _, by simpa using hm1⟩, g7, gst, g8⟩ ?_
      rintro ⟨j2, v2, out2, D⟩ ⟨⟨hj2, hm2⟩, d7, dst, d8⟩
      simp only at hj2 hm2 d7 d8 dst ⊢
      have e7 := getA d7
      have e8 := getA d8
      by_cases hl2 : j2 < (pkAt c s[i]).ne.length
      · have hw2 := wrapS hl2 (by have := hok.2.1; omega)
        rw [drop_get hl2, needsR] at hm2
        have dst2 : StabL (D ++ [[trmsAV b (pkAt c s[i]).ne[j2]]]) := stabL_app dst (stab_one (stabC_sl _ _))
        simp [hl2, e7, e8]
        refine call_b (cb_ints k s hs 147 [] [.box 0 0, .box (D.length + 1) 0] ([pksAV a b c] :: (D ++ [[trmsAV b (pkAt c s[i]).ne[j2]]])) (fun x => (pkAt c s[i]).ne[j2].any (givesF (pkAt c x))) (stab_of (stabL_cons dst2 (stab_one (stabC_sl _ _)))) (fun _ => rfl) (fun _ => rfl)
          fun x hx => q_needs1 a b b c hb (pkAt c s[i]).ne[j2] (by have := hok.2.2.2 _ (List.getElem_mem hl2); omega) x (hp x hx) 0 (D.length + 1) _ rfl (by simp)) (stab_of (stabL_cons dst2 (stab_one (stabC_sl _ _))) _) ?_
        rw [met_any c s hp0]
        cases hmet : metF c s (pkAt c s[i]).ne[j2] with
        | true =>
          simp
          exact ⟨j2 + 1, v2, out2, _, less_envOf (by simp [hw2]) rfl (by intro q; by_cases hq : q = 13 <;> simp [hq, arrF, hw2]), ⟨⟨by omega, by simpa [hmet] using hm2⟩, e7 _, dst2, e8 _⟩, by omega⟩
        | false =>
          have hro : (out2.length + 1) * 24 ≤ 140737488355328 := room (x := (2, s[i], (j2 : Int))) (by simpa [hmet] using hm2) hbig
          simp [e7, e8, aappend, arrF, sealRows, sealCells, List.range_succ, hro]
          exact ⟨j2 + 1, v2 + 1, out2 ++ [(2, s[i], (j2 : Int))], _, less_envOf (by simp [hw2]) rfl (by intro q; by_cases hq : q = 13 <;> simp [hq, arrF, hw2]), ⟨⟨by omega, by simpa [hmet] using hm2⟩, e7 _, dst2, e8 _⟩, by omega⟩
      · rw [List.drop_eq_nil_of_le (by omega), needsR, List.nil_append] at hm2
        simp [hl2, d7, d8]
        refine aloop (α := Nat × Nat × List (Int × Int × Int) × List (List AV)) (fun d => ⟨envOf [(1, intsAV k s), (2, .box 0 0), (5, .arr 13 d.2.1 0 d.2.2.1.length), (7, .box (B.length + 1) 0), (14, intsAV k s), (15, .v (.int .i64 s.length)), (16, .v (.int .i64 i)), (58, trmsAV b (pkAt c s[i]).ba), (59, .v (.int .i64 (pkAt c s[i]).ba.length)), (60, .v (.int .i64 d.1))], ⟨[pksAV a b c] :: d.2.2.2, arrF 13 ver d.2.1 d.2.2.1⟩⟩)
          (fun d => (d.1 ≤ (pkAt c s[i]).ba.length ∧ d.2.2.1 ++ (barsR c s s[i] ((pkAt c s[i]).ba.drop d.1) d.1 ++ faultsR c s (s.take (i + 1)) (s.drop (i + 1))) = faultsR c s [] s) ∧ d.2.2.2[B.length]? = some [.v (.int .i64 s[i])] ∧ StabL d.2.2.2) (fun d => (pkAt c s[i]).ba.length - d.1) (0, v2, out2, D) (less_envOf (by simp) rfl fun _ => rfl) ⟨⟨Nat.zero_le _, by simpa using hm2⟩, d7, dst⟩ ?_
        rintro ⟨j3, v3, out3, D⟩ ⟨⟨hj3, hm3⟩, d7, dst⟩
        simp only at hj3 hm3 d7 dst ⊢
        have e7 := getA d7
        by_cases hl3 : j3 < (pkAt c s[i]).ba.length
        · have hw3 := wrapS hl3 (by have := hok.2.2.1; omega)
          rw [drop_get hl3, barsR] at hm3
          have dst2 : StabL (D ++ [((pkAt c s[i]).ba[j3]).cells]) := stabL_app dst (stab_trm _)
          simp [hl3, e7]
          refine call_b (cb_ints k s hs 148 [] [.box (B.length + 1) 0, .box 0 0, .box (D.length + 1) 0] ([pksAV a b c] :: (D ++ [((pkAt c s[i]).ba[j3]).cells])) (fun x => decide (¬ x = s[i]) && givesF (pkAt c x) (pkAt c s[i]).ba[j3]) (stab_of (stabL_cons dst2 (stab_one (stabC_sl _ _)))) (fun _ => rfl) (fun _ => rfl)
            fun x hx => q_bars1 a b c hb (pkAt c s[i]).ba[j3] x s[i] (hp x hx) 0 (D.length + 1) (B.length + 1) _ (by simpa using e7 _) rfl (by simp)) (stab_of (stabL_cons dst2 (stab_one (stabC_sl _ _))) _) ?_
          cases hmet : givenF c s (pkAt c s[i]).ba[j3] s[i] with
          | false =>
            have hmet2 : (s.any fun x => decide (¬ x = s[i]) && givesF (pkAt c x) (pkAt c s[i]).ba[j3]) = false := hmet
            rw [hmet2]
            simp
            exact ⟨j3 + 1, v3, out3, _, less_envOf (by simp [hw3]) rfl (by intro q; by_cases hq : q = 13 <;> simp [hq, arrF, hw3]), ⟨⟨by omega, by simpa [hmet] using hm3⟩, e7 _, dst2⟩, by omega⟩
          | true =>
            have hmet2 : (s.any fun x => decide (¬ x = s[i]) && givesF (pkAt c x) (pkAt c s[i]).ba[j3]) = true := hmet
            rw [hmet2]
            have hro : (out3.length + 1) * 24 ≤ 140737488355328 := room (x := (3, s[i], (j3 : Int))) (by simpa [hmet] using hm3) hbig
            simp [e7, aappend, arrF, sealRows, sealCells, List.range_succ, hro]
            exact ⟨j3 + 1, v3 + 1, out3 ++ [(3, s[i], (j3 : Int))], _, less_envOf (by simp [hw3]) rfl (by intro q; by_cases hq : q = 13 <;> simp [hq, arrF, hw3]), ⟨⟨by omega, by simpa [hmet] using hm3⟩, e7 _, dst2⟩, by omega⟩
        · rw [List.drop_eq_nil_of_le (by omega), barsR, List.nil_append] at hm3
          simp [hl3]
          exact ⟨i + 1, v3, out3, D, less_envOf (by simp [hw]) rfl fun _ => rfl, ⟨⟨by omega, hm3⟩, dst⟩, by omega⟩
  · rw [List.drop_eq_nil_of_le (by omega), faultsR, List.append_nil] at hm
    rw [← hm]
    simp [hlt, arrF]


theorem q_faults (a b k : Bool) (c : List Pk) (hb : CatOk c) (s : List Int) (hs : s.length ≤ 4611686018427387904) (hp : Places c.length s) (hbig : (faultsR c s [] s).length * 24 ≤ 140737488355328) : Pure Tryz.prog 86 [pksAV a b c, intsAV k s] (fltsAV false (faultsR c s [] s)) := by
  have := OCall.pure (q_faultsO a b k c hb s hs hp hbig) (by simp) (by simp)
  simpa using this

end Go.Proofs.YtokhnmchnfkiiaaGreat.Am
