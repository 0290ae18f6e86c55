/- The law about what is possible: what is to be shown of the row's function. No conditions. -/
import Derived.Test.YtbmfoijakgccgaaAmL4
import Derived.Test.YtbmfoijakgccgaaAmL8
namespace Go.Proofs.Ytbmfoijakgccgaa.Am
open Go Go.RowKit Go.Proofs
set_option linter.unusedSimpArgs false
set_option linter.unusedVariables false

/-- Whether a number has the bit. -/
def bitI (m : Int) (j : Nat) : Bool := decide (andF .i64 (m.fdiv (2 ^ min j 64)) 1 = 1)
/-- The places that a number stands for: from j on, n of them looked at. -/
def selF (m : Int) : Nat → Nat → List Int
  | 0, _ => []
  | n + 1, j => (if bitI m j = true then [(j : Int)] else []) ++ selF m n (j + 1)
theorem sel_mem {m : Int} : ∀ {n j : Nat} {x : Int}, x ∈ selF m n j → (j : Int) ≤ x ∧ x < (j + n : Nat)
  | 0, j, x, h => by simp [selF] at h
  | n + 1, j, x, h => by
    rw [selF, List.mem_append] at h
    rcases h with h | h
    · split at h
      · simp at h; omega
      · simp at h
    · have := sel_mem h; omega
theorem sel_pair (m : Int) : ∀ n j : Nat, (selF m n j).Pairwise (· < ·)
  | 0, j => by simp [selF]
  | n + 1, j => by
    rw [selF, List.pairwise_append]
    refine ⟨by split <;> simp, sel_pair m n (j + 1), fun a ha b hb => ?_⟩
    have := sel_mem hb
    split at ha
    · simp at ha; omega
    · simp at ha
theorem sel_len (m : Int) : ∀ n j : Nat, (selF m n j).length ≤ n
  | 0, j => by simp [selF]
  | n + 1, j => by
    have := sel_len m n (j + 1)
    unfold selF
    split <;> simp <;> omega
theorem sel_add (m : Int) (b : Nat) : ∀ a j : Nat, selF m (a + b) j = selF m a j ++ selF m b (j + a)
  | 0, j => by simp [selF]
  | a + 1, j => by
    rw [show a + 1 + b = (a + b) + 1 by omega, selF, sel_add m b a (j + 1), selF, List.append_assoc, show j + 1 + a = j + (a + 1) by omega]
theorem sel_none {m : Int} : ∀ {n j : Nat}, (∀ i, j ≤ i → bitI m i = false) → selF m n j = []
  | 0, _, _ => rfl
  | n + 1, j, h => by
    rw [selF, sel_none fun i hi => h i (by omega), h j (Nat.le_refl _)]
    rfl
theorem bits_zero {m n i : Nat} (hm : m < 2 ^ n) (hi : n ≤ i) (hn : n ≤ 24) : (m : Int).fdiv (2 ^ min i 64) = 0 := by
  have h1 : (2 : Nat) ^ n ≤ 2 ^ min i 64 := Nat.pow_le_pow_right (by omega) (by omega)
  have e : ((2 : Int) ^ min i 64) = ((2 ^ min i 64 : Nat) : Int) := by simp
  rw [e, Int.fdiv_eq_ediv_of_nonneg _ (Int.natCast_nonneg _)]
  exact Int.ediv_eq_zero_of_lt (by omega) (by omega)
theorem bit_zero {m n : Nat} (hm : m < 2 ^ n) (hn : n ≤ 24) (i : Nat) (hi : n ≤ i) : bitI m i = false := by
  rw [bitI, bits_zero hm hi hn]
  decide +kernel
theorem sel24 {m n : Nat} (hm : m < 2 ^ n) (hn : n ≤ 24) : selF m 24 0 = selF m n 0 := by
  rw [show 24 = n + (24 - n) by omega, sel_add, sel_none (j := 0 + n) fun i hi => bit_zero hm hn i (by omega), List.append_nil]
theorem SetOK_of {n : Nat} {s : List Int} (h1 : s.Pairwise (· < ·)) (h2 : ∀ x ∈ s, 0 ≤ x ∧ x < n) : SetOK n s := by
  intro i hi
  rw [getD_at hi]
  refine ⟨?_, fun h0 => ?_⟩
  · have := h2 _ (List.getElem_mem hi)
    simp [inF]
    omega
  · rw [getD_at (by omega)]
    exact List.pairwise_iff_getElem.1 h1 (i - 1) i (by omega) hi (by omega)
theorem sel_ok (m : Int) (n : Nat) : SetOK n (selF m n 0) := SetOK_of (sel_pair m n 0) fun x hx => by have := sel_mem hx; omega

def arrI (p : Nat) (ver : Nat → Nat) (x : ArrSt) : Nat → ArrSt := fun j => if j = p then x else ⟨ver j, false, 0, []⟩

theorem p_some (m : Int) (N : Nat) (hN : N = 24) : Pure Try.prog 133 [.v (.int .i64 m)] (intsAV false (selF m N 0)) := by
  refine pure_of_code (G := (Go1 5)) (verso 5) mixed0 Try.func133 rfl (by decide) (by simp [Try.f133]) (by simp) fun ver => ?_
  simp only [Try.f133, Go1]
  simp [Mem.made, noArrs, sealRows]
  refine aloop (α := Nat × Nat × List Int) (fun d => ⟨envOf [(0, .v (.int .i64 m)), (3, .arr 5 d.2.1 0 d.2.2.length), (4, .v (.int .i64 d.1))], ⟨[], arrI 5 ver ⟨d.2.1, true, 2, d.2.2.map intCells⟩⟩⟩)
    (fun d => d.1 ≤ N ∧ d.2.2 ++ selF m (N - d.1) d.1 = selF m N 0) (fun d => N - d.1) (0, ver 5 + 1, []) (less_envOf (by simp) rfl (by intro j; simp [arrI])) (by simp) ?_
  rintro ⟨j, v, out⟩ ⟨hk, hm⟩
  simp only at hk hm ⊢
  by_cases hlt : j < N
  · have hl := sel_len m N 0
    have hw : IntKind.i64.wrap ((j : Int) + 1) = ((j + 1 : Nat) : Int) := by rw [IntWalk.i64_in _ (by omega)]; omega
    have hw2 : IntKind.u64.wrap (j : Int) = j := by rw [IntWalk.u64_in _ (by omega)]
    rw [show N - j = (N - (j + 1)) + 1 by omega, selF] at hm
    have hro : (out.length + 1) * 8 ≤ 140737488355328 := by
      have := congrArg List.length hm
      cases hb : bitI m j <;> simp [hb] at this <;> omega
    have h64 : IntKind.i64.bits = 64 := rfl
    have hj0 : ¬ (j : Int) < 0 := by omega
    simp [hw2, show (j : Int) < 24 by omega]
    rw [if_neg hj0, h64]
    simp
    cases hb : bitI m j with
    | false =>
      have hb2 : ¬ andF .i64 (m.fdiv (2 ^ min j 64)) 1 = 1 := by simpa [bitI] using hb
      simp [hb2]
      exact ⟨j + 1, v, out, less_envOf (by simp [hw]) rfl (by intro q; by_cases hq : q = 5 <;> simp [hq, arrI]), ⟨by omega, by simpa [hb] using hm⟩, by omega⟩
    | true =>
      have hb2 : andF .i64 (m.fdiv (2 ^ min j 64)) 1 = 1 := by simpa [bitI] using hb
      simp [hb2, aappend, arrI, sealRows, sealCells, List.range_succ, hro]
      exact ⟨j + 1, v + 1, out ++ [(j : Int)], less_envOf (by simp [hw]) rfl (by intro q; by_cases hq : q = 5 <;> simp [hq, arrI]), ⟨by omega, by simpa [hb] using hm⟩, by omega⟩
  · have e : j = N := by omega
    subst e
    simp [selF] at hm
    rw [← hm]
    simp [arrI, show ¬ (j : Int) < 24 by omega]

noncomputable def okM (c : List Pk) (l : List Trm) (m : Nat) : Bool := goodB c (selF m c.length 0) && l.all fun t => givenF c (selF m c.length 0) t (-1)
noncomputable def anyR (c : List Pk) (l : List Trm) : Nat → Nat → Bool
  | 0, _ => false
  | n + 1, m => okM c l m || anyR c l n (m + 1)
noncomputable def possF (c : List Pk) (l : List Trm) : Bool := decide (solveF c l [] 0 = 0) && (decide (c.length ≤ 12) && anyR c l (2 ^ c.length) 0)
theorem solveF_ok {c : List Pk} {l : List Trm} (h : solveF c l [] 0 = 0) : catF c = 0 ∧ trmsF l = 0 := by
  unfold solveF at h
  split at h
  · rename_i h1; exact (h1 h).elim
  · rename_i h1
    split at h
    · cases h
    · split at h
      · cases h
      · exact ⟨(setF_ok (by simpa using h1)).1, h⟩
theorem setF_sel {c : List Pk} (h : catF c = 0) (m : Int) : setF c (selF m c.length 0) = 0 := by
  rw [setF, if_neg (by simp [h]), if_pos (setB_true (sel_ok m c.length))]
theorem holds_eq {c : List Pk} {l : List Trm} (h : trmsF l = 0) (s : List Int) : holdsB c s l = l.all fun t => givenF c s t (-1) := by
  have e := trmsF_all l
  rw [h] at e
  simp at e
  unfold holdsB
  rw [Bool.eq_iff_iff]
  simp
  exact ⟨fun q t ht => (q t ht).2, fun q t ht => ⟨e t ht, q t ht⟩⟩
theorem pow12 {n : Nat} (h : n ≤ 12) : (2 : Nat) ^ n ≤ 4096 := Nat.pow_le_pow_right (by omega) h
theorem shl12 {n : Nat} (h : n ≤ 12) : IntKind.i64.wrap (2 ^ min n 64) = ((2 ^ n : Nat) : Int) := by
  have := pow12 h
  have e : ((2 : Int) ^ min n 64) = ((2 ^ n : Nat) : Int) := by rw [Nat.min_eq_left (by omega)]; simp
  rw [e]
  generalize 2 ^ n = N at this
  exact IntWalk.i64_in _ (by omega)

theorem p_possible (a b k : Bool) (c : List Pk) (hc : c.length ≤ 4611686018427387904) (hb : ∀ p ∈ c, p.Len) (l : List Trm) (hl : l.length ≤ 4611686018427387904) : Pure Try.prog 64 [pksAV a b c, trmsAV k l] (.v (.bool (possF c l))) := by
  refine pure_of_code (G := (G0)) vers0 mixed0 Try.func64 rfl (by decide) (by simp [Try.f64]) (by simp) fun ver => ?_
  simp only [Try.f64, G0]
  simp
  refine call_p (p_solveFault a b k true c hc hb l hl [] (by simp) 0) (by simp) ?_
  by_cases h : solveF c l [] 0 = 0
  · by_cases h12 : c.length ≤ 12
    · obtain ⟨g1, g2⟩ := solveF_ok h
      have hN := shl12 h12
      have hN2 := pow12 h12
      have hu : IntKind.u64.wrap (c.length : Int) = c.length := IntWalk.u64_in _ (by omega)
      have ep : possF c l = anyR c l (2 ^ c.length) 0 := by simp [possF, h, h12]
      simp [h, show ¬ (12 : Int) < c.length by omega]
      rw [ep]
      refine aloop (α := Nat) (fun m => ⟨envOf [(0, pksAV a b c), (1, trmsAV k l), (5, .v (.int .i64 m))], ⟨[], noArrs ver⟩⟩)
        (fun m => m ≤ 2 ^ c.length ∧ anyR c l (2 ^ c.length - m) m = anyR c l (2 ^ c.length) 0) (fun m => 2 ^ c.length - m) 0 (less_envOf (by simp) rfl fun _ => rfl) (by simp) ?_
      rintro m ⟨hk, hm⟩
      have h64 : IntKind.i64.bits = 64 := rfl
      have hj0 : ¬ (c.length : Int) < 0 := by omega
      simp [hu]
      rw [if_neg hj0, h64]
      simp [hN]
      by_cases hlt : m < 2 ^ c.length
      · have hw : IntKind.i64.wrap ((m : Int) + 1) = ((m + 1 : Nat) : Int) := by rw [IntWalk.i64_in _ (by omega)]; omega
        have hs := setF_sel g1 m
        have hsl := sel_len m c.length 0
        rw [show 2 ^ c.length - m = (2 ^ c.length - (m + 1)) + 1 by omega, anyR, okM, ← holds_eq g2] at hm
        have hlt2 : (m : Int) < 2 ^ c.length := by exact_mod_cast hlt
        simp [hlt2, Int.not_le.2 hlt2]
        obtain ⟨N, hN24⟩ : ∃ N, N = 24 := ⟨_, rfl⟩
        have es : selF m N 0 = selF m c.length 0 := by rw [hN24]; exact sel24 hlt (by omega)
        refine call_p (p_some m N hN24) (by simp) ?_
        rw [es]
        obtain ⟨f1, f2, f3, f4⟩ := setF_facts hs
        simp
        refine call_p (p_holdsB a b false k c f1 (selF m c.length 0) f3 f2 l hl) (by simp) ?_
        cases h2 : holdsB c (selF m c.length 0) l with
        | false =>
          rw [h2] at hm
          simp
          exact ⟨m + 1, less_envOf (by simp [hw]) rfl fun _ => rfl, ⟨by omega, by simpa using hm⟩, by omega⟩
        | true =>
          simp
          refine call_p (p_good a b false c (selF m c.length 0) hs) (by simp) ?_
          cases h1 : goodB c (selF m c.length 0) with
          | false =>
            rw [h1] at hm
            simp
            exact ⟨m + 1, less_envOf (by simp [hw]) rfl fun _ => rfl, ⟨by omega, by simpa using hm⟩, by omega⟩
          | true =>
            rw [h1, h2] at hm
            rw [← hm]
            simp
      · have e : m = 2 ^ c.length := by omega
        have hlt2 : ¬ (m : Int) < 2 ^ c.length := by exact_mod_cast hlt
        rw [e, Nat.sub_self, anyR] at hm
        rw [← hm]
        simp [hlt2]
    · simp [h, show (12 : Int) < c.length by omega, possF, h12]
  · simp [h, possF]

theorem q_possible (a b k : Bool) (c : List Pk) (hc : c.length ≤ 4611686018427387904) (hb : ∀ p ∈ c, p.Len) (l : List Trm) (hl : l.length ≤ 4611686018427387904) : Pure Try.prog 65 [pksAV a b c, trmsAV k l] (.v (.bool (possF c l))) := by
  refine pure_of_code (G := (Go1 23)) (verso 23) mixed0 Try.func65 rfl (by decide) (by simp [Try.f65]) (by simp) fun ver => ?_
  simp only [Try.f65, Go1]
  simp
  refine call_p (q_solveFault a b k true c hc hb l hl [] (by simp) 0) (by simp) ?_
  by_cases h : solveF c l [] 0 = 0
  · by_cases h12 : c.length ≤ 12
    · obtain ⟨g1, g2⟩ := solveF_ok h
      have hN := shl12 h12
      have hN2 := pow12 h12
      have ep : possF c l = anyR c l (2 ^ c.length) 0 := by simp [possF, h, h12]
      have h64 : IntKind.i64.bits = 64 := rfl
      have hj0 : ¬ (c.length : Int) < 0 := by omega
      simp [h, show ¬ (12 : Int) < c.length by omega]
      rw [if_neg hj0, h64]
      simp [hN]
      rw [ep]
      refine aloop (α := Nat × ArrSt) (fun d => ⟨envOf [(0, pksAV a b c), (1, trmsAV k l), (19, .v (.int .i64 (2 ^ c.length : Nat))), (20, .v (.int .i64 d.1))], ⟨[], arrI 23 ver d.2⟩⟩)
        (fun d => d.1 ≤ 2 ^ c.length ∧ anyR c l (2 ^ c.length - d.1) d.1 = anyR c l (2 ^ c.length) 0) (fun d => 2 ^ c.length - d.1) (0, ⟨ver 23, false, 0, []⟩) (less_envOf (by simp) rfl (by intro j; by_cases hq : j = 23 <;> simp [hq, arrI, noArrs])) (by simp) ?_
      rintro ⟨m, x⟩ ⟨hk, hm⟩
      simp only at hk hm ⊢
      by_cases hlt : m < 2 ^ c.length
      · have hw : IntKind.i64.wrap ((m : Int) + 1) = ((m + 1 : Nat) : Int) := by rw [IntWalk.i64_in _ (by omega)]; omega
        have hs := setF_sel g1 m
        have hsl := sel_len m c.length 0
        rw [show 2 ^ c.length - m = (2 ^ c.length - (m + 1)) + 1 by omega, anyR, okM] at hm
        have hlt2 : (m : Int) < 2 ^ c.length := by exact_mod_cast hlt
        simp [hlt2, Mem.made, arrI, sealRows]
        obtain ⟨f1, f2, f3, f4⟩ := setF_facts hs
        refine aloop (α := Nat × Nat × List Int) (fun d => ⟨envOf [(0, pksAV a b c), (1, trmsAV k l), (5, .v (.int .i64 m)), (6, .arr 23 d.2.1 0 d.2.2.length), (19, .v (.int .i64 (2 ^ c.length))), (20, .v (.int .i64 m)), (25, .v (.int .i64 c.length)), (26, .v (.int .i64 d.1))], ⟨[], arrI 23 ver ⟨d.2.1, true, 2, d.2.2.map intCells⟩⟩⟩)
          (fun d => d.1 ≤ c.length ∧ d.2.2 ++ selF m (c.length - d.1) d.1 = selF m c.length 0) (fun d => c.length - d.1) (0, x.ver + 1, []) (less_envOf (by simp) rfl (by intro j; by_cases hq : j = 23 <;> simp [hq, arrI])) (by simp) ?_
        rintro ⟨j, v, out⟩ ⟨hj, ho⟩
        simp only at hj ho ⊢
        by_cases hl2 : j < c.length
        · have hw2 : IntKind.i64.wrap ((j : Int) + 1) = ((j + 1 : Nat) : Int) := by rw [IntWalk.i64_in _ (by omega)]; omega
          rw [show c.length - j = (c.length - (j + 1)) + 1 by omega, selF] at ho
          have hro : (out.length + 1) * 8 ≤ 140737488355328 := by
            have := congrArg List.length ho
            cases hb : bitI m j <;> simp [hb] at this <;> omega
          have hj1 : ¬ (j : Int) < 0 := by omega
          simp [hl2]
          rw [if_neg hj1, h64]
          simp
          cases hb : bitI m j with
          | false =>
            have hb2 : ¬ andF .i64 ((m : Int).fdiv (2 ^ min j 64)) 1 = 1 := by simpa [bitI] using hb
            simp [hb2]
            exact ⟨j + 1, v, out, less_envOf (by simp [hw2]) rfl (by intro q; by_cases hq : q = 23 <;> simp [hq, arrI]), ⟨by omega, by simpa [hb] using ho⟩, by omega⟩
          | true =>
            have hb2 : andF .i64 ((m : Int).fdiv (2 ^ min j 64)) 1 = 1 := by simpa [bitI] using hb
            simp [hb2, aappend, arrI, sealRows, sealCells, List.range_succ, hro]
            exact ⟨j + 1, v + 1, out ++ [(j : Int)], less_envOf (by simp [hw2]) rfl (by intro q; by_cases hq : q = 23 <;> simp [hq, arrI]), ⟨by omega, by simpa [hb] using ho⟩, by omega⟩
        · rw [show c.length - j = 0 by omega, selF, List.append_nil] at ho
          subst ho
          simp [hl2, arrI, List.take_of_length_le]
          refine call_p (q_holds a b true k c (selF m c.length 0) hs l hl) (by simp) ?_
          cases hok : (goodB c (selF m c.length 0) && l.all fun t => givenF c (selF m c.length 0) t (-1)) with
          | false =>
            rw [hok] at hm
            simp
            exact ⟨m + 1, ⟨_, less_envOf (by simp [hw]) rfl fun _ => rfl⟩, ⟨by omega, by simpa using hm⟩, by omega⟩
          | true =>
            rw [hok] at hm
            rw [← hm]
            simp
      · have e : m = 2 ^ c.length := by omega
        have hlt2 : ¬ (m : Int) < 2 ^ c.length := by exact_mod_cast hlt
        rw [e, Nat.sub_self, anyR] at hm
        rw [← hm]
        simp [hlt2]
    · simp [h, show (12 : Int) < c.length by omega, possF, h12]
  · simp [h, possF]

set_option maxHeartbeats 4000000 in
set_option maxRecDepth 10000 in
theorem l_possible (l : List Pk) (hp : BigP l) (t : List Trm) (ht : BigT t) : Pure Try.prog 15 [pksAV true true l, trmsAV true t] (.v (.bool true)) := by
  obtain ⟨h1, h2⟩ := hp.len
  have h4 : t.length ≤ 4611686018427387904 := by unfold BigT at ht; omega
  refine pure_of_code (G := G0) vers0 mixed0 Try.func15 rfl (by decide) (by simp [Try.f15]) (by simp) fun ver => ?_
  simp only [Try.f15, G0]
  repeat' first
    | with_reducible refine And.intro ?_ ?_
    | with_reducible intro _
    | (first | with_reducible refine adraw_f 2 (by decide +kernel) ?_ | with_reducible refine adraw_f 3 (by decide +kernel) ?_ | with_reducible refine adraw_f 4 (by decide +kernel) ?_ | with_reducible refine adraw_f 5 (by decide +kernel) ?_ | with_reducible refine adraw_f 6 (by decide +kernel) ?_ | with_reducible refine adraw_f 7 (by decide +kernel) ?_ | with_reducible refine adraw_f 8 (by decide +kernel) ?_ | with_reducible refine adraw_f 9 (by decide +kernel) ?_ | with_reducible refine adraw_f 10 (by decide +kernel) ?_ | with_reducible refine adraw_f 11 (by decide +kernel) ?_ | with_reducible refine adraw_cut 0 (by decide +kernel) ?_ | with_reducible refine adraw_cut 1 (by decide +kernel) ?_ | with_reducible refine adraw_cut 2 (by decide +kernel) ?_ | with_reducible refine adraw_cut 3 (by decide +kernel) ?_ | with_reducible refine adraw_cut 4 (by decide +kernel) ?_ | with_reducible refine adraw_cut 5 (by decide +kernel) ?_ | with_reducible refine adraw_cut 6 (by decide +kernel) ?_ | with_reducible refine adraw_cut 7 (by decide +kernel) ?_ | with_reducible refine adraw_cut 8 (by decide +kernel) ?_ | with_reducible refine adraw_cut 9 (by decide +kernel) ?_ | with_reducible refine adraw_all (by kernel_rfl) ?_)
    | with_reducible refine call_p (z_pks true l hp _) (by simp) ?_
    | with_reducible refine call_f (z_pks true l hp _) (by simp) ?_
    | with_reducible refine call_p (z_trms true t ht _) (by simp) ?_
    | with_reducible refine call_f (z_trms true t ht _) (by simp) ?_
    | with_reducible refine call_p (t_pks true l hp) (by simp) ?_
    | with_reducible refine call_f (t_pks true l hp) (by simp) ?_
    | with_reducible refine call_p (t_trms true t ht) (by simp) ?_
    | with_reducible refine call_f (t_trms true t ht) (by simp) ?_
    | with_reducible refine call_p (p_possible false false false l h1 h2 t h4) (by simp) ?_
    | with_reducible refine call_f (p_possible false false false l h1 h2 t h4) (by simp) ?_
    | with_reducible refine call_p (q_possible false false false l h1 h2 t h4) (by simp) ?_
    | with_reducible refine call_f (q_possible false false false l h1 h2 t h4) (by simp) ?_
    | with_reducible refine call_p (e_pks false false l h1 h2) (by simp) ?_
    | with_reducible refine call_f (e_pks false false l h1 h2) (by simp) ?_
    | with_reducible refine call_p (e_trms false false t h4) (by simp) ?_
    | with_reducible refine call_f (e_trms false false t h4) (by simp) ?_
    | simp (config := { contextual := true, maxSteps := 4000000 }) [*, -Int.not_le, -Int.not_lt]

end Go.Proofs.Ytbmfoijakgccgaa.Am
