/- Numbers of so many digits, as both sides read them. No conditions. -/
import Derived.Test.YtokhnmchnfkiiaaDoorAmF2
namespace Go.Proofs.YtokhnmchnfkiiaaDoor.Am
open Go Go.RowKit Go.Proofs
set_option linter.unusedSimpArgs false
set_option linter.unusedVariables false

/-- The number that k digits from i on make behind n, -1 if one is no digit. -/
def numR (s : ByteArray) : Nat → Nat → Int → Int
  | 0, _, n => n
  | k + 1, i, n => if 48 ≤ bAt s i ∧ bAt s i ≤ 57 then numR s k (i + 1) (10 * n + (bAt s i - 48)) else -1
def numF (s : ByteArray) (most : Nat) : Int := if s.size = 0 ∨ most < s.size then -1 else numR s s.size 0 0
theorem numR_ge (s : ByteArray) : ∀ k i n, 0 ≤ n → numR s k i n = -1 ∨ 0 ≤ numR s k i n
  | 0, i, n, h => .inr h
  | k + 1, i, n, h => by
    rw [numR]
    split
    · exact numR_ge s k _ _ (by omega)
    · exact .inl rfl
theorem numR_lt (s : ByteArray) : ∀ (k i : Nat) (n : Int) (P : Nat), 0 ≤ n → n < P → numR s k i n < (P * 10 ^ k : Nat)
  | 0, i, n, P, h0, h => by simpa [numR] using h
  | k + 1, i, n, P, h0, h => by
    rw [numR]
    split
    · have := numR_lt s k (i + 1) (10 * n + (bAt s i - 48)) (10 * P) (by omega) (by omega)
      rw [Nat.pow_succ]
      have e : 10 * P * 10 ^ k = P * (10 ^ k * 10) := by rw [Nat.mul_comm 10 P, Nat.mul_assoc, Nat.mul_comm 10]
      rw [← e]
      exact this
    · omega
theorem numF_cases (s : ByteArray) (most : Nat) : numF s most = -1 ∨ (0 ≤ numF s most ∧ numF s most < (10 ^ most : Nat)) := by
  unfold numF
  split
  · exact .inl rfl
  · rename_i h
    rcases numR_ge s s.size 0 0 (Int.le_refl _) with h1 | h1
    · exact .inl h1
    · refine .inr ⟨h1, ?_⟩
      have h2 := numR_lt s s.size 0 0 1 (by omega) (by omega)
      have h3 : 10 ^ s.size ≤ 10 ^ most := Nat.pow_le_pow_right (by omega) (by omega)
      rw [Nat.one_mul] at h2
      exact Int.lt_of_lt_of_le h2 (Int.ofNat_le.2 h3)
theorem pow_step {i m : Nat} (h : i < m) (hm : m ≤ 10) : ∃ P : Nat, 10 ^ i = P ∧ 10 ^ (i + 1) = 10 * P ∧ P ≤ 1000000000 := by
  refine ⟨10 ^ i, rfl, by rw [Nat.pow_succ, Nat.mul_comm], ?_⟩
  exact Nat.le_trans (Nat.pow_le_pow_right (by omega) (show i ≤ 9 by omega)) (by decide)

set_option maxHeartbeats 4000000 in
theorem p_number (s : ByteArray) (most : Nat) (hm : most ≤ 10) : Pure Tryd.prog 47 [.v (.string s), .v (.int .i64 most)] (.tup [.v (.int .i64 (if numF s most = -1 then 0 else numF s most)), .v (.bool (decide (¬ numF s most = -1)))]) := by
  obtain ⟨R, hR⟩ : ∃ R, R = numF s most := ⟨_, rfl⟩
  rw [← hR]
  unfold numF at hR
  by_cases h0 : s.size = 0
  · rw [if_pos (.inl h0)] at hR
    subst hR
    have h0i : (s.size : Int) < 1 := by omega
    refine pure_of_code (G := (G0)) vers0 mixed0 Tryd.func47 rfl (by decide) (by simp [Tryd.f47]) (by simp) fun ver => ?_
    simp only [Tryd.f47, G0]
    simp [h0]
  by_cases h1 : most < s.size
  · rw [if_pos (.inr h1)] at hR
    subst hR
    have h0i : ¬ (s.size : Int) < 1 := by omega
    have h1i : (most : Int) < s.size := by omega
    refine pure_of_code (G := (G0)) vers0 mixed0 Tryd.func47 rfl (by decide) (by simp [Tryd.f47]) (by simp) fun ver => ?_
    simp only [Tryd.f47, G0]
    simp [h0, h0i, h1, h1i]
  rw [if_neg (by omega)] at hR
  have h0i : ¬ (s.size : Int) < 1 := by omega
  have h1i : ¬ (most : Int) < s.size := by omega
  refine pure_of_code (G := (G0)) vers0 mixed0 Tryd.func47 rfl (by decide) (by simp [Tryd.f47]) (by simp) fun ver => ?_
  simp only [Tryd.f47, G0]
  simp [h0, h0i, h1, h1i]
  refine aloop (α := Nat × Int) (fun q => ⟨envOf [(0, .v (.string s)), (1, .v (.int .i64 most)), (6, .v (.int .i64 q.2)), (7, .v (.int .i64 q.1))], ⟨[], noArrs ver⟩⟩)
    (fun q => q.1 ≤ s.size ∧ 0 ≤ q.2 ∧ q.2 < (10 ^ q.1 : Nat) ∧ numR s (s.size - q.1) q.1 q.2 = R) (fun q => s.size - q.1) (0, 0) (less_envOf (by simp) rfl fun _ => rfl) (by simp [hR]) ?_
  rintro ⟨i, n⟩ ⟨g1, g2, g3, g4⟩
  simp only at g1 g2 g3 g4 ⊢
  by_cases hlt : i < s.size
  · have hw : IntKind.i64.wrap ((i : Int) + 1) = ((i + 1 : Nat) : Int) := by rw [IntWalk.i64_in _ (by omega)]; omega
    have hlti : (i : Int) < s.size := by omega
    rw [show s.size - i = (s.size - (i + 1)) + 1 by omega, numR] at g4
    obtain ⟨P, e1, e2, e3⟩ := pow_step (i := i) (m := most) (by omega) hm
    simp [hlt, hlti]
    refine call_p (p_digit _) (by simp) ?_
    obtain ⟨B, hB⟩ : ∃ B, B = bAt s i := ⟨_, rfl⟩
    rw [← hB] at g4 ⊢
    by_cases hd : 48 ≤ B ∧ B ≤ 57
    · rw [if_pos hd] at g4
      have hI : inF B 48 57 = true := by simp [inF, hd]
      have w1 : IntKind.u8.wrap (B - 48) = B - 48 := IntWalk.u8_in _ (by omega)
      have w2 : IntKind.i64.wrap (B - 48) = B - 48 := IntWalk.i64_in _ (by omega)
      have w3 : IntKind.i64.wrap (n * 10) = n * 10 := IntWalk.i64_in _ (by omega)
      have w4 : IntKind.i64.wrap (n * 10 + (B - 48)) = 10 * n + (B - 48) := by rw [IntWalk.i64_in _ (by omega)]; omega
      simp [hI, hlt, hlti, ← hB, w1, w2, w3, w4]
      refine ⟨i + 1, 10 * n + (B - 48), less_envOf (by simp [hw]) rfl fun _ => rfl, ⟨by omega, by omega, ?_, g4⟩, by omega⟩
      rw [show (10 : Int) ^ (i + 1) = ((10 * P : Nat) : Int) by rw [← e2]; simp]
      omega
    · rw [if_neg hd] at g4
      subst g4
      have hI : inF B 48 57 = false := by
        cases h : inF B 48 57 with
        | false => rfl
        | true => exact absurd (by simpa [inF] using h) hd
      simp [hI]
  · have hlti : ¬ (i : Int) < s.size := by omega
    rw [show s.size - i = 0 by omega, numR] at g4
    subst g4
    have hn : ¬ n = -1 := by omega
    simp [hlt, hlti, hn]

set_option maxHeartbeats 4000000 in
theorem q_number (s : ByteArray) (most : Nat) (hm : most ≤ 10) : Pure Tryd.prog 49 [.v (.string s), .v (.int .i64 most)] (.v (.int .i64 (numF s most))) := by
  obtain ⟨R, hR⟩ : ∃ R, R = numF s most := ⟨_, rfl⟩
  rw [← hR]
  unfold numF at hR
  by_cases h0 : s.size = 0
  · rw [if_pos (.inl h0)] at hR
    subst hR
    have h0e : s = ⟨#[]⟩ := ba_ext (by
      have := Lib.size_eq s
      rw [h0] at this
      exact List.eq_nil_of_length_eq_zero this.symm)
    refine pure_of_code (G := (G0)) vers0 mixed0 Tryd.func49 rfl (by decide) (by simp [Tryd.f49]) (by simp) fun ver => ?_
    simp only [Tryd.f49, G0]
    simp [h0e]
  have h0e : ¬ s = ⟨#[]⟩ := by
    intro e
    subst e
    exact h0 rfl
  by_cases h1 : most < s.size
  · rw [if_pos (.inr h1)] at hR
    subst hR
    have h1i : (most : Int) < s.size := by omega
    refine pure_of_code (G := (G0)) vers0 mixed0 Tryd.func49 rfl (by decide) (by simp [Tryd.f49]) (by simp) fun ver => ?_
    simp only [Tryd.f49, G0]
    simp [h0e, h1, h1i]
  rw [if_neg (by omega)] at hR
  have h1i : ¬ (most : Int) < s.size := by omega
  refine pure_of_code (G := (G0)) vers0 mixed0 Tryd.func49 rfl (by decide) (by simp [Tryd.f49]) (by simp) fun ver => ?_
  simp only [Tryd.f49, G0]
  simp [h0e, h1, h1i]
  refine aloop (α := Nat × Int) (fun q => ⟨envOf [(0, .v (.string s)), (5, .v (.int .i64 q.2)), (16, .v (.int .i64 s.size)), (17, .v (.int .i64 q.1))], ⟨[], noArrs ver⟩⟩)
    (fun q => q.1 ≤ s.size ∧ 0 ≤ q.2 ∧ q.2 < (10 ^ q.1 : Nat) ∧ numR s (s.size - q.1) q.1 q.2 = R) (fun q => s.size - q.1) (0, 0) (less_envOf (by simp) rfl fun _ => rfl) (by simp [hR]) ?_
  rintro ⟨i, n⟩ ⟨g1, g2, g3, g4⟩
  simp only at g1 g2 g3 g4 ⊢
  by_cases hlt : i < s.size
  · have hw : IntKind.i64.wrap ((i : Int) + 1) = ((i + 1 : Nat) : Int) := by rw [IntWalk.i64_in _ (by omega)]; omega
    have hlti : (i : Int) < s.size := by omega
    rw [show s.size - i = (s.size - (i + 1)) + 1 by omega, numR] at g4
    obtain ⟨P, e1, e2, e3⟩ := pow_step (i := i) (m := most) (by omega) hm
    obtain ⟨B, hB⟩ : ∃ B, B = bAt s i := ⟨_, rfl⟩
    rw [← hB] at g4
    by_cases hd1 : 48 ≤ B
    · by_cases hd2 : B ≤ 57
      · rw [if_pos ⟨hd1, hd2⟩] at g4
        have hd3 : ¬ B < 48 := by omega
        have hd4 : ¬ 57 < B := by omega
        have w1 : IntKind.u8.wrap (B - 48) = B - 48 := IntWalk.u8_in _ (by omega)
        have w2 : IntKind.i64.wrap (B - 48) = B - 48 := IntWalk.i64_in _ (by omega)
        have w3 : IntKind.i64.wrap (10 * n) = 10 * n := IntWalk.i64_in _ (by omega)
        have w4 : IntKind.i64.wrap (10 * n + (B - 48)) = 10 * n + (B - 48) := IntWalk.i64_in _ (by omega)
        simp [hlt, hlti, ← hB, hd3, hd4, hd1, hd2, w1, w2, w3, w4]
        refine ⟨i + 1, 10 * n + (B - 48), less_envOf (by simp [hw]) rfl fun _ => rfl, ⟨by omega, by omega, ?_, g4⟩, by omega⟩
        rw [show (10 : Int) ^ (i + 1) = ((10 * P : Nat) : Int) by rw [← e2]; simp]
        omega
      · rw [if_neg (fun h => hd2 h.2)] at g4
        subst g4
        have hd3 : ¬ B < 48 := by omega
        have hd4 : 57 < B := by omega
        simp [hlt, hlti, ← hB, hd1, hd2, hd3, hd4]
    · rw [if_neg (fun h => hd1 h.1)] at g4
      subst g4
      have hd3 : B < 48 := by omega
      simp [hlt, hlti, ← hB, hd1, hd3]
  · have hlti : ¬ (i : Int) < s.size := by omega
    rw [show s.size - i = 0 by omega, numR] at g4
    subst g4
    simp [hlt, hlti]

end Go.Proofs.YtokhnmchnfkiiaaDoor.Am
