/- NameFault of the program and of the reference give the same code: the law's pure statement. No conditions. -/
import Derived.Test.YtldbckbldddaaaaPFnExactNameFaultx1
namespace Go.Proofs.Ytldbckbldddaaaa.Pure
open Go.RowKit Go.Proofs.Ytldbckbldddaaaa.PFnExactNameFault Go.Proofs.YtldbckbldddaaaaW.PrintWords Go.Proofs.YtldbckbldddaaaaW.PrintLast

theorem nf_letter (c : Int) : spec_l1Letter.f c = some (decide (97 ≤ c) && decide (c ≤ 122)) := by
  unfold spec_l1Letter.f
  by_cases h : c ≥ 97
  · rw [if_pos h]; simp [h]
  · rw [if_neg h]; have h' : ¬ 97 ≤ c := h; simp [h']
theorem nf_name (c : Int) : spec_l1Name.f c = impl_isNameByte.f c ∧ ∃ b, impl_isNameByte.f c = some b := by
  unfold spec_l1Name.f impl_isNameByte.f spec_l1Digit.f
  rw [nf_letter]
  by_cases h1 : c ≥ 97 <;> by_cases h2 : c ≤ 122 <;> by_cases h3 : c ≥ 48 <;> by_cases h4 : c ≤ 57 <;> simp [h1, h2, h3, h4] <;> omega
theorem nf_wrap {i : Int} {n : Nat} (h0 : 0 ≤ i) (h : i < (n : Int)) (hn : n ≤ 140737488351232) : wrap64 (i + 1) = i + 1 := by
  unfold wrap64; omega
theorem nf_loops (s : ByteArray) (hn : s.size ≤ 140737488351232) : ∀ (k : Nat) (i : Int), 0 ≤ i →
    spec_NameFault.l0 k s i = impl_NameFault.l0 k s (s.size : Int) i := by
  intro k
  induction k with
  | zero => intro i _; simp only [spec_NameFault.l0, impl_NameFault.l0]
  | succ k ih =>
    intro i h0
    simp only [spec_NameFault.l0, impl_NameFault.l0]
    by_cases h : i < (s.size : Int)
    · rw [if_pos h, if_pos h0, if_pos h, if_pos h0, if_pos h, (nf_name _).1, nf_wrap h0 h hn, ih (i + 1) (by omega)]
    · rw [if_neg h, if_neg h]
theorem nf_ends (s : ByteArray) (hn : s.size ≤ 140737488351232) (d : Nat) : ∀ (k : Nat) (i : Int), 0 ≤ i → i ≤ s.size → (s.size : Int) - i = d → d < k →
    ∃ r, impl_NameFault.l0 k s (s.size : Int) i = some r := by
  induction d with
  | zero =>
    intro k i h0 h1 hd hk
    obtain ⟨k, rfl⟩ : ∃ m, k = m + 1 := ⟨k - 1, by omega⟩
    exact ⟨0, by simp only [impl_NameFault.l0]; rw [if_neg (by omega)]⟩
  | succ d ih =>
    intro k i h0 h1 hd hk
    obtain ⟨k, rfl⟩ : ∃ m, k = m + 1 := ⟨k - 1, by omega⟩
    have hlt : i < (s.size : Int) := by omega
    obtain ⟨b, hb⟩ := (nf_name (bt s i)).2
    simp only [impl_NameFault.l0]
    rw [if_pos hlt, if_pos h0, if_pos hlt, hb]
    simp only [Option.bind_some]
    cases b with
    | true => rw [if_pos rfl, nf_wrap h0 hlt hn]; exact ih k (i + 1) (by omega) (by omega) (by omega) (by omega)
    | false => exact ⟨5, rfl⟩
theorem nf_joins (s : ByteArray) (hn : s.size ≤ 140737488351232) (k : Nat) (b : Bool) : spec_NameFault.j0 k s b = impl_NameFault.j0 k s b := by
  cases k with
  | zero => simp only [spec_NameFault.j0, impl_NameFault.j0]
  | succ k => simp only [spec_NameFault.j0, impl_NameFault.j0]; rw [nf_loops s hn k 0 (by omega)]
theorem nf_same (s : ByteArray) (hn : s.size ≤ 140737488351232) (k : Nat) : spec_NameFault.f k s = impl_NameFault.f k s := by
  unfold spec_NameFault.f impl_NameFault.f
  rw [nf_letter]
  simp only [Option.bind_some, nf_joins s hn]
  by_cases h1 : (s.size : Int) < 1
  · rw [if_pos h1, if_pos h1]
  · rw [if_neg h1, if_neg h1]
    by_cases h2 : (s.size : Int) > 12
    · rw [if_pos h2, if_pos h2]
    · rw [if_neg h2, if_neg h2]
      by_cases h3 : 0 < (s.size : Int)
      · rw [if_pos h3, if_pos h3]
        by_cases h4 : bt s 0 < 97
        · rw [if_pos h4]; have h5 : decide (97 ≤ bt s 0) = false := decide_eq_false (by omega)
          rw [h5]; rfl
        · rw [if_neg h4]; have h5 : decide (97 ≤ bt s 0) = true := decide_eq_true (by omega)
          rw [h5, Bool.true_and]; congr 1
          by_cases h6 : bt s 0 ≤ 122
          · rw [decide_eq_true h6, decide_eq_false (by omega : ¬ bt s 0 > 122)]; rfl
          · rw [decide_eq_false h6, decide_eq_true (by omega : bt s 0 > 122)]; rfl
      · rw [if_neg h3, if_neg h3]
theorem nf_joined (s : ByteArray) (hn : s.size ≤ 140737488351232) (b : Bool) : ∃ r, impl_NameFault.j0 (s.size + 2) s b = some r := by
  simp only [impl_NameFault.j0]
  cases b with
  | true => exact ⟨5, rfl⟩
  | false =>
    rw [if_neg (by decide)]
    exact nf_ends s hn s.size (s.size + 1) 0 (by omega) (by omega) (by omega) (by omega)
theorem nf_some (s : ByteArray) (hn : s.size ≤ 140737488351232) : ∃ r, impl_NameFault.f (s.size + 2) s = some r := by
  unfold impl_NameFault.f
  by_cases h1 : (s.size : Int) < 1
  · rw [if_pos h1]; exact nf_joined s hn _
  · rw [if_neg h1]
    by_cases h2 : (s.size : Int) > 12
    · rw [if_pos h2]; exact nf_joined s hn _
    · rw [if_neg h2, if_pos (by omega)]
      by_cases h4 : bt s 0 < 97
      · rw [if_pos h4]; exact nf_joined s hn _
      · rw [if_neg h4]; exact nf_joined s hn _
theorem FnExactNameFault : laws_FnExactNameFault.Pure := by
  intro s hn
  refine ⟨s.size + 2, ?_⟩
  unfold laws_FnExactNameFault.f
  obtain ⟨r, hr⟩ := nf_some s hn
  rw [nf_same s hn, hr]
  simp

end Go.Proofs.Ytldbckbldddaaaa.Pure
