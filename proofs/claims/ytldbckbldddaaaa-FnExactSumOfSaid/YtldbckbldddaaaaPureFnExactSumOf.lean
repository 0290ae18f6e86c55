/- SumOf of the program and of the reference give the same number: the law's pure statement. No conditions. -/
import Derived.Test.YtldbckbldddaaaaPFnExactSumOfx1
namespace Go.Proofs.Ytldbckbldddaaaa.Pure
open Go.RowKit Go.Proofs.Ytldbckbldddaaaa.PFnExactSumOf Go.Proofs.YtldbckbldddaaaaW.PrintWords Go.Proofs.YtldbckbldddaaaaW.PrintLast

theorem so_wrap {i : Int} {n : Nat} (h0 : 0 ≤ i) (h : i < (n : Int)) (hn : n ≤ 1048576) : wrap64 (i + 1) = i + 1 := by
  unfold wrap64; omega
theorem so_copy (xs : List Int) (hn : xs.length ≤ 1048576) (d : Nat) : ∀ (k : Nat) (i : Nat) (ys : List Int), ys.length = xs.length → i ≤ xs.length → ys.take i = xs.take i → xs.length - i = d → d < k →
    laws_toByteS.l0 k xs ys (i : Int) = some xs := by
  induction d with
  | zero =>
    intro k i ys hl hi ht hd hk
    obtain ⟨k, rfl⟩ : ∃ m, k = m + 1 := ⟨k - 1, by omega⟩
    have hi' : i = xs.length := by omega
    subst hi'
    simp only [laws_toByteS.l0]
    rw [if_neg (by omega)]
    rw [List.take_length, ← hl, List.take_length] at ht
    rw [ht]
  | succ d ih =>
    intro k i ys hl hi ht hd hk
    obtain ⟨k, rfl⟩ : ∃ m, k = m + 1 := ⟨k - 1, by omega⟩
    have hlt : (i : Int) < (xs.length : Int) := by omega
    simp only [laws_toByteS.l0]
    rw [if_pos hlt, if_pos (by omega), if_pos (by omega), so_wrap (by omega) hlt hn]
    have e : ((i : Int) + 1) = ((i + 1 : Nat) : Int) := by omega
    rw [e]
    refine ih k (i + 1) _ (by simp [hl]) (by omega) ?_ (by omega) (by omega)
    have hx : i < xs.length := by omega
    have hy : i < (ys.set i (rd xs i)).length := by simp; omega
    rw [Int.toNat_natCast, List.take_succ_eq_append_getElem hx, List.take_succ_eq_append_getElem hy, List.take_set_of_le (Nat.le_refl i), ht, List.getElem_set_self]
    simp [rd, hx]
theorem so_copied (xs : List Int) (hn : xs.length ≤ 1048576) : laws_toByteS.f (xs.length + 1) xs = some xs := by
  unfold laws_toByteS.f
  rw [if_pos (by omega), if_pos (by omega)]
  have h := so_copy xs hn xs.length (xs.length + 1) 0 (List.replicate ((xs.length : Int)).toNat 0) (by simp) (by omega) rfl (by omega) (by omega)
  simpa using h
theorem so_loops (xs : List Int) (hn : xs.length ≤ 1048576) : ∀ (k : Nat) (i h : Int), 0 ≤ i →
    spec_SumOf.l0 k xs h i = impl_SumOf.l0 k h xs (xs.length : Int) i := by
  intro k
  induction k with
  | zero => intro i h _; simp only [spec_SumOf.l0, impl_SumOf.l0]
  | succ k ih =>
    intro i h h0
    simp only [spec_SumOf.l0, impl_SumOf.l0]
    by_cases hl : i < (xs.length : Int)
    · rw [if_pos hl, if_pos h0, if_pos hl, if_pos h0, if_pos hl, so_wrap h0 hl hn, ih (i + 1) _ (by omega)]
    · rw [if_neg hl, if_neg hl]
theorem so_ends (xs : List Int) (hn : xs.length ≤ 1048576) (d : Nat) : ∀ (k : Nat) (i h : Int), 0 ≤ i → i ≤ xs.length → (xs.length : Int) - i = d → d < k →
    ∃ r, impl_SumOf.l0 k h xs (xs.length : Int) i = some r := by
  induction d with
  | zero =>
    intro k i h h0 h1 hd hk
    obtain ⟨k, rfl⟩ : ∃ m, k = m + 1 := ⟨k - 1, by omega⟩
    exact ⟨h, by simp only [impl_SumOf.l0]; rw [if_neg (by omega)]⟩
  | succ d ih =>
    intro k i h h0 h1 hd hk
    obtain ⟨k, rfl⟩ : ∃ m, k = m + 1 := ⟨k - 1, by omega⟩
    have hlt : i < (xs.length : Int) := by omega
    simp only [impl_SumOf.l0]
    rw [if_pos hlt, if_pos h0, if_pos hlt, so_wrap h0 hlt hn]
    exact ih k (i + 1) _ (by omega) (by omega) (by omega) (by omega)
theorem so_eq (xs : List Int) (hn : xs.length ≤ 1048576) (d : Nat) : ∀ (k : Nat) (i : Int), 0 ≤ i → i ≤ xs.length → (xs.length : Int) - i = d → d < k →
    laws_eqByteS.l0 k xs xs i = some true := by
  induction d with
  | zero =>
    intro k i h0 h1 hd hk
    obtain ⟨k, rfl⟩ : ∃ m, k = m + 1 := ⟨k - 1, by omega⟩
    simp only [laws_eqByteS.l0]; rw [if_neg (by omega)]
  | succ d ih =>
    intro k i h0 h1 hd hk
    obtain ⟨k, rfl⟩ : ∃ m, k = m + 1 := ⟨k - 1, by omega⟩
    have hlt : i < (xs.length : Int) := by omega
    simp only [laws_eqByteS.l0]
    rw [if_pos hlt, if_pos h0, if_pos hlt, if_pos trivial, so_wrap h0 hlt hn]
    exact ih k (i + 1) (by omega) (by omega) (by omega) (by omega)
theorem FnExactSumOf : laws_FnExactSumOf.Pure := by
  intro xs _ _ _
  refine ⟨xs.length + 1, ?_⟩
  unfold laws_FnExactSumOf.f
  by_cases h : (xs.length : Int) > 1048576
  · rw [if_pos h]
  · rw [if_neg h]
    have hn : xs.length ≤ 1048576 := by omega
    obtain ⟨r, hr⟩ := so_ends xs hn xs.length (xs.length + 1) 0 7 (by omega) (by omega) (by omega) (by omega)
    rw [so_copied xs hn]
    simp only [Option.bind_some]
    unfold spec_SumOf.f impl_SumOf.f
    rw [so_loops xs hn _ 0 7 (by omega), hr]
    simp only [Option.bind_some]
    unfold laws_eqByteS.f
    rw [if_pos trivial, if_pos rfl, so_eq xs hn xs.length (xs.length + 1) 0 (by omega) (by omega) (by omega) (by omega)]
    rfl

end Go.Proofs.Ytldbckbldddaaaa.Pure
