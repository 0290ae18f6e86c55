/- A text cut at a byte: the library's pieces are the reference's. No conditions. -/
import Derived.Test.YtokhnmchnfkiiaaDoorAmCg1
import Derived.Lib.SplitLaws
import Derived.Lib.IndexBytes
namespace Go.Proofs.YtokhnmchnfkiiaaDoor.Am
open Go Go.RowKit Go.Proofs
set_option linter.unusedSimpArgs false
set_option linter.unusedVariables false

/-- The pieces of a list, cut at each c. -/
def cutL (c : UInt8) : List UInt8 → List (List UInt8)
  | [] => [[]]
  | b :: l => if b = c then [] :: cutL c l else match cutL c l with
    | [] => [[b]]
    | p :: r => (b :: p) :: r
theorem cutL_cons (c b : UInt8) (l : List UInt8) : cutL c (b :: l) = if b = c then [] :: cutL c l else match cutL c l with
    | [] => [[b]]
    | p :: r => (b :: p) :: r := rfl
theorem cutL_ne (c : UInt8) : ∀ l, cutL c l ≠ []
  | [] => by simp [cutL]
  | b :: l => by
    unfold cutL
    split
    · simp
    · split <;> simp
/-- As the library cuts: at the first c, and so on with what is left. -/
theorem cutL_miss (c : UInt8) : ∀ l, Lib.indexByte l c = -1 → cutL c l = [l]
  | [], _ => rfl
  | b :: l, h => by
    unfold Lib.indexByte at h
    split at h
    · cases h
    rename_i hb
    split at h
    · rename_i h2
      have := cutL_miss c l (by simpa using h2)
      rw [cutL_cons, if_neg (by simpa using hb), this]
    · rename_i h2
      have := Lib.indexByte_ge l c
      simp at h2
      omega
theorem cutL_hit (c : UInt8) : ∀ (l : List UInt8) (i : Nat), Lib.indexByte l c = i → cutL c l = l.take i :: cutL c (l.drop (i + 1))
  | [], i, h => by simp [Lib.indexByte] at h
  | b :: l, i, h => by
    unfold Lib.indexByte at h
    split at h
    · rename_i hb
      have : i = 0 := by omega
      subst this
      rw [cutL_cons, if_pos (by simpa using hb)]
      simp
    rename_i hb
    split at h
    · omega
    · rename_i h2
      have hge := Lib.indexByte_ge l c
      have h3 : Lib.indexByte l c ≠ -1 := by simpa using h2
      obtain ⟨j, rfl⟩ : ∃ j, i = j + 1 := ⟨i - 1, by omega⟩
      have := cutL_hit c l j (by omega)
      rw [cutL_cons, if_neg (by simpa using hb), this]
      simp

/-- The reference's pieces: from 'from' on, scanned at i, with k bytes to go. -/
def pcs (s : ByteArray) (c : UInt8) : Nat → Nat → Nat → List ByteArray
  | 0, a, _ => [s.extract a s.size]
  | k + 1, a, i => if s.data.toList.getD i 0 = c then s.extract a i :: pcs s c k (i + 1) (i + 1) else pcs s c k a (i + 1)
theorem ba_ext {a b : ByteArray} (h : a.data.toList = b.data.toList) : a = b := by
  cases a; cases b
  simp at h
  subst h
  rfl
theorem ext_list (s : ByteArray) (a b : Nat) : (s.extract a b).data.toList = (s.data.toList.drop a).take (b - a) := by
  simp [ByteArray.data_extract, List.extract_eq_take_drop]
theorem pcs_data (s : ByteArray) (c : UInt8) : ∀ (k a i : Nat), i + k = s.size → a ≤ i → (pcs s c k a i).map (·.data.toList) = match cutL c (s.data.toList.drop i) with
    | [] => []
    | p :: r => ((s.data.toList.drop a).take (i - a) ++ p) :: r
  | 0, a, i, h, ha => by
    have hl : s.data.toList.length = s.size := (Lib.size_eq s).symm
    have : s.data.toList.drop i = [] := List.drop_eq_nil_of_le (by omega)
    rw [this]
    have e : i = s.size := by omega
    subst e
    simp [pcs, cutL, ext_list]
  | k + 1, a, i, h, ha => by
    have hl : s.data.toList.length = s.size := (Lib.size_eq s).symm
    have hi : i < s.data.toList.length := by omega
    have hd : s.data.toList.drop i = s.data.toList[i] :: s.data.toList.drop (i + 1) := List.drop_eq_getElem_cons hi
    have hg : s.data.toList.getD i 0 = s.data.toList[i] := by rw [List.getD, List.getElem?_eq_getElem hi]; rfl
    rw [hd]
    rw [pcs, cutL_cons, hg]
    by_cases hc : s.data.toList[i] = c
    · rw [if_pos hc, if_pos hc, List.map_cons, pcs_data s c k (i + 1) (i + 1) (by omega) (Nat.le_refl _), ext_list]
      cases hq : cutL c (s.data.toList.drop (i + 1)) with
      | nil => exact absurd hq (cutL_ne c _)
      | cons p r => simp
    · rw [if_neg hc, if_neg hc, pcs_data s c k a (i + 1) (by omega) (by omega)]
      cases hq : cutL c (s.data.toList.drop (i + 1)) with
      | nil => exact absurd hq (cutL_ne c _)
      | cons p r =>
        have : (s.data.toList.drop a).take (i + 1 - a) = (s.data.toList.drop a).take (i - a) ++ [s.data.toList[i]] := by
          have e : i + 1 - a = (i - a) + 1 := by omega
          rw [e, List.take_succ_eq_append_getElem (by rw [List.length_drop]; omega)]
          simp only [List.getElem_drop]
          congr 3
          omega
        simp [this]
theorem indexB_one (s : ByteArray) (c : UInt8) : Lib.indexB s ⟨#[c]⟩ = Lib.indexByte s.data.toList c := Lib.index_one _ _
theorem splitB_cut (c : UInt8) : ∀ (k : Nat) (s : ByteArray), Lib.countB s ⟨#[c]⟩ = k → (Lib.splitB ⟨#[c]⟩ 0 k s).map (·.data.toList) = cutL c s.data.toList := by
  intro k
  induction k with
  | zero =>
    intro s h
    have h1 : Lib.count s.data.toList [c] = 0 := h
    have h2 : Lib.indexByte s.data.toList c = -1 := by
      rw [← Lib.index_one]
      refine Classical.byContradiction fun hne => ?_
      have hge := Lib.index_ge s.data.toList [c]
      obtain ⟨j, hj⟩ : ∃ j : Nat, Lib.index s.data.toList [c] = j := ⟨(Lib.index s.data.toList [c]).toNat, by omega⟩
      rw [Lib.count_hit (by simp) hj] at h1
      omega
    rw [Lib.splitB_zero, cutL_miss c _ h2]
    rfl
  | succ k ih =>
    intro s h
    have h1 : Lib.count s.data.toList [c] = k + 1 := h
    have h2 : Lib.index s.data.toList [c] ≠ -1 := by
      intro e
      rw [Lib.count_miss e] at h1
      omega
    have hge := Lib.index_ge s.data.toList [c]
    obtain ⟨j, hj⟩ : ∃ j : Nat, Lib.index s.data.toList [c] = j := ⟨(Lib.index s.data.toList [c]).toNat, by omega⟩
    rw [Lib.count_hit (by simp) hj] at h1
    have hB : Lib.indexB s ⟨#[c]⟩ = j := hj
    have hsz : (⟨#[c]⟩ : ByteArray).size = 1 := rfl
    have hc := cutL_hit c s.data.toList j (by rw [← Lib.index_one]; exact hj)
    have hrest : (s.extract (j + 1) s.size).data.toList = s.data.toList.drop (j + 1) := by
      rw [ext_list, List.take_of_length_le]
      rw [List.length_drop, ← Lib.size_eq]
      omega
    rw [Lib.splitB_hit _ _ _ _ _ hB, List.map_cons, hsz, ih (s.extract (j + 1) s.size) (by
      show Lib.count (s.extract (j + 1) s.size).data.toList [c] = k
      rw [hrest]
      simp at h1
      omega), hrest, hc, ext_list]
    simp
/-- The library's pieces are the reference's. -/
theorem split_pcs (s : ByteArray) (c : UInt8) : Lib.splitB ⟨#[c]⟩ 0 (Lib.countB s ⟨#[c]⟩) s = pcs s c s.size 0 0 := by
  have h1 := splitB_cut c _ s rfl
  have h2 := pcs_data s c s.size 0 0 (by omega) (Nat.le_refl _)
  have h3 : (pcs s c s.size 0 0).map (·.data.toList) = cutL c s.data.toList := by
    rw [h2, List.drop_zero]
    cases hq : cutL c s.data.toList with
    | nil => exact absurd hq (cutL_ne c _)
    | cons p r => simp
  refine (List.map_inj_right (f := fun b : ByteArray => b.data.toList) fun a b h => ba_ext h).1 ?_
  rw [h1, h3]
theorem pcs_length (s : ByteArray) (c : UInt8) : ∀ k a i, (pcs s c k a i).length ≤ k + 1
  | 0, a, i => by simp [pcs]
  | k + 1, a, i => by
    rw [pcs]
    have h1 := pcs_length s c k (i + 1) (i + 1)
    have h2 := pcs_length s c k a (i + 1)
    split
    · simp; omega
    · omega

end Go.Proofs.YtokhnmchnfkiiaaDoor.Am
