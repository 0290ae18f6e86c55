/- Texts of numbers, versions and terms, read back: plain laws. No conditions. -/
import Derived.Test.YtokhnmchnfkiiaaDoorAmE3
import Derived.Test.YtokhnmchnfkiiaaDoorAmF7
namespace Go.Proofs.YtokhnmchnfkiiaaDoor.Am
open Go Go.RowKit Go.Proofs
set_option linter.unusedSimpArgs false
set_option linter.unusedVariables false

/-! ### Numbers -/

theorem dec_two {n : Nat} (h1 : ¬ n < 10) (h2 : n < 100) : decS n = ⟨#[UInt8.ofNat (48 + n / 10), UInt8.ofNat (48 + n % 10)]⟩ := by
  rw [decS_more h1, decS_one (by omega)]
  rfl
theorem dec_three {n : Nat} (h1 : ¬ n < 100) (h2 : n < 1000) : decS n = ⟨#[UInt8.ofNat (48 + n / 100), UInt8.ofNat (48 + n / 10 % 10), UInt8.ofNat (48 + n % 10)]⟩ := by
  rw [decS_more (by omega), dec_two (by omega) (by omega)]
  have e : n / 10 / 10 = n / 100 := by omega
  rw [e]
  rfl
theorem dig_nat {k : Nat} (h : k < 10) : (UInt8.ofNat (48 + k)).toNat = 48 + k := by
  have : k = 0 ∨ k = 1 ∨ k = 2 ∨ k = 3 ∨ k = 4 ∨ k = 5 ∨ k = 6 ∨ k = 7 ∨ k = 8 ∨ k = 9 := by omega
  rcases this with rfl | rfl | rfl | rfl | rfl | rfl | rfl | rfl | rfl | rfl <;> rfl
theorem numF_dec {n most : Nat} (h : n ≤ 999) (hm : 3 ≤ most) : numF (decS n) most = n := by
  by_cases h1 : n < 10
  · rw [decS_one h1]
    have e : (⟨#[UInt8.ofNat (48 + n)]⟩ : ByteArray).size = 1 := rfl
    have b : bAt ⟨#[UInt8.ofNat (48 + n)]⟩ 0 = (48 + n : Nat) := congrArg (fun k : Nat => (k : Int)) (dig_nat h1)
    rw [numF, e, if_neg (by omega), numR, b, if_pos (by omega), numR]
    omega
  by_cases h2 : n < 100
  · rw [dec_two h1 h2]
    obtain ⟨x, hx⟩ : ∃ x, x = n / 10 := ⟨_, rfl⟩
    obtain ⟨y, hy⟩ : ∃ y, y = n % 10 := ⟨_, rfl⟩
    rw [← hx, ← hy]
    have hx1 : x < 10 := by omega
    have hy1 : y < 10 := by omega
    have e : (⟨#[UInt8.ofNat (48 + x), UInt8.ofNat (48 + y)]⟩ : ByteArray).size = 2 := rfl
    have b0 : bAt ⟨#[UInt8.ofNat (48 + x), UInt8.ofNat (48 + y)]⟩ 0 = (48 + x : Nat) := congrArg (fun k : Nat => (k : Int)) (dig_nat hx1)
    have b1 : bAt ⟨#[UInt8.ofNat (48 + x), UInt8.ofNat (48 + y)]⟩ 1 = (48 + y : Nat) := congrArg (fun k : Nat => (k : Int)) (dig_nat hy1)
    rw [numF, e, if_neg (by omega), numR, b0, if_pos (by omega), numR, b1, if_pos (by omega), numR]
    omega
  · rw [dec_three h2 (by omega)]
    obtain ⟨x, hx⟩ : ∃ x, x = n / 100 := ⟨_, rfl⟩
    obtain ⟨y, hy⟩ : ∃ y, y = n / 10 % 10 := ⟨_, rfl⟩
    obtain ⟨z, hz⟩ : ∃ z, z = n % 10 := ⟨_, rfl⟩
    rw [← hx, ← hy, ← hz]
    have hx1 : x < 10 := by omega
    have hy1 : y < 10 := by omega
    have hz1 : z < 10 := by omega
    have e : (⟨#[UInt8.ofNat (48 + x), UInt8.ofNat (48 + y), UInt8.ofNat (48 + z)]⟩ : ByteArray).size = 3 := rfl
    have b0 : bAt ⟨#[UInt8.ofNat (48 + x), UInt8.ofNat (48 + y), UInt8.ofNat (48 + z)]⟩ 0 = (48 + x : Nat) := congrArg (fun k : Nat => (k : Int)) (dig_nat hx1)
    have b1 : bAt ⟨#[UInt8.ofNat (48 + x), UInt8.ofNat (48 + y), UInt8.ofNat (48 + z)]⟩ 1 = (48 + y : Nat) := congrArg (fun k : Nat => (k : Int)) (dig_nat hy1)
    have b2 : bAt ⟨#[UInt8.ofNat (48 + x), UInt8.ofNat (48 + y), UInt8.ofNat (48 + z)]⟩ 2 = (48 + z : Nat) := congrArg (fun k : Nat => (k : Int)) (dig_nat hz1)
    rw [numF, e, if_neg (by omega), numR, b0, if_pos (by omega), numR, b1, if_pos (by omega), numR, b2, if_pos (by omega), numR]
    omega
/-- The bytes of a number's text are digits. -/
def Digs (l : List UInt8) : Prop := ∀ b ∈ l, ∃ k, k < 10 ∧ b = UInt8.ofNat (48 + k)
theorem digs_dec : ∀ n, Digs (decS n).data.toList := by
  intro n
  induction n using Nat.strongRecOn with
  | ind n ih =>
    by_cases h : n < 10
    · rw [decS_one h]
      intro b hb
      exact ⟨n, h, by simpa using hb⟩
    · rw [decS_more h]
      intro b hb
      rw [ByteArray.data_append, Array.toList_append] at hb
      rcases List.mem_append.1 hb with hb | hb
      · exact ih (n / 10) (by omega) b hb
      · exact ⟨n % 10, by omega, by simpa using hb⟩
theorem Digs.ne {l : List UInt8} (h : Digs l) {c : UInt8} (hc : c.toNat < 48 ∨ 57 < c.toNat) : c ∉ l := by
  intro hm
  obtain ⟨k, hk, rfl⟩ := h c hm
  rw [dig_nat hk] at hc
  omega
theorem dec_ne (n : Nat) : (decS n).data.toList ≠ [] := by
  by_cases h : n < 10
  · rw [decS_one h]; simp
  · rw [decS_more h]; simp

/-! ### A list cut at a byte -/

theorem cutL_app {c : UInt8} : ∀ {x : List UInt8}, c ∉ x → ∀ y, cutL c (x ++ c :: y) = x :: cutL c y
  | [], _, y => by simp [cutL_cons]
  | b :: x, h, y => by
    have hb : ¬ b = c := fun e => h (by simp [e])
    rw [List.cons_append, cutL_cons, if_neg hb, cutL_app (fun hm => h (by simp [hm])) y]
theorem cutL_one {c : UInt8} : ∀ {x : List UInt8}, c ∉ x → cutL c x = [x]
  | [], _ => rfl
  | b :: x, h => by
    have hb : ¬ b = c := fun e => h (by simp [e])
    rw [cutL_cons, if_neg hb, cutL_one (fun hm => h (by simp [hm]))]
/-- The pieces, as lists of bytes. -/
theorem pcs_cut (s : ByteArray) (c : UInt8) : (pcs s c s.size 0 0).map (·.data.toList) = cutL c s.data.toList := by
  rw [pcs_data s c s.size 0 0 (by omega) (Nat.le_refl _), List.drop_zero]
  cases hq : cutL c s.data.toList with
  | nil => exact absurd hq (cutL_ne c _)
  | cons p r => simp
theorem pcs_of {s : ByteArray} {c : UInt8} {L : List ByteArray} (h : cutL c s.data.toList = L.map (·.data.toList)) : pcs s c s.size 0 0 = L :=
  (List.map_inj_right (f := fun b : ByteArray => b.data.toList) fun a b h => ba_ext h).1 (by rw [pcs_cut, h])

/-! ### Versions -/

theorem pcs_ver (x y z : Nat) : pcs (verS x y z) 46 (verS x y z).size 0 0 = [decS x, decS y, decS z] := by
  refine pcs_of ?_
  have e : (verS x y z).data.toList = (decS x).data.toList ++ 46 :: ((decS y).data.toList ++ 46 :: (decS z).data.toList) := by
    simp [verS, ByteArray.data_append]
  rw [e, cutL_app ((digs_dec x).ne (by decide)), cutL_app ((digs_dec y).ne (by decide)), cutL_one ((digs_dec z).ne (by decide))]
  rfl
theorem parseV_verS {a b c : Int} (h : versionFault a b c = 0) : parseV (verS a b c) = some (a, b, c) := by
  obtain ⟨⟨x, rfl, hx⟩, ⟨y, rfl, hy⟩, ⟨z, rfl, hz⟩⟩ := vf_zero h
  unfold parseV
  rw [pcs_ver]
  have n1 : ¬ (x : Int) = -1 := by omega
  have n2 : ¬ (y : Int) = -1 := by omega
  have n3 : ¬ (z : Int) = -1 := by omega
  simp [prsV, numF_dec hx, numF_dec hy, numF_dec hz, n1, n2, n3]
theorem verS_ne {a b c : Int} : verS a b c ≠ ⟨#[]⟩ := by
  intro h
  have h2 := congrArg (fun b : ByteArray => b.data.toList) h
  simp [verS, ByteArray.data_append] at h2

/-! ### Terms -/

theorem lenW_app {P : UInt8 → Bool} : ∀ {x : List UInt8}, (∀ b ∈ x, P b = true) → ∀ {y : List UInt8}, (∀ b r, y = b :: r → P b = false) → lenW P (x ++ y) = x.length
  | [], _, [], _ => rfl
  | [], _, b :: r, h => by rw [List.nil_append, lenW, h b r rfl]; rfl
  | b :: x, h, y, h2 => by
    rw [List.cons_append, lenW, h b (by simp), if_pos rfl, lenW_app (fun b hb => h b (by simp [hb])) h2]
    rfl
theorem name_bytes {x : ByteArray} (h : nameFault x = 0) : (∀ b ∈ x.data.toList, nmW b = true) ∧ 1 ≤ x.size := by
  unfold nameFault at h
  split at h
  · cases h
  rename_i hc
  refine ⟨?_, by omega⟩
  have key : ∀ k, k ≤ x.size → nameRest x k = 0 → ∀ i, x.size - k ≤ i → i < x.size → nameB (bAt x i) = true := by
    intro k
    induction k with
    | zero => intro _ _ i h1 h2; omega
    | succ k ih =>
      intro hk hr i h1 h2
      have e : x.size - (x.size - (k + 1)) = k + 1 := by omega
      have hs := nameRest_step (x := x) (k := x.size - (k + 1)) (by omega)
      rw [e, show x.size - (x.size - (k + 1) + 1) = k by omega] at hs
      rw [hs] at hr
      split at hr
      · rename_i hn
        by_cases hi : i = x.size - (k + 1)
        · rw [hi]; exact hn
        · exact ih (by omega) hr i (by omega) h2
      · cases hr
  intro b hb
  obtain ⟨i, hi, rfl⟩ := List.getElem_of_mem hb
  have hi2 : i < x.size := by rw [Lib.size_eq]; exact hi
  have := key x.size (Nat.le_refl _) h i (by omega) hi2
  unfold bAt at this
  rw [List.getD, List.getElem?_eq_getElem hi] at this
  exact this
theorem nm_no (b : UInt8) (h : b = 60 ∨ b = 62) : nmW b = false := by rcases h with rfl | rfl <;> decide
theorem ltW_dig {l : List UInt8} (h : Digs l) : ∀ b ∈ l, ltW b = true := by
  intro b hb
  have : b ≠ 60 := fun e => h.ne (c := 60) (by decide) (e ▸ hb)
  simp [ltW, this]
theorem ltW_ver (a b c : Int) : ∀ x ∈ (verS a b c).data.toList, ltW x = true := by
  intro x hx
  have e : (verS a b c).data.toList = (decS a.toNat).data.toList ++ 46 :: ((decS b.toNat).data.toList ++ 46 :: (decS c.toNat).data.toList) := by
    simp [verS, ByteArray.data_append]
  rw [e] at hx
  simp only [List.mem_append, List.mem_cons] at hx
  rcases hx with hx | rfl | hx | rfl | hx
  · exact ltW_dig (digs_dec _) x hx
  · decide
  · exact ltW_dig (digs_dec _) x hx
  · decide
  · exact ltW_dig (digs_dec _) x hx
/-- The part of a term's text that tells the low end, and the one that tells the high end. -/
def loP (a b c : Int) : List UInt8 := if a = 0 ∧ b = 0 ∧ c = 0 then [] else 62 :: 61 :: (verS a b c).data.toList
def hiP (d e f : Int) : List UInt8 := if d = 1000 ∧ e = 0 ∧ f = 0 then [] else 60 :: (verS d e f).data.toList
theorem trmS_list (x : ByteArray) (a b c d e f : Int) : (trmS x a b c d e f).data.toList = x.data.toList ++ (loP a b c ++ hiP d e f) := by
  unfold trmS loS loP hiP
  split <;> split <;> simp [ByteArray.data_append]
theorem loP_lt (a b c : Int) : ∀ x ∈ loP a b c, ltW x = true := by
  unfold loP
  split
  · intro x hx; cases hx
  · intro x hx
    rcases List.mem_cons.1 hx with rfl | hx
    · decide
    rcases List.mem_cons.1 hx with rfl | hx
    · decide
    · exact ltW_ver a b c x hx
theorem hiP_head (d e f : Int) : ∀ b r, hiP d e f = b :: r → b = 60 := by
  unfold hiP
  intro b r h
  split at h
  · cases h
  · cases h; rfl
theorem ba_list (l : List UInt8) : (⟨l.toArray⟩ : ByteArray).data.toList = l := by simp
theorem ba_len (s : ByteArray) : s.data.toList.length = s.size := (Lib.size_eq s).symm
theorem ext_from {s : ByteArray} {x y : List UInt8} (h : s.data.toList = x ++ y) : (s.extract x.length s.size).data.toList = y := by
  rw [ext_list, h, List.drop_left, List.take_of_length_le]
  have := ba_len s
  rw [h, List.length_append] at this
  omega
theorem ext_upto {s : ByteArray} {x y : List UInt8} (h : s.data.toList = x ++ y) : (s.extract 0 x.length).data.toList = x := by
  rw [ext_list, h, List.drop_zero, Nat.sub_zero, List.take_left]
theorem ptA_trmS {x : ByteArray} {a b c d e f : Int} (h : termFault x a b c d e f = 0) : ptA (trmS x a b c d e f) = (0, x, (a, b, c), (d, e, f)) := by
  have hname : nameFault x = 0 := by
    unfold termFault at h
    split at h
    · rename_i h1; exact (h1 h).elim
    · rename_i h1; simpa using h1
  obtain ⟨hx, hlo, hhi⟩ := trm_zero h
  obtain ⟨hb, _⟩ := name_bytes hname
  obtain ⟨s, hs⟩ : ∃ s, s = trmS x a b c d e f := ⟨_, rfl⟩
  rw [← hs]
  have hl : s.data.toList = x.data.toList ++ (loP a b c ++ hiP d e f) := by rw [hs, trmS_list]
  have hld : ldN s = x.data.toList.length := by
    unfold ldN
    rw [hl]
    refine lenW_app hb ?_
    intro y r hy
    unfold loP hiP at hy
    split at hy
    · rw [List.nil_append] at hy
      split at hy
      · cases hy
      · cases hy; exact nm_no _ (.inl rfl)
    · cases hy; exact nm_no _ (.inr rfl)
  have hN : ptN s = x := by
    unfold ptN
    rw [hld]
    exact ba_ext (ext_upto hl)
  obtain ⟨r, hr⟩ : ∃ r, r = ptR s := ⟨_, rfl⟩
  have hrl : r.data.toList = loP a b c ++ hiP d e f := by
    rw [hr]
    unfold ptR
    rw [hld]
    exact ext_from hl
  have hcut : cutN r = (loP a b c).length := by
    unfold cutN
    rw [hrl]
    refine lenW_app (loP_lt a b c) ?_
    intro y t hy
    rw [hiP_head d e f y t hy]
    decide
  have hrs : r.size = (loP a b c).length + (hiP d e f).length := by rw [← ba_len, hrl, List.length_append]
  have hH : ptH r = some (d, e, f) := by
    unfold ptH
    rw [hcut, hrs]
    by_cases h2 : d = 1000 ∧ e = 0 ∧ f = 0
    · have e0 : hiP d e f = [] := by unfold hiP; rw [if_pos h2]
      rw [e0, if_neg (by simp)]
      obtain ⟨rfl, rfl, rfl⟩ := h2
      rfl
    · have e0 : hiP d e f = 60 :: (verS d e f).data.toList := by unfold hiP; rw [if_neg h2]
      have hv := hhi.resolve_left h2
      rw [e0, if_pos (by simp), ← parseV_verS hv]
      congr 1
      refine ba_ext ?_
      have h3 : r.data.toList = (loP a b c ++ [60]) ++ (verS d e f).data.toList := by rw [hrl, e0]; simp
      have h4 := ext_from h3
      rw [List.length_append, List.length_singleton] at h4
      rw [hrs, e0] at h4
      exact h4
  have hL : ptL r = some (a, b, c) := by
    unfold ptL
    rw [hcut]
    by_cases h1 : a = 0 ∧ b = 0 ∧ c = 0
    · have e0 : loP a b c = [] := by unfold loP; rw [if_pos h1]
      rw [e0, if_pos List.length_nil]
      obtain ⟨rfl, rfl, rfl⟩ := h1
      rfl
    · have e0 : loP a b c = 62 :: 61 :: (verS a b c).data.toList := by unfold loP; rw [if_neg h1]
      have hp : Lib.hasPrefix r.data.toList [62, 61] = true := by
        rw [hrl, e0]
        unfold Lib.hasPrefix
        rw [List.isPrefixOf_iff_prefix]
        exact ⟨(verS a b c).data.toList ++ hiP d e f, rfl⟩
      rw [if_neg (by rw [e0]; simp), if_pos hp, ← parseV_verS hlo]
      congr 1
      refine ba_ext ?_
      rw [ext_list, hrl, e0]
      simp only [List.cons_append, List.drop_succ_cons, List.drop_zero, List.length_cons]
      rw [show (verS a b c).data.toList.length + 1 + 1 - 2 = (verS a b c).data.toList.length by omega, List.take_left]
  unfold ptA
  rw [hN, ← hr, hL, hH, if_neg (by simp [hname])]
  simp [h]

end Go.Proofs.YtokhnmchnfkiiaaDoor.Am
