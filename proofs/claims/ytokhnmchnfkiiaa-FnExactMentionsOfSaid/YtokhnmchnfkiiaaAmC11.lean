/- Sets: names twice; what is changed between sets, its cost. No conditions. -/
import Derived.Test.YtokhnmchnfkiiaaAmC10
namespace Go.Proofs.Ytokhnmchnfkiiaa.Am
open Go Go.RowKit Go.Proofs
set_option linter.unusedSimpArgs false
set_option linter.unusedVariables false

instance : Inhabited Pk := ⟨⟨.empty, ⟨0, 0, 0⟩, 0, [], [], []⟩⟩
/-- The package at a place. -/
def pkAt (c : List Pk) (k : Int) : Pk := (c[k.toNat]?).getD default
def Places (n : Nat) (s : List Int) : Prop := ∀ k ∈ s, 0 ≤ k ∧ k.toNat < n
theorem pkAt_get {c : List Pk} {k : Int} (h : k.toNat < c.length) : c[k.toNat]? = some (pkAt c k) := by simp [pkAt, h]
theorem pkAt_mem {c : List Pk} {k : Int} (h : k.toNat < c.length) : pkAt c k ∈ c := List.mem_of_getElem? (pkAt_get h)
theorem SetOK.places {n : Nat} {s : List Int} (h : SetOK n s) : Places n s := by
  intro k hk
  obtain ⟨i, hi, rfl⟩ := List.getElem_of_mem hk
  have := (h i hi).1
  rw [getD_at hi] at this
  simp [inF] at this
  omega
theorem setF_ok {c : List Pk} {s : List Int} (h : setF c s = 0) : catF c = 0 ∧ SetOK c.length s := by
  unfold setF at h
  split at h
  · rename_i h1; exact (h1 h).elim
  · rename_i h1
    split at h
    · rename_i h2
      refine ⟨by simpa using h1, ?_⟩
      by_cases hh : SetOK c.length s
      · exact hh
      · rw [setB_false hh] at h2; cases h2
    · cases h
theorem SetOK.lt {n : Nat} {s : List Int} (h : SetOK n s) : ∀ {j i : Nat} (hj : j < i) (hi : i < s.length), s[j] < s[i] := by
  intro j i
  induction i with
  | zero => intro hj; omega
  | succ i ih =>
    intro hj hi
    have h1 := (h (i + 1) hi).2 (by omega)
    rw [getD_at hi, show i + 1 - 1 = i from rfl, getD_at (by omega)] at h1
    by_cases e : j = i
    · subst e; exact h1
    · exact Int.lt_trans (ih (by omega) (by omega)) h1

def oneF (c : List Pk) (n : ByteArray) : List Int → Int
  | [] => -1
  | k :: s => if (pkAt c k).n = n then k else oneF c n s

def twiceR (c : List Pk) : List Int → List Int → Bool
  | _, [] => false
  | seen, k :: s => decide (0 ≤ oneF c (pkAt c k).n seen) || twiceR c (seen ++ [k]) s
theorem twiceR_app {c : List Pk} {s : List Int} {i : Nat} (h : i < s.length) : twiceR c (s.take i) (s.drop i) = (decide (0 ≤ oneF c (pkAt c s[i]).n (s.take i)) || twiceR c (s.take (i + 1)) (s.drop (i + 1))) := by
  rw [drop_get h, twiceR, List.take_add_one, List.getElem?_eq_getElem h]
  rfl
theorem oneF_app (c : List Pk) (n : ByteArray) (b : List Int) : ∀ a : List Int, (∀ k ∈ a, 0 ≤ k) → oneF c n (a ++ b) = if 0 ≤ oneF c n a then oneF c n a else oneF c n b
  | [], _ => by simp [oneF]
  | k :: a, h => by
    simp only [List.cons_append, oneF]
    split
    · rw [if_pos (h k (by simp))]
    · exact oneF_app c n b a fun x hx => h x (by simp [hx])
theorem oneF_mem (c : List Pk) (n : ByteArray) : ∀ a : List Int, 0 ≤ oneF c n a → oneF c n a ∈ a
  | [], h => by simp [oneF] at h
  | k :: a, h => by
    simp only [oneF] at h ⊢
    split
    · simp
    · rename_i hne
      rw [if_neg hne] at h
      exact List.mem_cons_of_mem _ (oneF_mem c n a h)
theorem apart_iff {c : List Pk} {s : List Int} (h : SetOK c.length s) {i : Nat} (hi : i < s.length) : oneF c (pkAt c s[i]).n s = s[i] ↔ ¬ 0 ≤ oneF c (pkAt c s[i]).n (s.take i) := by
  have hp := h.places
  have e : s = s.take i ++ s[i] :: s.drop (i + 1) := by rw [← drop_get hi, List.take_append_drop]
  have e2 : oneF c (pkAt c s[i]).n s = oneF c (pkAt c s[i]).n (s.take i ++ s[i] :: s.drop (i + 1)) := congrArg _ e
  rw [oneF_app _ _ _ _ (fun k hk => (hp k (List.mem_of_mem_take hk)).1)] at e2
  rw [e2]
  by_cases h0 : 0 ≤ oneF c (pkAt c s[i]).n (s.take i)
  · rw [if_pos h0]
    have hm := oneF_mem c _ _ h0
    obtain ⟨j, hj, he⟩ := List.getElem_of_mem hm
    rw [List.getElem_take] at he
    have hj' : j < i := by simp at hj; omega
    have := h.lt hj' hi
    rw [he] at this
    constructor
    · intro h2; omega
    · intro h2; exact (h2 h0).elim
  · rw [if_neg h0]
    simp [oneF, h0]

noncomputable def deltaF (c : List Pk) (f t : List Int) : Int := if setF c f ≠ 0 then setF c f else if setF c t ≠ 0 then setF c t else if twiceR c [] f = true ∨ twiceR c [] t = true then 6 else 0

def memI (x : Int) : List Int → Bool
  | [] => false
  | a :: l => decide (a = x) || memI x l
def idxI (x : Int) : List Int → Int → Int
  | [], _ => -1
  | a :: l, k => if x = a then k else idxI x l (k + 1)
theorem idxI_mem (x : Int) : ∀ (l : List Int) (k : Int), 0 ≤ k → decide (0 ≤ idxI x l k) = memI x l
  | [], k, h => by simp [idxI, memI]
  | s :: l, k, h => by
    unfold idxI memI
    by_cases e : x = s
    · simp [e, h]
    · simp only [if_neg e]
      rw [idxI_mem x l (k + 1) (by omega)]
      simp [Ne.symm e]

end Go.Proofs.Ytokhnmchnfkiiaa.Am
