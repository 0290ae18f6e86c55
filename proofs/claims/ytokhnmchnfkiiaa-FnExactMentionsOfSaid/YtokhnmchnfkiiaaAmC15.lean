/- Consistent sets; terms that hold. No conditions. -/
import Derived.Test.YtokhnmchnfkiiaaAmC14
namespace Go.Proofs.Ytokhnmchnfkiiaa.Am
open Go Go.RowKit Go.Proofs
set_option linter.unusedSimpArgs false
set_option linter.unusedVariables false

theorem needs_len (c : List Pk) (s : List Int) (k : Int) : ∀ (l : List (List Trm)) (j : Nat), (needsR c s k l j).length ≤ l.length
  | [], _ => by simp [needsR]
  | q :: r, j => by
    have := needs_len c s k r (j + 1)
    unfold needsR
    split <;> simp <;> omega
theorem bars_len (c : List Pk) (s : List Int) (k : Int) : ∀ (l : List Trm) (j : Nat), (barsR c s k l j).length ≤ l.length
  | [], _ => by simp [barsR]
  | q :: r, j => by
    have := bars_len c s k r (j + 1)
    unfold barsR
    split <;> simp <;> omega
theorem faults_len {c : List Pk} (hb : CatOk c) (s : List Int) : ∀ (r seen : List Int), (∀ k ∈ r, 0 ≤ k ∧ k.toNat < c.length) → (faultsR c s seen r).length ≤ 9 * r.length
  | [], _, _ => by simp [faultsR]
  | k :: r, seen, h => by
    have h1 := faults_len hb s r (seen ++ [k]) fun x hx => h x (List.mem_cons_of_mem _ hx)
    have h2 := hb _ (pkAt_mem (h k (List.mem_cons_self ..)).2)
    have h3 := needs_len c s k (pkAt c k).ne 0
    have h4 := bars_len c s k (pkAt c k).ba 0
    have h5 := h2.2.1
    have h6 := h2.2.2.1
    unfold faultsR
    split <;> simp <;> omega
theorem SetOK.len {n : Nat} {s : List Int} (h : SetOK n s) : s.length ≤ n := by
  have up : ∀ i, (hi : i < s.length) → (i : Int) ≤ s[i] := by
    intro i
    induction i with
    | zero =>
      intro hi
      have := (h 0 hi).1
      rw [getD_at hi] at this
      simp [inF] at this
      omega
    | succ i ih =>
      intro hi
      have h1 := ih (by omega)
      have h2 : s[i] < s[i + 1] := h.lt (Nat.lt_succ_self i) hi
      omega
  by_cases e : s.length = 0
  · omega
  · have h1 := up (s.length - 1) (by omega)
    have h2 := (h (s.length - 1) (by omega)).1
    rw [getD_at (by omega)] at h2
    simp [inF] at h2
    omega
theorem setF_facts {c : List Pk} {s : List Int} (h : setF c s = 0) : CatOk c ∧ Places c.length s ∧ s.length ≤ 4611686018427387904 ∧ (faultsR c s [] s).length * 24 ≤ 140737488355328 := by
  obtain ⟨h1, h2⟩ := setF_ok h
  obtain ⟨h3, h4⟩ := catF_ok h1
  have h5 : CatOk c := fun p hp => packF_ok (h4 p hp)
  have h6 := h2.len
  have h7 := faults_len h5 s s [] h2.places
  exact ⟨h5, h2.places, by omega, by omega⟩

/-- The set has no fault of its own. -/
def goodB (c : List Pk) (s : List Int) : Bool := decide (faultsR c s [] s = [])
noncomputable def consF (c : List Pk) (s : List Int) : Bool := decide (setF c s = 0) && goodB c s

/-- All the terms hold in the set. -/
def holdsB (c : List Pk) (s : List Int) (l : List Trm) : Bool := l.all fun t => decide (trmF t = 0) && givenF c s t (-1)

theorem given_any {c : List Pk} {s : List Int} (hp : ∀ k ∈ s, 0 ≤ k) (t : Trm) : (s.any fun x => givesF (pkAt c x) t) = givenF c s t (-1) := by
  rw [Bool.eq_iff_iff]
  simp only [givenF, List.any_eq_true, Bool.and_eq_true, decide_eq_true_eq]
  constructor
  · rintro ⟨k, hk, h⟩
    exact ⟨k, hk, by have := hp k hk; omega, h⟩
  · rintro ⟨k, hk, _, h⟩
    exact ⟨k, hk, h⟩

end Go.Proofs.Ytokhnmchnfkiiaa.Am
