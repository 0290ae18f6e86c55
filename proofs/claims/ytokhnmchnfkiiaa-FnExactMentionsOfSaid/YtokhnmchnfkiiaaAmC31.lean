/- Texts in order: put into a rising list, sorted, one of each. No conditions. -/
import Derived.Test.YtokhnmchnfkiiaaAmW
namespace Go.Proofs.Ytokhnmchnfkiiaa.Am
open Go Go.RowKit Go.Proofs
set_option linter.unusedSimpArgs false
set_option linter.unusedVariables false

/-! ### Texts in order -/
theorem bytesLess_lt : ∀ (x y : List UInt8), Op.bytesLess x y = decide (x < y)
  | [], [] => by simp [Op.bytesLess]
  | _ :: _, [] => by simp [Op.bytesLess]
  | [], _ :: _ => by simp [Op.bytesLess]
  | a :: x, b :: y => by
    rw [Op.bytesLess, bytesLess_lt x y]
    simp only [List.cons_lt_cons_iff]
    by_cases h1 : a < b <;> by_cases h2 : a = b <;> by_cases h3 : x < y <;> simp [h1, h2, h3]
def sLt (a b : ByteArray) : Bool := Op.bytesLess a.data.toList b.data.toList
theorem sLt_eq (a b : ByteArray) : sLt a b = decide (a.data.toList < b.data.toList) := bytesLess_lt _ _
theorem bin_inj {a b : ByteArray} (h : a.data.toList = b.data.toList) : a = b := by
  cases a; cases b; simp at h; simp [h]
theorem sLt_irrefl (a : ByteArray) : sLt a a = false := by rw [sLt_eq]; simp
theorem sLt_trans {a b c : ByteArray} (h : sLt a b = true) (k : sLt b c = true) : sLt a c = true := by
  rw [sLt_eq, decide_eq_true_eq] at *
  exact List.lt_trans h k
theorem sLt_tri {a b : ByteArray} (h : a ≠ b) (k : sLt a b = false) : sLt b a = true := by
  rw [sLt_eq] at *
  simp only [decide_eq_false_iff_not, decide_eq_true_eq, List.not_lt] at *
  rcases List.le_iff_lt_or_eq.1 k with h1 | h1
  · exact h1
  · exact (h (bin_inj h1.symm)).elim
theorem sLt_asymm {a b : ByteArray} (h : sLt a b = true) : sLt b a = false := by
  cases k : sLt b a with
  | false => rfl
  | true => have := sLt_trans h k; rw [sLt_irrefl] at this; cases this

/-- Rising, each once. -/
@[reducible] def Rise (l : List ByteArray) : Prop := l.Pairwise fun a b => sLt a b = true
theorem rise_uniq : ∀ {l m : List ByteArray}, Rise l → Rise m → (∀ x, x ∈ l ↔ x ∈ m) → l = m
  | [], [], _, _, _ => rfl
  | [], b :: m, _, _, h => by have := (h b).2 (by simp); cases this
  | a :: l, [], _, _, h => by have := (h a).1 (by simp); cases this
  | a :: l, b :: m, hl, hm, h => by
    have hl' := List.pairwise_cons.1 hl
    have hm' := List.pairwise_cons.1 hm
    have e : a = b := by
      rcases List.mem_cons.1 ((h a).1 (by simp)) with h1 | h1
      · exact h1
      · rcases List.mem_cons.1 ((h b).2 (by simp)) with h2 | h2
        · exact h2.symm
        · have := sLt_asymm (hm'.1 a h1)
          rw [hl'.1 b h2] at this
          cases this
    subst e
    rw [rise_uniq hl'.2 hm'.2 fun x => ?_]
    constructor
    · intro hx
      rcases List.mem_cons.1 ((h x).1 (List.mem_cons_of_mem _ hx)) with h1 | h1
      · subst h1
        have := hl'.1 x hx
        rw [sLt_irrefl] at this
        cases this
      · exact h1
    · intro hx
      rcases List.mem_cons.1 ((h x).2 (List.mem_cons_of_mem _ hx)) with h1 | h1
      · subst h1
        have := hm'.1 x hx
        rw [sLt_irrefl] at this
        cases this
      · exact h1

/-- A text put into a rising list, once. -/
def insS (v : ByteArray) : List ByteArray → List ByteArray
  | [] => [v]
  | a :: l => if a = v then a :: l else if sLt v a = true then v :: a :: l else a :: insS v l
theorem insS_mem (v x : ByteArray) : ∀ l, x ∈ insS v l ↔ x = v ∨ x ∈ l
  | [] => by simp [insS]
  | a :: l => by
    unfold insS
    split
    · rename_i e
      subst e
      simp
    · split
      · simp
      · have := insS_mem v x l
        simp only [List.mem_cons, this]
        constructor <;> (rintro (h | h | h) <;> simp [h])
theorem insS_rise (v : ByteArray) : ∀ {l}, Rise l → Rise (insS v l)
  | [], _ => by simp [insS, Rise]
  | a :: l, h => by
    have h' := List.pairwise_cons.1 h
    unfold insS
    split
    · exact h
    · rename_i hne
      split
      · rename_i hlt
        refine List.pairwise_cons.2 ⟨?_, h⟩
        intro x hx
        rcases List.mem_cons.1 hx with rfl | hx
        · exact hlt
        · exact sLt_trans hlt (h'.1 x hx)
      · rename_i hlt
        refine List.pairwise_cons.2 ⟨?_, insS_rise v h'.2⟩
        intro x hx
        rcases (insS_mem v x l).1 hx with rfl | hx
        · exact sLt_tri (fun e => hne e.symm) (by simpa using hlt)
        · exact h'.1 x hx
theorem insS_len (v : ByteArray) : ∀ l, (insS v l).length ≤ l.length + 1
  | [] => by simp [insS]
  | a :: l => by
    have := insS_len v l
    unfold insS
    split <;> (try split) <;> simp <;> omega
/-- All of a list, put into another one after the other. -/
def putS (l : List ByteArray) (vs : List ByteArray) : List ByteArray := vs.foldl (fun acc v => insS v acc) l
theorem putS_mem (x : ByteArray) : ∀ (vs l : List ByteArray), x ∈ putS l vs ↔ x ∈ l ∨ x ∈ vs
  | [], l => by simp [putS]
  | v :: vs, l => by
    have := putS_mem x vs (insS v l)
    simp only [putS, List.foldl_cons] at this ⊢
    rw [this, insS_mem]
    simp only [List.mem_cons]
    constructor
    · rintro ((h | h) | h)
      · exact .inr (.inl h)
      · exact .inl h
      · exact .inr (.inr h)
    · rintro (h | h | h)
      · exact .inl (.inr h)
      · exact .inl (.inl h)
      · exact .inr h
theorem putS_rise : ∀ (vs : List ByteArray) {l : List ByteArray}, Rise l → Rise (putS l vs)
  | [], _, h => h
  | v :: vs, _, h => putS_rise vs (insS_rise v h)
theorem putS_len : ∀ (vs l : List ByteArray), (putS l vs).length ≤ l.length + vs.length
  | [], l => by simp [putS]
  | v :: vs, l => by
    have h1 := putS_len vs (insS v l)
    have h2 := insS_len v l
    simp only [putS, List.foldl_cons, List.length_cons] at h1 ⊢
    omega
theorem putS_app (l a b : List ByteArray) : putS l (a ++ b) = putS (putS l a) b := by simp [putS, List.foldl_append]

/-! ### Sorted, and each once -/
def leS (a b : ByteArray) : Bool := !sLt b a
theorem leS_trans (a b c : ByteArray) : leS a b = true → leS b c = true → leS a c = true := by
  simp only [leS, Bool.not_eq_true']
  intro h k
  cases e : sLt c a with
  | false => rfl
  | true =>
    by_cases h1 : b = c
    · subst h1; rw [h] at e; cases e
    · have := sLt_tri (fun e => h1 e.symm) k
      have := sLt_trans this e
      rw [h] at this
      cases this
theorem leS_total (a b : ByteArray) : (leS a b || leS b a) = true := by
  simp only [leS, Bool.or_eq_true, Bool.not_eq_true']
  cases e : sLt b a with
  | false => exact .inl rfl
  | true => exact .inr (sLt_asymm e)
/-- The list sorted. -/
def sortS (l : List ByteArray) : List ByteArray := l.mergeSort leS
theorem sortS_le (l : List ByteArray) : (sortS l).Pairwise fun a b => leS a b = true := List.pairwise_mergeSort leS_trans leS_total l
theorem sortS_mem (l : List ByteArray) (x : ByteArray) : x ∈ sortS l ↔ x ∈ l := (List.mergeSort_perm l leS).mem_iff
theorem sortS_length (l : List ByteArray) : (sortS l).length = l.length := (List.mergeSort_perm l leS).length_eq
/-- One of each run of equals. -/
def compS : List ByteArray → List ByteArray
  | [] => []
  | [a] => [a]
  | a :: b :: l => if a = b then compS (b :: l) else a :: compS (b :: l)
theorem compS_mem (x : ByteArray) : ∀ l, x ∈ compS l ↔ x ∈ l
  | [] => by simp [compS]
  | [a] => by simp [compS]
  | a :: b :: l => by
    have := compS_mem x (b :: l)
    unfold compS
    split
    · rename_i e
      subst e
      rw [this]
      simp
    · rw [List.mem_cons, this]
      simp
theorem compS_rise : ∀ l : List ByteArray, l.Pairwise (fun a b => leS a b = true) → Rise (compS l)
  | [], _ => by simp [compS, Rise]
  | [a], _ => by simp [compS, Rise]
  | a :: b :: l, h => by
    have h' := List.pairwise_cons.1 h
    have ih := compS_rise (b :: l) h'.2
    unfold compS
    split
    · exact ih
    · rename_i hne
      refine List.pairwise_cons.2 ⟨?_, ih⟩
      intro x hx
      have hx2 := (compS_mem x (b :: l)).1 hx
      have hab : sLt a b = true := by
        have := h'.1 b (by simp)
        simp only [leS, Bool.not_eq_true'] at this
        exact sLt_tri (fun e => hne e.symm) this
      rcases List.mem_cons.1 hx2 with rfl | hx2
      · exact hab
      · have h2 := (List.pairwise_cons.1 h'.2).1 x hx2
        simp only [leS, Bool.not_eq_true'] at h2
        by_cases e : b = x
        · subst e; exact hab
        · exact sLt_trans hab (sLt_tri (fun e' => e e'.symm) h2)
theorem sorted_put (l : List ByteArray) : compS (sortS l) = putS [] l :=
  rise_uniq (compS_rise _ (sortS_le l)) (putS_rise l (by simp [Rise])) fun x => by rw [compS_mem, sortS_mem, putS_mem]; simp
theorem compS_len : ∀ l : List ByteArray, (compS l).length ≤ l.length
  | [] => by simp [compS]
  | [a] => by simp [compS]
  | a :: b :: l => by
    have := compS_len (b :: l)
    unfold compS
    split <;> simp at this ⊢ <;> omega
end Go.Proofs.Ytokhnmchnfkiiaa.Am
