/- Slices of numbers: cloned, cut down by a function. No conditions. -/
import Derived.Test.YtokhnmchnfkiiaaAmC10
namespace Go.Proofs.Ytokhnmchnfkiiaa.Am
open Go Go.RowKit Go.Proofs
set_option linter.unusedSimpArgs false
set_option linter.unusedVariables false

/-- As Gb, with one slot whose new slice is the call's own. -/
noncomputable def Gob (n t0 : Nat) : Cfg := ⟨Try.prog, fun t => t == t0, fun t => t == 26, fun k => decide (n ≤ k), 0⟩
theorem versob (n t0 : Nat) : (Gob n t0).Vers := fun t h => vers0 t h

/-- One array of the call's own: at place p, in version v. -/
def arr1 (p v : Nat) (e : TypeId) (es : List (List AV)) : Nat → ArrSt := fun j => if j = p then ⟨v, true, e, es⟩ else ⟨0, false, 0, []⟩
theorem inArrs_some (e : TypeId) (es : List (List AV)) : inArrs (some (e, es)) = arr1 0 0 e es := rfl
@[simp] theorem arr1_self (p v : Nat) (e : TypeId) (es : List (List AV)) : arr1 p v e es p = ⟨v, true, e, es⟩ := by simp [arr1]
theorem arr1_put (p v : Nat) (e : TypeId) (es es' : List (List AV)) (w : Nat) : (fun j => if j = p then (⟨w, true, e, es'⟩ : ArrSt) else arr1 p v e es j) = arr1 p w e es' := by
  funext j
  simp only [arr1]
  by_cases h : j = p <;> simp [h]

@[simp] theorem one_arr (i n o l : Nat) : (AV.arr i n o l).one = true := rfl
@[simp] theorem free_dead {p : Bool → Prop} : AV.dead.Free p = True := eq_true .dead
theorem closed_v (x : Value) : (AV.v x).closed := .v x
theorem closed_box (k off : Nat) : (AV.box k off).closed := .box k off
theorem closed_rows {α : Type} {g : α → List AV} (l : List α) (h : ∀ a, ∀ c ∈ g a, c.closed) : ∀ e ∈ l.map g, ∀ c ∈ e, c.closed := by
  intro e he c hc
  obtain ⟨a, _, rfl⟩ := List.mem_map.1 he
  exact h a c hc
theorem cl_int (l : List Int) : ∀ e ∈ l.map intCells, ∀ c ∈ e, c.closed := closed_rows l fun a c hc => by simp at hc; subst hc; exact .v _
theorem cl_str (l : List ByteArray) : ∀ e ∈ l.map strCells, ∀ c ∈ e, c.closed := closed_rows l fun a c hc => by simp at hc; subst hc; exact .v _
theorem cl_trm (l : List Trm) : ∀ e ∈ l.map Trm.cells, ∀ c ∈ e, c.closed := closed_rows l fun a c hc => by simp at hc; rcases hc with rfl | rfl | rfl | rfl | rfl | rfl | rfl <;> exact .v _
theorem cl_cls (k : Bool) (l : List (List Trm)) : ∀ e ∈ l.map (clauseCells k), ∀ c ∈ e, c.closed := closed_rows l fun a c hc => by simp at hc; subst hc; exact .sl _ _ (cl_trm a)
theorem cl_pkc (k : Bool) (p : Pk) : ∀ c ∈ p.cells k, c.closed := by
  intro c hc
  simp at hc
  rcases hc with rfl | rfl | rfl | rfl | rfl | rfl | rfl | rfl
  iterate 5 exact .v _
  · exact .sl _ _ (cl_str _)
  · exact .sl _ _ (cl_cls _ _)
  · exact .sl _ _ (cl_trm _)
theorem cl_pk (k : Bool) (l : List Pk) : ∀ e ∈ l.map (Pk.cells k), ∀ c ∈ e, c.closed := closed_rows l fun a => cl_pkc k a
theorem closed_ints (k : Bool) (l : List Int) : (intsAV k l).closed := .sl _ _ (cl_int l)
theorem closed_pks (k k' : Bool) (l : List Pk) : (pksAV k k' l).closed := .sl _ _ (cl_pk k' l)

theorem idxQ_none {α : Type} (q : α → Bool) : ∀ (l : List α) (k : Int), 0 ≤ k → idxQ q l k = -1 → ∀ a ∈ l, q a = false
  | [], _, _, _, a, h => by cases h
  | b :: l, k, h0, h, a, ha => by
    unfold idxQ at h
    split at h
    · omega
    · rename_i hb
      rcases List.mem_cons.1 ha with rfl | ha
      · simpa using hb
      · exact idxQ_none q l (k + 1) (by omega) h a ha
theorem idxQ_some {α : Type} (q : α → Bool) : ∀ (l : List α) (k : Int), 0 ≤ k → idxQ q l k ≠ -1 → ∃ i, idxQ q l k = k + (i : Nat) ∧ i < l.length ∧ (∀ a ∈ l.take i, q a = false) ∧ ∀ h : i < l.length, q l[i] = true
  | [], _, _, h => by simp [idxQ] at h
  | b :: l, k, h0, h => by
    unfold idxQ at h ⊢
    split at h
    · rename_i hb
      rw [if_pos hb]
      exact ⟨0, by simp, by simp, by simp, fun _ => hb⟩
    · rename_i hb
      rw [if_neg hb]
      obtain ⟨i, h1, h2, h3, h4⟩ := idxQ_some q l (k + 1) (by omega) h
      refine ⟨i + 1, by rw [h1]; omega, by simpa using h2, ?_, fun h => by simpa using h4 (by simpa using h)⟩
      intro a ha
      rw [List.take_succ_cons] at ha
      rcases List.mem_cons.1 ha with rfl | ha
      · simpa using hb
      · exact h3 a ha

end Go.Proofs.Ytokhnmchnfkiiaa.Am
