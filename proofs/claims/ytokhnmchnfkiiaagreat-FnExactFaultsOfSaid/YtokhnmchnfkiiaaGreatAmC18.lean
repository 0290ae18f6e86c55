/- Slices of numbers: cloned, cut down by a function. No conditions. -/
import Derived.Test.YtokhnmchnfkiiaaGreatAmC10
namespace Go.Proofs.YtokhnmchnfkiiaaGreat.Am
open Go Go.RowKit Go.Proofs
set_option linter.unusedSimpArgs false
set_option linter.unusedVariables false

/-- As Gb, with one slot whose new slice is the call's own. -/
noncomputable def Gob (n t0 : Nat) : Cfg := ⟨Tryz.prog, fun t => t == t0, fun t => t == 64, fun k => decide (n ≤ k), 0⟩
theorem versob (n t0 : Nat) : (Gob n t0).Vers := fun t h => vers0 t h

/-- One array of the call's own: at place p, in version v. -/
def arr1 (p v : Nat) (e : TypeId) (es : List (List AV)) : Nat → ArrSt := fun j => if j = p then ⟨v, true, e, es⟩ else ⟨0, false, 0, []⟩
theorem inArrs_some (e : TypeId) (es : List (List AV)) : inArrs (some (e, es)) = arr1 0 0 e es := rfl
@[simp] theorem arr1_self (p v : Nat) (e : TypeId) (es : List (List AV)) : arr1 p v e es p = ⟨v, true, e, es⟩ := by simp [arr1]
theorem arr1_put (p v : Nat) (e : TypeId) (es es' : List (List AV)) (w : Nat) : (fun j => if j = p then (⟨w, true, e, es'⟩ : ArrSt) else arr1 p v e es j) = arr1 p w e es' := by
  funext j
  simp only [arr1]
  by_cases h : j = p <;> simp [h]

@[simp] theorem one_arr (i n o l : Nat) : (AV.arr i n o l).one = true := rfl
@[simp] theorem free_dead {p : Bool → Prop} : AV.dead.Free p = True := eq_true .dead
theorem closed_v (x : Value) : (AV.v x).closed := .v x
theorem closed_box (k off : Nat) : (AV.box k off).closed := .box k off
theorem closed_rows {α : Type} {g : α → List AV} (l : List α) (h : ∀ a, ∀ c ∈ g a, c.closed) : ∀ e ∈ l.map g, ∀ c ∈ e, c.closed := by
  intro e he c hc
  obtain ⟨a, _, rfl⟩ := List.mem_map.1 he
  exact h a c hc
theorem cl_int (l : List Int) : ∀ e ∈ l.map intCells, ∀ c ∈ e, c.closed := closed_rows l fun a c hc => by simp at hc; subst hc; exact .v _
theorem cl_str (l : List ByteArray) : ∀ e ∈ l.map strCells, ∀ c ∈ e, c.closed := closed_rows l fun a c hc => by simp at hc; subst hc; exact .v _
theorem cl_trm (l : List Trm) : ∀ e ∈ l.map Trm.cells, ∀ c ∈ e, c.closed := closed_rows l fun a c hc => by simp at hc; rcases hc with rfl | rfl | rfl | rfl | rfl | rfl | rfl <;> exact .v _
theorem cl_cls (k : Bool) (l : List (List Trm)) : ∀ e ∈ l.map (clauseCells k), ∀ c ∈ e, c.closed := closed_rows l fun a c hc => by simp at hc; subst hc; exact .sl _ _ (cl_trm a)
theorem cl_pkc (k : Bool) (p : Pk) : ∀ c ∈ p.cells k, c.closed := by
  intro c hc
  simp at hc
  rcases hc with rfl | rfl | rfl | rfl | rfl | rfl | rfl | rfl
  iterate 5 exact .v _
  · exact .sl _ _ (cl_str _)
  · exact .sl _ _ (cl_cls _ _)
  · exact .sl _ _ (cl_trm _)
theorem cl_pk (k : Bool) (l : List Pk) : ∀ e ∈ l.map (Pk.cells k), ∀ c ∈ e, c.closed := closed_rows l fun a => cl_pkc k a
theorem closed_ints (k : Bool) (l : List Int) : (intsAV k l).closed := .sl _ _ (cl_int l)
theorem closed_pks (k k' : Bool) (l : List Pk) : (pksAV k k' l).closed := .sl _ _ (cl_pk k' l)

theorem idxQ_none {α : Type} (q : α → Bool) : ∀ (l : List α) (k : Int), 0 ≤ k → idxQ q l k = -1 → ∀ a ∈ l, q a = false
  | [], _, _, _, a, h => by cases h
  | b :: l, k, h0, h, a, ha => by
    unfold idxQ at h
    split at h
    · omega
    · rename_i hb
      rcases List.mem_cons.1 ha with rfl | ha
      · simpa using hb
      · exact idxQ_none q l (k + 1) (by omega) h a ha
theorem idxQ_some {α : Type} (q : α → Bool) : ∀ (l : List α) (k : Int), 0 ≤ k → idxQ q l k ≠ -1 → ∃ i, idxQ q l k = k + (i : Nat) ∧ i < l.length ∧ (∀ a ∈ l.take i, q a = false) ∧ ∀ h : i < l.length, q l[i] = true
  | [], _, _, h => by simp [idxQ] at h
  | b :: l, k, h0, h => by
    unfold idxQ at h ⊢
    split at h
    · rename_i hb
      rw [if_pos hb]
      exact ⟨0, by simp, by simp, by simp, fun _ => hb⟩
    · rename_i hb
      rw [if_neg hb]
      obtain ⟨i, h1, h2, h3, h4⟩ := idxQ_some q l (k + 1) (by omega) h
      refine ⟨i + 1, by rw [h1]; omega, by simpa using h2, ?_, fun h => by simpa using h4 (by simpa using h)⟩
      intro a ha
      rw [List.take_succ_cons] at ha
      rcases List.mem_cons.1 ha with rfl | ha
      · simpa using hb
      · exact h3 a ha

/-- slices.DeleteFunc over an array of the caller's own. -/
theorem d_ints (l : List Int) (hl : l.length ≤ 4611686018427387904) (f : FuncId) (post : List AV) (bs : List (List AV)) (q : Int → Bool) (hst : Stab bs) (hs2 : StabA post)
    (h : ∀ a ∈ l, BCall Tryz.prog f ([.v (.int .i64 a)] ++ post) bs (.v (.bool (q a)))) :
    OCallB Tryz.prog 228 bs (some (2, l.map intCells)) [.arr 0 0 0 l.length, .clo f [] post] (some (false, 2, (l.filter fun x => !q x).map intCells)) (.arr 0 0 0 (l.filter fun x => !q x).length) := by
  refine own_of_codeB (G := Gob bs.length 41) (versob _ _) mixed0 Tryz.func228 rfl (by decide) (by simp [Tryz.f228]) (fun k hk => by simpa [Gob] using hk) 0 .dead (by intro s e es h; cases h; exact fr_int _) ?_
  simp only [Tryz.f228, Gob, inArrs_some]
  simp
  have es2 := hs2 ⟨bs, arr1 0 0 2 (l.map intCells)⟩
  refine call_b (xb_ints true l hl f [] post bs q hst (fun _ => rfl) hs2 (by simpa using h)) (hst _) ?_
  by_cases hx : idxQ q l 0 = -1
  · have hall := idxQ_none q l 0 (Int.le_refl _) hx
    have hf : l.filter (fun x => !q x) = l := List.filter_eq_self.2 fun a ha => by simp [hall a ha]
    rw [hf]
    simp [hx]
  · obtain ⟨i, h1, h2, h3, h4⟩ := idxQ_some q l 0 (Int.le_refl _) hx
    rw [h1] at hx ⊢
    simp only [Int.zero_add] at hx ⊢
    have hw := wrapS h2 hl
    simp [hx, hw]
    have hf0 : (l.take (i + 1)).filter (fun x => !q x) = l.take i := by
      rw [List.take_succ_eq_append_getElem h2, List.filter_append, List.filter_eq_self.2 fun a ha => by simp [h3 a ha]]
      simp [h4 h2]
    refine aloop (α := Nat × Nat × List Int) (fun d => ⟨envOf [(0, .arr 0 0 0 l.length), (1, .clo f [] post), (5, .v (.int .i64 d.1)), (6, .v (.int .i64 d.2.1))], ⟨bs, arr1 0 0 2 (d.2.2.map intCells)⟩⟩)
      (fun d => d.1 < d.2.1 ∧ d.2.1 ≤ l.length ∧ d.2.2.length = l.length ∧ d.2.2.take d.1 = (l.take d.2.1).filter (fun x => !q x) ∧ d.2.2.drop d.2.1 = l.drop d.2.1) (fun d => l.length - d.2.1) (i, i + 1, l) (less_envOf (by simp) rfl fun _ => rfl) ⟨by simp, by simp; omega, rfl, hf0.symm, rfl⟩ ?_
    rintro ⟨a, b, m⟩ ⟨e1, e2, e3, e4, e5⟩
    simp only at e1 e2 e3 e4 e5 ⊢
    by_cases hlt : b < l.length
    · have hwb := wrapS hlt hl
      have hwa := wrapS (show a < l.length by omega) hl
      have hbm : b < m.length := by omega
      have hmb : m[b] = l[b] := by
        have := congrArg (fun z => z[0]?) e5
        simpa [hbm, hlt] using this
      have ht : (l.take (b + 1)).filter (fun x => !q x) = if q l[b] then (l.take b).filter (fun x => !q x) else (l.take b).filter (fun x => !q x) ++ [l[b]] := by
        rw [List.take_succ_eq_append_getElem hlt, List.filter_append]
        by_cases hq : q l[b] = true <;> simp [hq]
      have hd : m.drop (b + 1) = l.drop (b + 1) := by
        have := congrArg (List.drop 1) e5
        simpa [List.drop_drop] using this
      have es := hs2
      unfold StabA at es
      simp [hlt, e3, hmb]
      simp only [es]
      refine call_b (by simpa using h l[b] (List.getElem_mem hlt)) (hst _) ?_
      cases hq : q l[b] with
      | true =>
        simp
        refine ⟨a, b + 1, m, less_envOf (by simp [hwb]) rfl fun _ => rfl, ⟨by omega, by omega, e3, by rw [ht, hq]; simpa using e4, hd⟩, by omega⟩
      | false =>
        simp [show a < l.length by omega, show a < m.length by omega]
        refine ⟨a + 1, b + 1, m.set a l[b], less_envOf (by simp [hwb, hwa]) rfl ?_, ⟨by omega, by omega, by simpa using e3, ?_, ?_⟩, by omega⟩
        · intro j
          by_cases hj : j = 0 <;> simp [hj, arr1]
        · rw [ht, hq, ← e4]
          have ha : a < m.length := by omega
          have hlen : (m.take a).length = a := by simp; omega
          rw [List.take_set, List.take_succ_eq_append_getElem ha, List.set_append, if_neg (by omega), hlen, Nat.sub_self, List.set_cons_zero]
          rfl
        · rw [List.drop_set_of_lt (by omega)]
          exact hd
    · have e : b = l.length := by omega
      subst e
      rw [List.take_length] at e4
      have ha : a ≤ m.length := by omega
      have hla : (l.filter fun x => !q x).length = a := by rw [← e4]; simp; omega
      simp [hla, e3, show a ≤ l.length by omega]
      rw [← List.map_take, e4]

end Go.Proofs.YtokhnmchnfkiiaaGreat.Am
