/- Lists of names: sorted, one of each. No conditions. -/
import Derived.Test.YtokhnmchnfkiiaaAmC31
import Derived.Test.YtokhnmchnfkiiaaAmN
import Derived.Test.YtokhnmchnfkiiaaAmShelf
import Derived.Test.YtokhnmchnfkiiaaAmC18
namespace Go.Proofs.Ytokhnmchnfkiiaa.Am
open Go Go.RowKit Go.Proofs
set_option linter.unusedSimpArgs false
set_option linter.unusedVariables false

theorem leS_le (a b : ByteArray) : leS a b = decide (a.data.toList ≤ b.data.toList) := by
  rw [leS, sLt_eq, ← decide_not]
  exact decide_eq_decide.2 List.not_lt

theorem sortS_lists (l : List ByteArray) : (l.map fun s => s.data.toList).mergeSort (fun x y => decide (x ≤ y)) = (sortS l).map fun s => s.data.toList := by
  unfold sortS
  exact (List.map_mergeSort fun a _ b _ => leS_le a b).symm

theorem o_sortStr (l : List ByteArray) (hl : l.length < 4611686018427387904) :
    OCall Try.prog 139 (some (9, l.map strCells)) [.arr 0 0 0 l.length] (some (true, 9, (sortS l).map strCells)) (.tup []) := by
  have h := o_sort (P := Try.prog) (f := 139) (e := 9) encStr (fun _ => rfl) (by kernel_rfl) (by kernel_rfl) (l.map fun s => s.data.toList) ((sortS l).map fun s => s.data.toList) (by simp [sortS_length])
    (fun _ p cap w => AnyG.slices_Sort_string_none sortStr p cap w)
    (fun blk off cap w hH hb => by
      have := AnyG.slices_Sort_string sortStr blk off cap (l.map fun s => s.data.toList) w hH hb (by simpa using hl)
      rw [sortS_lists] at this
      exact this)
  simpa [List.map_map, Function.comp_def] using h

theorem compS_snoc : ∀ (l : List ByteArray) (a b : ByteArray), compS (l ++ [a, b]) = if a = b then compS (l ++ [a]) else compS (l ++ [a]) ++ [b]
  | [], a, b => by
    by_cases h : a = b <;> simp [compS, h]
  | [x], a, b => by
    have ih := compS_snoc [] a b
    simp only [List.nil_append] at ih
    simp only [List.cons_append, List.nil_append, compS, ih]
    by_cases h1 : x = a <;> by_cases h2 : a = b <;> simp [h1, h2]
  | x :: y :: l, a, b => by
    have ih := compS_snoc (y :: l) a b
    simp only [List.cons_append] at ih ⊢
    rw [compS, ih]
    conv => rhs; rw [compS]
    by_cases h1 : x = y <;> by_cases h2 : a = b <;> simp [h1, h2]
theorem compS_take {l : List ByteArray} {j : Nat} (h0 : 0 < j) (h : j < l.length) : compS (l.take (j + 1)) = if l[j - 1] = l[j] then compS (l.take j) else compS (l.take j) ++ [l[j]] := by
  have e1 : l.take j = l.take (j - 1) ++ [l[j - 1]] := by
    have := List.take_succ_eq_append_getElem (l := l) (i := j - 1) (by omega)
    rw [show j - 1 + 1 = j by omega] at this
    exact this
  rw [List.take_succ_eq_append_getElem h, e1, List.append_assoc]
  exact compS_snoc _ _ _
theorem compS_all : ∀ {l : List ByteArray}, (∀ j (h : j < l.length), 0 < j → l[j - 1] ≠ l[j]) → compS l = l
  | [], _ => rfl
  | [a], _ => rfl
  | a :: b :: l, h => by
    have h1 : a ≠ b := h 1 (by simp) (by omega)
    rw [compS, if_neg h1, compS_all fun j hj h0 => ?_]
    have := h (j + 1) (by simpa using hj) (by omega)
    simp only [Nat.add_sub_cancel, List.getElem_cons_succ] at this
    cases j with
    | zero => omega
    | succ j => simpa using this

theorem o_compact (l : List ByteArray) (hl : l.length ≤ 4611686018427387904) :
    OCall Try.prog 140 (some (9, l.map strCells)) [.arr 0 0 0 l.length] (some (false, 9, (compS l).map strCells)) (.arr 0 0 0 (compS l).length) := by
  refine own_of_code (G := Go1 59) (verso 59) mixed0 Try.func140 rfl (by decide) (by simp [Try.f140]) 0 .dead (by intro s e es h; cases h; exact fr_str _) ?_
  simp only [Try.f140, Go1, inArrs_some]
  by_cases h2 : l.length < 2
  · have hc : compS l = l := compS_all fun j hj h0 => by omega
    have h2a : (l.length : Int) < 2 := by omega
    have h2b : ¬ (2 : Int) ≤ l.length := by omega
    rw [hc]
    simp [h2a, h2b]
  have h2a : ¬ (l.length : Int) < 2 := by omega
  have h2b : (2 : Int) ≤ l.length := by omega
  simp [h2a, h2b]
  refine aloop (α := Nat) (fun k => ⟨envOf [(0, .arr 0 0 0 l.length), (3, .v (.int .i64 k))], ⟨[], arr1 0 0 9 (l.map strCells)⟩⟩)
    (fun k => 0 < k ∧ k ≤ l.length ∧ ∀ j (h : j < l.length), 0 < j → j < k → l[j - 1] ≠ l[j]) (fun k => l.length - k) 1 (less_envOf (by simp) rfl fun _ => rfl) ⟨by omega, by omega, fun j hj h0 h1 => by omega⟩ ?_
  rintro k ⟨hk0, hkl, hadj⟩
  by_cases hlt : k < l.length
  · have hw := wrapS hlt hl
    have hw1 : IntKind.i64.wrap ((k : Int) - 1) = ((k - 1 : Nat) : Int) := by rw [IntWalk.i64_in _ (by omega)]; omega
    have hk1 : k - 1 < l.length := by omega
    simp [hlt]
    refine adraw_all (by kernel_rfl) ?_
    simp [hlt, hw1, hk1]
    by_cases he : l[k] = l[k - 1]
    · have hck : compS (l.take k) = l.take k := compS_all fun j hj h0 => by
        simp only [List.length_take] at hj
        simp only [List.getElem_take]
        exact hadj j (by omega) h0 (by omega)
      have hck1 : compS (l.take (k + 1)) = l.take k := by rw [compS_take hk0 hlt, if_pos he.symm, hck]
      simp [he, hkl]
      refine aloop (α := Nat × Nat × List ByteArray) (fun d => ⟨envOf [(0, .arr 0 0 0 l.length), (3, .v (.int .i64 d.1)), (4, .arr 0 0 k (l.length - k)), (5, .v (.int .i64 d.2.1))], ⟨[], arr1 0 0 9 (d.2.2.map strCells)⟩⟩)
        (fun d => d.2.2.length = l.length ∧ 0 < d.2.1 ∧ d.1 + 1 ≤ k + d.2.1 ∧ k + d.2.1 ≤ l.length ∧ d.2.2.take d.1 = compS (l.take (k + d.2.1)) ∧ d.2.2.drop (k + d.2.1 - 1) = l.drop (k + d.2.1 - 1)) (fun d => l.length - d.2.1) (k, 1, l) (less_envOf (by simp) rfl fun _ => rfl) ⟨rfl, Nat.one_pos, Nat.le_refl _, hlt, hck1.symm, rfl⟩ ?_
      rintro ⟨a, b, m⟩ ⟨e1, e2, e3, e4, e5, e6⟩
      simp only at e1 e2 e3 e4 e5 e6 ⊢
      by_cases hb : b < l.length - k
      · have hwb := wrapS hb (by omega)
        have hwa : IntKind.i64.wrap ((a : Int) + 1) = ((a + 1 : Nat) : Int) := by rw [IntWalk.i64_in _ (by omega)]; omega
        have hwb1 : IntKind.i64.wrap ((b : Int) - 1) = ((b - 1 : Nat) : Int) := by rw [IntWalk.i64_in _ (by omega)]; omega
        have hkb : k + b < l.length := by omega
        have hkb1 : k + (b - 1) < l.length := by omega
        have g1 : m[k + b]'(by omega) = l[k + b] := by
          have := congrArg (fun z => z[1]?) e6
          simp only [List.getElem?_drop] at this
          rw [show k + b - 1 + 1 = k + b by omega, List.getElem?_eq_getElem (by omega), List.getElem?_eq_getElem hkb] at this
          exact Option.some.inj this
        have g0 : m[k + (b - 1)]'(by omega) = l[k + (b - 1)] := by
          have := congrArg (fun z => z[0]?) e6
          simp only [List.getElem?_drop] at this
          rw [show k + b - 1 + 0 = k + (b - 1) by omega, List.getElem?_eq_getElem (by omega), List.getElem?_eq_getElem hkb1] at this
          exact Option.some.inj this
        have htk := compS_take (l := l) (j := k + b) (by omega) hkb
        have hd : m.drop (k + b) = l.drop (k + b) := by
          have := congrArg (List.drop 1) e6
          simpa [List.drop_drop, show k + b - 1 + 1 = k + b by omega] using this
        have hbl : (b : Int) < (l.length : Int) - (k : Int) := by omega
        have hbc : (b : Int) < ((l.length - k : Nat) : Int) := by omega
        have hb1 : b - 1 < l.length - k := by omega
        have e7 : l[k + b - 1] = l[k + (b - 1)] := by congr 1; omega
        simp [hb, hbl, hbc, e1]
        refine adraw_all (by kernel_rfl) ?_
        simp [hb, hbl, hbc, hwb1, hb1, e1, hkb, hkb1, g1, g0]
        by_cases hq : l[k + b] = l[k + (b - 1)]
        · rw [if_pos (by rw [e7]; exact hq.symm)] at htk
          simp [hq]
          refine ⟨a, b + 1, m, less_envOf (by simp [hwb]) rfl fun _ => rfl, ⟨e1, by omega, by omega, by omega, by rw [e5]; exact htk.symm, by simpa using hd⟩, by omega⟩
        · rw [if_neg (by rw [e7]; exact fun h => hq h.symm)] at htk
          have ha : a < l.length := by omega
          have ham : a < m.length := by omega
          simp [hq, ha, ham, e1, hb, hkb, g1]
          refine ⟨a + 1, b + 1, m.set a l[k + b], less_envOf (by simp [hwb, hwa]) rfl ?_, ⟨by simpa using e1, by omega, by omega, by omega, ?_, ?_⟩, by omega⟩
          · intro j
            by_cases hj : j = 0 <;> simp [hj, arr1]
          · have hlen : (m.take a).length = a := by simp; omega
            rw [List.take_set, List.take_succ_eq_append_getElem ham, List.set_append, if_neg (by omega), hlen, Nat.sub_self, List.set_cons_zero, e5]
            exact htk.symm
          · rw [List.drop_set_of_lt (by omega), show k + (b + 1) - 1 = k + b by omega]
            exact hd
      · have hb2 : k + b = l.length := by omega
        rw [hb2, List.take_length] at e5
        have hca : (compS l).length = a := by rw [← e5]; simp; omega
        have ha : a ≤ l.length := by omega
        have hbl : ¬ (b : Int) < (l.length : Int) - (k : Int) := by omega
        have hbc : ¬ (b : Int) < ((l.length - k : Nat) : Int) := by omega
        simp [hb, hbl, hbc, hca, ha, e1]
        rw [← e5]
        simp [e1, ha, List.map_take]
    · simp [he]
      refine ⟨k + 1, less_envOf (by simp [hw]) rfl fun _ => rfl, ⟨by omega, by omega, fun j hj h0 hjk => ?_⟩, by omega⟩
      by_cases hj2 : j = k
      · subst hj2
        exact fun h => he h.symm
      · exact hadj j hj h0 (by omega)
  · have hc : compS l = l := compS_all fun j hj h0 => hadj j hj h0 (by omega)
    rw [hc]
    simp [hlt]

/-- The program's sorted. -/
theorem o_sorted (l : List ByteArray) (hl : l.length < 4611686018427387904) :
    OCall Try.prog 123 (some (9, l.map strCells)) [.arr 0 0 0 l.length] (some (false, 9, (putS [] l).map strCells)) (.arr 0 0 0 (putS [] l).length) := by
  have h1 := o_sortStr l hl
  have h2 := o_compact (sortS l) (by rw [sortS_length]; omega)
  rw [sortS_length, sorted_put] at h2
  refine own_of_code (G := G0) vers0 mixed0 Try.func123 rfl (by decide) (by simp [Try.f123]) 0 .dead (by intro s e es h; cases h; exact fr_str _) ?_
  simp only [Try.f123, G0, inArrs_some]
  simp
  refine call_s 0 0 9 (l.map strCells) (by simp) h1 (by simp) (by simp) (fr_str _) ?_
  simp [arr1_put]
  refine call_o 0 0 9 ((sortS l).map strCells) (by simp) h2 (by simp [sortS_length]) (by simp) (fr_str _) ?_
  simp [arr1_put]

end Go.Proofs.Ytokhnmchnfkiiaa.Am
