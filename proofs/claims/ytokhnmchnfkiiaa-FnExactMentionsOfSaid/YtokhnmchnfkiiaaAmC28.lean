/- Marks on arrays of terms of the law's own: written, and found again. No conditions. -/
import Derived.Test.YtokhnmchnfkiiaaAmC19
import Derived.Test.YtokhnmchnfkiiaaAmC20
namespace Go.Proofs.Ytokhnmchnfkiiaa.Am
open Go Go.RowKit Go.Proofs
set_option linter.unusedSimpArgs false
set_option linter.unusedVariables false

def mkTrm (k : Int) : Trm := ⟨markF k, ⟨k + 1, k + 2, k + 3⟩, ⟨k + 4, k + 5, k + 6⟩⟩
def mtrms (k : Int) (n : Nat) : List Trm := (List.range n).map fun i => mkTrm (k + ((7 * i : Nat) : Int))
@[simp] theorem mtrms_length (k : Int) (n : Nat) : (mtrms k n).length = n := by simp [mtrms]
theorem mtrms_succ (k : Int) (n : Nat) : mtrms k (n + 1) = mtrms k n ++ [mkTrm (k + ((7 * n : Nat) : Int))] := by simp [mtrms, List.range_succ]
theorem mtrms_get {k : Int} {n i : Nat} (h : i < n) : (mtrms k n)[i]? = some (mkTrm (k + ((7 * i : Nat) : Int))) := by
  rw [List.getElem?_eq_getElem (by simpa using h)]
  simp [mtrms]
def curT (k : Int) (l : List Trm) (i : Nat) : List Trm := mtrms k i ++ l.drop i
theorem curT_length {k : Int} {l : List Trm} {i : Nat} (h : i ≤ l.length) : (curT k l i).length = l.length := by simp [curT]; omega
theorem curT_get {k : Int} {l : List Trm} {i : Nat} (h : i < l.length) : (curT k l i)[i]? = some l[i] := by
  rw [curT, List.getElem?_append_right (by simp)]
  simp [h]
theorem curT_set {k : Int} {l : List Trm} {i : Nat} (h : i < l.length) : (curT k l i).set i (mkTrm (k + ((7 * i : Nat) : Int))) = curT k l (i + 1) := by
  simp only [curT]
  rw [List.set_append, if_neg (by simp), mtrms_length, Nat.sub_self, drop_get h, List.set_cons_zero, mtrms_succ]
  simp

theorem o_markTrms (l : List Trm) (k : Int) (h0 : 0 ≤ k) (hk : k + mkT l ≤ 1099511627776) :
    OCall Try.prog 34 (some (28, l.map Trm.cells)) [.arr 0 0 0 l.length, .v (.int .i64 k)] (some (true, 28, (mtrms k l.length).map Trm.cells)) (.v (.int .i64 (k + mkT l))) := by
  unfold mkT at hk ⊢
  have hl : l.length ≤ 4611686018427387904 := by omega
  refine own_of_code (G := G0) vers0 mixed0 Try.func34 rfl (by decide) (by simp [Try.f34]) 0 (.v _) (by intro s e es h; cases h; exact fr_trm _) ?_
  simp only [Try.f34, G0, inArrs_some]
  simp
  refine aloop (α := Nat) (fun i => ⟨envOf [(0, .arr 0 0 0 l.length), (1, .v (.int .i64 (k + ((7 * i : Nat) : Int)))), (5, .v (.int .i64 i))], ⟨[], arr1 0 0 28 ((curT k l i).map Trm.cells)⟩⟩)
    (fun i => i ≤ l.length) (fun i => l.length - i) 0 (less_envOf (by simp) rfl (by simp [curT, mtrms])) (by simp) ?_
  intro i hi
  by_cases hlt : i < l.length
  · have hw := wrapS hlt hl
    have b : ∀ m : Int, 0 ≤ m → m ≤ 1099511627786 → IntKind.i64.wrap (m + 1) = m + 1 := fun m _ _ => IntWalk.i64_in _ (by omega)
    obtain ⟨m, hm⟩ : ∃ m : Int, m = k + ((7 * i : Nat) : Int) := ⟨_, rfl⟩
    rw [← hm]
    obtain ⟨R, hR⟩ : ∃ R, R = (curT k l i).map Trm.cells := ⟨_, rfl⟩
    have hc : R.length = l.length := by rw [hR, List.length_map, curT_length hi]
    have hRi : R[i]? = some [.v (.string l[i].n), .v (.int .i64 l[i].lo.a), .v (.int .i64 l[i].lo.b), .v (.int .i64 l[i].lo.c), .v (.int .i64 l[i].hi.a), .v (.int .i64 l[i].hi.b), .v (.int .i64 l[i].hi.c)] := by rw [hR, List.getElem?_map, curT_get hlt]; rfl
    have hRi2 : R[i]'(by omega) = [.v (.string l[i].n), .v (.int .i64 l[i].lo.a), .v (.int .i64 l[i].lo.b), .v (.int .i64 l[i].lo.c), .v (.int .i64 l[i].hi.a), .v (.int .i64 l[i].hi.b), .v (.int .i64 l[i].hi.c)] := by
      rw [List.getElem?_eq_getElem (by omega)] at hRi
      exact Option.some.inj hRi
    have hRn : curT k l (i + 1) = (curT k l i).set i (mkTrm m) := by rw [hm]; exact (curT_set hlt).symm
    have hRl : (curT k l (i + 1)).map Trm.cells = R.set i (mkTrm m).cells := by rw [hRn, List.map_set, hR]
    rw [← hR]
    repeat first | rw [acode_seq] | rw [acode_block]
    refine acode_cutE ⟨[], arr1 0 0 28 R⟩ (fun E => E 0 = .arr 0 0 0 l.length ∧ E 1 = .v (.int .i64 (m)) ∧ E 5 = .v (.int .i64 i) ∧ E 9 = .v (.bool true)) ?_ ?_
    · simp [hlt, hc]
    rintro E ⟨z0, z1, z5, z9⟩
    repeat first | rw [kSeq_normal] | rw [acode_seq]
    refine cond_t z9 ?_
    repeat first | rw [acode_skip] | rw [kSeq_normal] | rw [acode_seq] | rw [acode_block]
    refine acode_cutE ⟨[], arr1 0 0 28 (R.set i [.v (.string (markF m)), .v (.int .i64 l[i].lo.a), .v (.int .i64 l[i].lo.b), .v (.int .i64 l[i].lo.c), .v (.int .i64 l[i].hi.a), .v (.int .i64 l[i].hi.b), .v (.int .i64 l[i].hi.c)])⟩ (fun E => E 0 = .arr 0 0 0 l.length ∧ E 1 = .v (.int .i64 (m)) ∧ E 5 = .v (.int .i64 i)) ?_ ?_
    · simp [z0, z1, z5, hlt, hc, hRi, hRi2, arr1_put]
      refine call_p (p_markText _ (by omega)) (by simp) ?_
      simp [z0, z1, z5, hlt, hc, hRi, hRi2, arr1_put]
    rintro E ⟨z0, z1, z5⟩
    repeat first | rw [kSeq_normal] | rw [acode_seq]
    have hb0 : IntKind.i64.wrap (m + 1) = m + 1 := by rw [b _ (by omega) (by omega)]
    refine acode_cutE ⟨[], arr1 0 0 28 (R.set i [.v (.string (markF m)), .v (.int .i64 l[i].lo.a), .v (.int .i64 l[i].lo.b), .v (.int .i64 l[i].lo.c), .v (.int .i64 l[i].hi.a), .v (.int .i64 l[i].hi.b), .v (.int .i64 l[i].hi.c)])⟩ (fun E => E 0 = .arr 0 0 0 l.length ∧ E 1 = .v (.int .i64 (m + 1)) ∧ E 5 = .v (.int .i64 i)) ?_ ?_
    · simp [z0, z1, z5, hlt, hc, hRi, hRi2, arr1_put, hb0]
    rintro E ⟨z0, z1, z5⟩
    repeat first | rw [kSeq_normal] | rw [acode_seq]
    refine acode_cutE ⟨[], arr1 0 0 28 (R.set i [.v (.string (markF m)), .v (.int .i64 (m + 1)), .v (.int .i64 l[i].lo.b), .v (.int .i64 l[i].lo.c), .v (.int .i64 l[i].hi.a), .v (.int .i64 l[i].hi.b), .v (.int .i64 l[i].hi.c)])⟩ (fun E => E 0 = .arr 0 0 0 l.length ∧ E 1 = .v (.int .i64 (m + 1)) ∧ E 5 = .v (.int .i64 i)) ?_ ?_
    · simp [z0, z1, z5, hlt, hc, hRi, hRi2, arr1_put]
    rintro E ⟨z0, z1, z5⟩
    repeat first | rw [kSeq_normal] | rw [acode_seq]
    have hb1 : IntKind.i64.wrap (m + 1 + 1) = m + 2 := by rw [b _ (by omega) (by omega)]; omega
    refine acode_cutE ⟨[], arr1 0 0 28 (R.set i [.v (.string (markF m)), .v (.int .i64 (m + 1)), .v (.int .i64 l[i].lo.b), .v (.int .i64 l[i].lo.c), .v (.int .i64 l[i].hi.a), .v (.int .i64 l[i].hi.b), .v (.int .i64 l[i].hi.c)])⟩ (fun E => E 0 = .arr 0 0 0 l.length ∧ E 1 = .v (.int .i64 (m + 2)) ∧ E 5 = .v (.int .i64 i)) ?_ ?_
    · simp [z0, z1, z5, hlt, hc, hRi, hRi2, arr1_put, hb1]
    rintro E ⟨z0, z1, z5⟩
    repeat first | rw [kSeq_normal] | rw [acode_seq]
    refine acode_cutE ⟨[], arr1 0 0 28 (R.set i [.v (.string (markF m)), .v (.int .i64 (m + 1)), .v (.int .i64 (m + 2)), .v (.int .i64 l[i].lo.c), .v (.int .i64 l[i].hi.a), .v (.int .i64 l[i].hi.b), .v (.int .i64 l[i].hi.c)])⟩ (fun E => E 0 = .arr 0 0 0 l.length ∧ E 1 = .v (.int .i64 (m + 2)) ∧ E 5 = .v (.int .i64 i)) ?_ ?_
    · simp [z0, z1, z5, hlt, hc, hRi, hRi2, arr1_put]
    rintro E ⟨z0, z1, z5⟩
    repeat first | rw [kSeq_normal] | rw [acode_seq]
    have hb2 : IntKind.i64.wrap (m + 2 + 1) = m + 3 := by rw [b _ (by omega) (by omega)]; omega
    refine acode_cutE ⟨[], arr1 0 0 28 (R.set i [.v (.string (markF m)), .v (.int .i64 (m + 1)), .v (.int .i64 (m + 2)), .v (.int .i64 l[i].lo.c), .v (.int .i64 l[i].hi.a), .v (.int .i64 l[i].hi.b), .v (.int .i64 l[i].hi.c)])⟩ (fun E => E 0 = .arr 0 0 0 l.length ∧ E 1 = .v (.int .i64 (m + 3)) ∧ E 5 = .v (.int .i64 i)) ?_ ?_
    · simp [z0, z1, z5, hlt, hc, hRi, hRi2, arr1_put, hb2]
    rintro E ⟨z0, z1, z5⟩
    repeat first | rw [kSeq_normal] | rw [acode_seq]
    refine acode_cutE ⟨[], arr1 0 0 28 (R.set i [.v (.string (markF m)), .v (.int .i64 (m + 1)), .v (.int .i64 (m + 2)), .v (.int .i64 (m + 3)), .v (.int .i64 l[i].hi.a), .v (.int .i64 l[i].hi.b), .v (.int .i64 l[i].hi.c)])⟩ (fun E => E 0 = .arr 0 0 0 l.length ∧ E 1 = .v (.int .i64 (m + 3)) ∧ E 5 = .v (.int .i64 i)) ?_ ?_
    · simp [z0, z1, z5, hlt, hc, hRi, hRi2, arr1_put]
    rintro E ⟨z0, z1, z5⟩
    repeat first | rw [kSeq_normal] | rw [acode_seq]
    have hb3 : IntKind.i64.wrap (m + 3 + 1) = m + 4 := by rw [b _ (by omega) (by omega)]; omega
    refine acode_cutE ⟨[], arr1 0 0 28 (R.set i [.v (.string (markF m)), .v (.int .i64 (m + 1)), .v (.int .i64 (m + 2)), .v (.int .i64 (m + 3)), .v (.int .i64 l[i].hi.a), .v (.int .i64 l[i].hi.b), .v (.int .i64 l[i].hi.c)])⟩ (fun E => E 0 = .arr 0 0 0 l.length ∧ E 1 = .v (.int .i64 (m + 4)) ∧ E 5 = .v (.int .i64 i)) ?_ ?_
    · simp [z0, z1, z5, hlt, hc, hRi, hRi2, arr1_put, hb3]
    rintro E ⟨z0, z1, z5⟩
    repeat first | rw [kSeq_normal] | rw [acode_seq]
    refine acode_cutE ⟨[], arr1 0 0 28 (R.set i [.v (.string (markF m)), .v (.int .i64 (m + 1)), .v (.int .i64 (m + 2)), .v (.int .i64 (m + 3)), .v (.int .i64 (m + 4)), .v (.int .i64 l[i].hi.b), .v (.int .i64 l[i].hi.c)])⟩ (fun E => E 0 = .arr 0 0 0 l.length ∧ E 1 = .v (.int .i64 (m + 4)) ∧ E 5 = .v (.int .i64 i)) ?_ ?_
    · simp [z0, z1, z5, hlt, hc, hRi, hRi2, arr1_put]
    rintro E ⟨z0, z1, z5⟩
    repeat first | rw [kSeq_normal] | rw [acode_seq]
    have hb4 : IntKind.i64.wrap (m + 4 + 1) = m + 5 := by rw [b _ (by omega) (by omega)]; omega
    refine acode_cutE ⟨[], arr1 0 0 28 (R.set i [.v (.string (markF m)), .v (.int .i64 (m + 1)), .v (.int .i64 (m + 2)), .v (.int .i64 (m + 3)), .v (.int .i64 (m + 4)), .v (.int .i64 l[i].hi.b), .v (.int .i64 l[i].hi.c)])⟩ (fun E => E 0 = .arr 0 0 0 l.length ∧ E 1 = .v (.int .i64 (m + 5)) ∧ E 5 = .v (.int .i64 i)) ?_ ?_
    · simp [z0, z1, z5, hlt, hc, hRi, hRi2, arr1_put, hb4]
    rintro E ⟨z0, z1, z5⟩
    repeat first | rw [kSeq_normal] | rw [acode_seq]
    refine acode_cutE ⟨[], arr1 0 0 28 (R.set i [.v (.string (markF m)), .v (.int .i64 (m + 1)), .v (.int .i64 (m + 2)), .v (.int .i64 (m + 3)), .v (.int .i64 (m + 4)), .v (.int .i64 (m + 5)), .v (.int .i64 l[i].hi.c)])⟩ (fun E => E 0 = .arr 0 0 0 l.length ∧ E 1 = .v (.int .i64 (m + 5)) ∧ E 5 = .v (.int .i64 i)) ?_ ?_
    · simp [z0, z1, z5, hlt, hc, hRi, hRi2, arr1_put]
    rintro E ⟨z0, z1, z5⟩
    repeat first | rw [kSeq_normal] | rw [acode_seq]
    have hb5 : IntKind.i64.wrap (m + 5 + 1) = m + 6 := by rw [b _ (by omega) (by omega)]; omega
    refine acode_cutE ⟨[], arr1 0 0 28 (R.set i [.v (.string (markF m)), .v (.int .i64 (m + 1)), .v (.int .i64 (m + 2)), .v (.int .i64 (m + 3)), .v (.int .i64 (m + 4)), .v (.int .i64 (m + 5)), .v (.int .i64 l[i].hi.c)])⟩ (fun E => E 0 = .arr 0 0 0 l.length ∧ E 1 = .v (.int .i64 (m + 6)) ∧ E 5 = .v (.int .i64 i)) ?_ ?_
    · simp [z0, z1, z5, hlt, hc, hRi, hRi2, arr1_put, hb5]
    rintro E ⟨z0, z1, z5⟩
    repeat first | rw [kSeq_normal] | rw [acode_seq]
    refine acode_cutE ⟨[], arr1 0 0 28 (R.set i [.v (.string (markF m)), .v (.int .i64 (m + 1)), .v (.int .i64 (m + 2)), .v (.int .i64 (m + 3)), .v (.int .i64 (m + 4)), .v (.int .i64 (m + 5)), .v (.int .i64 (m + 6))])⟩ (fun E => E 0 = .arr 0 0 0 l.length ∧ E 1 = .v (.int .i64 (m + 6)) ∧ E 5 = .v (.int .i64 i)) ?_ ?_
    · simp [z0, z1, z5, hlt, hc, hRi, hRi2, arr1_put]
    rintro E ⟨z0, z1, z5⟩
    repeat first | rw [kSeq_normal] | rw [acode_seq]
    have hb6 : IntKind.i64.wrap (m + 6 + 1) = m + 7 := by rw [b _ (by omega) (by omega)]; omega
    refine acode_cutE ⟨[], arr1 0 0 28 (R.set i [.v (.string (markF m)), .v (.int .i64 (m + 1)), .v (.int .i64 (m + 2)), .v (.int .i64 (m + 3)), .v (.int .i64 (m + 4)), .v (.int .i64 (m + 5)), .v (.int .i64 (m + 6))])⟩ (fun E => E 0 = .arr 0 0 0 l.length ∧ E 1 = .v (.int .i64 (m + 7)) ∧ E 5 = .v (.int .i64 i)) ?_ ?_
    · simp [z0, z1, z5, hlt, hc, hRi, hRi2, arr1_put, hb6]
    rintro E ⟨z0, z1, z5⟩
    repeat first | rw [kSeq_normal] | rw [acode_seq]
    simp [z5]
    refine ⟨i + 1, less_envOf (by simp [z0, z1, z5, hw, hm]; omega) rfl ?_, by omega, by omega⟩
    rw [hRl]
    intro j
    rfl
  · have e : i = l.length := by omega
    subst e
    simp [curT]

theorem p_markTrms0 (c : Bool) (k : Int) : Pure Try.prog 34 [.sl c [], .v (.int .i64 k)] (.v (.int .i64 k)) := by
  refine pure_of_code (G := (G0)) vers0 mixed0 Try.func34 rfl (by decide) (by simp [Try.f34]) (by simp) fun ver => ?_
  simp only [Try.f34, G0]
  simp
  refine aloop (α := Unit) (fun _ => ⟨envOf [(0, .sl c []), (1, .v (.int .i64 k)), (5, .v (.int .i64 0))], ⟨[], noArrs ver⟩⟩)
    (fun _ => True) (fun _ => 0) () (less_envOf (by simp) rfl fun _ => rfl) trivial ?_
  intro _ _
  simp

set_option maxRecDepth 10000 in
theorem p_heldTrms (c : Bool) (n : Nat) (k : Int) (h0 : 0 ≤ k) (hk : k + ((7 * n : Nat) : Int) ≤ 1099511627776) : Pure Try.prog 36 [trmsAV c (mtrms k n), .v (.int .i64 k)] (.v (.int .i64 (k + ((7 * n : Nat) : Int)))) := by
  have hl : n ≤ 4611686018427387904 := by omega
  refine pure_of_code (G := (G0)) vers0 mixed0 Try.func36 rfl (by decide) (by simp [Try.f36]) (by simp) fun ver => ?_
  simp only [Try.f36, G0]
  simp
  refine aloop (α := Nat) (fun i => ⟨envOf [(0, trmsAV c (mtrms k n)), (1, .v (.int .i64 (k + ((7 * i : Nat) : Int)))), (5, .v (.int .i64 i))], ⟨[], noArrs ver⟩⟩)
    (fun i => i ≤ n) (fun i => n - i) 0 (less_envOf (by simp) rfl fun _ => rfl) (by simp) ?_
  intro i hi
  by_cases hlt : i < n
  · have hw := wrapS hlt hl
    have b : ∀ m : Int, 0 ≤ m → m ≤ 1099511627786 → IntKind.i64.wrap (m + 1) = m + 1 := fun m _ _ => IntWalk.i64_in _ (by omega)
    obtain ⟨m, hm⟩ : ∃ m : Int, m = k + ((7 * i : Nat) : Int) := ⟨_, rfl⟩
    have hg := mtrms_get (k := k) hlt
    rw [← hm] at hg ⊢
    have hgi : ∀ h : i < (mtrms k n).length, (mtrms k n)[i]'h = mkTrm m := fun h => by
      rw [List.getElem?_eq_getElem h] at hg
      exact Option.some.inj hg
    have hb0 := b m (by omega) (by omega)
    have hb1 : IntKind.i64.wrap (m + 1 + 1) = m + 2 := by rw [b _ (by omega) (by omega)]; omega
    have hb2 : IntKind.i64.wrap (m + 2 + 1) = m + 3 := by rw [b _ (by omega) (by omega)]; omega
    have hb3 : IntKind.i64.wrap (m + 3 + 1) = m + 4 := by rw [b _ (by omega) (by omega)]; omega
    have hb4 : IntKind.i64.wrap (m + 4 + 1) = m + 5 := by rw [b _ (by omega) (by omega)]; omega
    have hb5 : IntKind.i64.wrap (m + 5 + 1) = m + 6 := by rw [b _ (by omega) (by omega)]; omega
    have hb6 : IntKind.i64.wrap (m + 6 + 1) = m + 7 := by rw [b _ (by omega) (by omega)]; omega
    simp [hlt]
    refine adraw_all (by kernel_rfl) ?_
    simp [hlt, hgi]
    refine call_p (p_markText _ (by omega)) (by simp) ?_
    simp [hlt, hgi, mkTrm, hb0, hb1, hb2, hb3, hb4, hb5, hb6]
    exact ⟨i + 1, less_envOf (by simp [hw, hm]; omega) rfl fun _ => rfl, by omega, by omega⟩
  · have e : i = n := by omega
    subst e
    simp

end Go.Proofs.Ytokhnmchnfkiiaa.Am
