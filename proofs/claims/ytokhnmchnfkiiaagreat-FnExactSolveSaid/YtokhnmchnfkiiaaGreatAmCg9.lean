import Derived.Test.YtokhnmchnfkiiaaGreatAmCg4
import Derived.Test.YtokhnmchnfkiiaaGreatAmCg5
import Derived.Test.YtokhnmchnfkiiaaGreatAmCg6
import Derived.Test.YtokhnmchnfkiiaaGreatAmCg8
import Derived.Test.YtokhnmchnfkiiaaGreatAmN
import Derived.Test.YtokhnmchnfkiiaaGreatAmShelf
/- Lists of faults as the laws' helpers meet them; the faults of a set, as both sides hand them out. No conditions. -/
namespace Go.Proofs.YtokhnmchnfkiiaaGreat.Am
open Go Go.RowKit Go.Proofs
set_option linter.unusedSimpArgs false
set_option linter.unusedVariables false

theorem e_flt (f : Int × Int × Int) : Pure Tryz.prog 150 [.agg (fltCells f), .agg (fltCells f)] (.v (.bool true)) := by
  refine pure_of_code (G := G0) vers0 mixed0 Tryz.func150 rfl (by decide) (by simp [Tryz.f150]) (by simp) fun ver => ?_
  simp only [Tryz.f150, G0]
  repeat' first
    | with_reducible refine And.intro ?_ ?_
    | with_reducible intro _
    | (first | with_reducible refine adraw_f 2 (by decide +kernel) ?_ | with_reducible refine adraw_f 3 (by decide +kernel) ?_ | with_reducible refine adraw_f 4 (by decide +kernel) ?_ | with_reducible refine adraw_f 5 (by decide +kernel) ?_ | with_reducible refine adraw_f 6 (by decide +kernel) ?_ | with_reducible refine adraw_f 7 (by decide +kernel) ?_ | with_reducible refine adraw_f 8 (by decide +kernel) ?_ | with_reducible refine adraw_f 9 (by decide +kernel) ?_ | with_reducible refine adraw_f 10 (by decide +kernel) ?_ | with_reducible refine adraw_f 11 (by decide +kernel) ?_ | with_reducible refine adraw_cut 0 (by decide +kernel) ?_ | with_reducible refine adraw_cut 1 (by decide +kernel) ?_ | with_reducible refine adraw_cut 2 (by decide +kernel) ?_ | with_reducible refine adraw_cut 3 (by decide +kernel) ?_ | with_reducible refine adraw_cut 4 (by decide +kernel) ?_ | with_reducible refine adraw_cut 5 (by decide +kernel) ?_ | with_reducible refine adraw_cut 6 (by decide +kernel) ?_ | with_reducible refine adraw_cut 7 (by decide +kernel) ?_ | with_reducible refine adraw_cut 8 (by decide +kernel) ?_ | with_reducible refine adraw_cut 9 (by decide +kernel) ?_ | with_reducible refine adraw_all (by kernel_rfl) ?_)
    | simp (config := { contextual := true, maxSteps := 4000000 }) [*, -Int.not_le, -Int.not_lt]

theorem e_flts (c d : Bool) (l : List (Int × Int × Int)) (hl : l.length ≤ 4611686018427387904) : Pure Tryz.prog 87 [fltsAV c l, fltsAV d l] (.v (.bool true)) := by
  refine pure_of_code (G := (G0)) vers0 mixed0 Tryz.func87 rfl (by decide) (by simp [Tryz.f87]) (by simp) fun ver => ?_
  simp only [Tryz.f87, G0]
  simp
  refine aloop (α := Nat) (fun i => ⟨envOf [(0, .sl c (l.map fltCells)), (1, .sl d (l.map fltCells)), (5, .v (.int .i64 i))], ⟨[], noArrs ver⟩⟩)
    (fun i => i ≤ l.length) (fun i => l.length - i) 0 (less_envOf (by simp) rfl fun _ => rfl) (by simp) ?_
  intro i hi
  by_cases hlt : i < l.length
  · have hw := wrapS hlt hl
    simp [hlt]
    refine adraw_all (by kernel_rfl) ?_
    simp [hlt]
    refine call_p (e_flt l[i]) (by simp) ?_
    simp
    exact ⟨i + 1, less_envOf (by simp [hw]) rfl fun _ => rfl, by omega, by omega⟩
  · simp [hlt]

theorem e_fltsRes (c d : Bool) (l : List (Int × Int × Int)) (hl : l.length ≤ 4611686018427387904) (a : Int) : Pure Tryz.prog 32 [.agg [.v (.int .i64 a), fltsAV c l], .agg [.v (.int .i64 a), fltsAV d l]] (.v (.bool true)) := by
  refine pure_of_code (G := (G0)) vers0 mixed0 Tryz.func32 rfl (by decide) (by simp [Tryz.f32]) (by simp) fun ver => ?_
  simp only [Tryz.f32, G0]
  simp
  refine call_p (e_flts c d l hl) (by simp) ?_
  simp

def mkFlt (k : Int) : Int × Int × Int := (k, k + 1, k + 2)
def mflts (k : Int) (n : Nat) : List (Int × Int × Int) := (List.range n).map fun i => mkFlt (k + ((3 * i : Nat) : Int))
@[simp] theorem mflts_length (k : Int) (n : Nat) : (mflts k n).length = n := by simp [mflts]
theorem mflts_succ (k : Int) (n : Nat) : mflts k (n + 1) = mflts k n ++ [mkFlt (k + ((3 * n : Nat) : Int))] := by simp [mflts, List.range_succ]
theorem mflts_get {k : Int} {n i : Nat} (h : i < n) : (mflts k n)[i]? = some (mkFlt (k + ((3 * i : Nat) : Int))) := by
  rw [List.getElem?_eq_getElem (by simpa using h)]
  simp [mflts]
def curF (k : Int) (l : List (Int × Int × Int)) (i : Nat) : List (Int × Int × Int) := mflts k i ++ l.drop i
theorem curF_length {k : Int} {l : List (Int × Int × Int)} {i : Nat} (h : i ≤ l.length) : (curF k l i).length = l.length := by simp [curF]; omega
theorem curF_get {k : Int} {l : List (Int × Int × Int)} {i : Nat} (h : i < l.length) : (curF k l i)[i]? = some l[i] := by
  rw [curF, List.getElem?_append_right (by simp)]
  simp [h]
theorem curF_set {k : Int} {l : List (Int × Int × Int)} {i : Nat} (h : i < l.length) : (curF k l i).set i (mkFlt (k + ((3 * i : Nat) : Int))) = curF k l (i + 1) := by
  simp only [curF]
  rw [List.set_append, if_neg (by simp), mflts_length, Nat.sub_self, drop_get h, List.set_cons_zero, mflts_succ]
  simp

set_option maxRecDepth 10000 in
theorem o_markFlts (l : List (Int × Int × Int)) (k : Int) (h0 : 0 ≤ k) (hk : k + ((3 * l.length : Nat) : Int) ≤ 1099511627776) :
    OCall Tryz.prog 88 (some (159, l.map fltCells)) [.arr 0 0 0 l.length, .v (.int .i64 k)] (some (true, 159, (mflts k l.length).map fltCells)) (.v (.int .i64 (k + ((3 * l.length : Nat) : Int)))) := by
  have hl : l.length ≤ 4611686018427387904 := by omega
  refine own_of_code (G := G0) vers0 mixed0 Tryz.func88 rfl (by decide) (by simp [Tryz.f88]) 0 (.v _) (by intro s e es h; cases h; exact fr_flt _) ?_
  simp only [Tryz.f88, G0, inArrs_some]
  simp
  refine aloop (α := Nat) (fun i => ⟨envOf [(0, .arr 0 0 0 l.length), (1, .v (.int .i64 (k + ((3 * i : Nat) : Int)))), (5, .v (.int .i64 i))], ⟨[], arr1 0 0 159 ((curF k l i).map fltCells)⟩⟩)
    (fun i => i ≤ l.length) (fun i => l.length - i) 0 (less_envOf (by simp) rfl (by simp [curF, mflts])) (by simp) ?_
  intro i hi
  by_cases hlt : i < l.length
  · have hw := wrapS hlt hl
    have b : ∀ m : Int, 0 ≤ m → m ≤ 1099511627786 → IntKind.i64.wrap (m + 1) = m + 1 := fun m _ _ => IntWalk.i64_in _ (by omega)
    obtain ⟨m, hm⟩ : ∃ m : Int, m = k + ((3 * i : Nat) : Int) := ⟨_, rfl⟩
    rw [← hm]
    obtain ⟨R, hR⟩ : ∃ R, R = (curF k l i).map fltCells := ⟨_, rfl⟩
    have hc : R.length = l.length := by rw [hR, List.length_map, curF_length hi]
    have hRi : R[i]? = some [.v (.int .i64 l[i].1), .v (.int .i64 l[i].2.1), .v (.int .i64 l[i].2.2)] := by rw [hR, List.getElem?_map, curF_get hlt]; rfl
    have hRi2 : R[i]'(by omega) = [.v (.int .i64 l[i].1), .v (.int .i64 l[i].2.1), .v (.int .i64 l[i].2.2)] := by
      rw [List.getElem?_eq_getElem (by omega)] at hRi
      exact Option.some.inj hRi
    have hRn : curF k l (i + 1) = (curF k l i).set i (mkFlt m) := by rw [hm]; exact (curF_set hlt).symm
    have hRl : (curF k l (i + 1)).map fltCells = R.set i (fltCells (mkFlt m)) := by rw [hRn, List.map_set, hR]
    rw [← hR]
    repeat first | rw [acode_seq] | rw [acode_block]
    refine acode_cutE ⟨[], arr1 0 0 159 R⟩ (fun E => E 0 = .arr 0 0 0 l.length ∧ E 1 = .v (.int .i64 (m)) ∧ E 5 = .v (.int .i64 i) ∧ E 9 = .v (.bool true)) ?_ ?_
    · simp [hlt, hc]
    rintro E ⟨z0, z1, z5, z9⟩
    repeat first | rw [kSeq_normal] | rw [acode_seq]
    refine cond_t z9 ?_
    repeat first | rw [acode_skip] | rw [kSeq_normal] | rw [acode_seq] | rw [acode_block]
    refine acode_cutE ⟨[], arr1 0 0 159 (R.set i [.v (.int .i64 (m)), .v (.int .i64 l[i].2.1), .v (.int .i64 l[i].2.2)])⟩ (fun E => E 0 = .arr 0 0 0 l.length ∧ E 1 = .v (.int .i64 (m)) ∧ E 5 = .v (.int .i64 i)) ?_ ?_
    · simp [z0, z1, z5, hlt, hc, hRi, hRi2, arr1_put]
    rintro E ⟨z0, z1, z5⟩
    repeat first | rw [kSeq_normal] | rw [acode_seq]
    have hb0 : IntKind.i64.wrap (m + 1) = m + 1 := by rw [b _ (by omega) (by omega)]
    refine acode_cutE ⟨[], arr1 0 0 159 (R.set i [.v (.int .i64 (m)), .v (.int .i64 l[i].2.1), .v (.int .i64 l[i].2.2)])⟩ (fun E => E 0 = .arr 0 0 0 l.length ∧ E 1 = .v (.int .i64 (m + 1)) ∧ E 5 = .v (.int .i64 i)) ?_ ?_
    · simp [z0, z1, z5, hlt, hc, hRi, hRi2, arr1_put, hb0]
    rintro E ⟨z0, z1, z5⟩
    repeat first | rw [kSeq_normal] | rw [acode_seq]
    refine acode_cutE ⟨[], arr1 0 0 159 (R.set i [.v (.int .i64 (m)), .v (.int .i64 (m + 1)), .v (.int .i64 l[i].2.2)])⟩ (fun E => E 0 = .arr 0 0 0 l.length ∧ E 1 = .v (.int .i64 (m + 1)) ∧ E 5 = .v (.int .i64 i)) ?_ ?_
    · simp [z0, z1, z5, hlt, hc, hRi, hRi2, arr1_put]
    rintro E ⟨z0, z1, z5⟩
    repeat first | rw [kSeq_normal] | rw [acode_seq]
    have hb1 : IntKind.i64.wrap (m + 1 + 1) = m + 2 := by rw [b _ (by omega) (by omega)]; omega
    refine acode_cutE ⟨[], arr1 0 0 159 (R.set i [.v (.int .i64 (m)), .v (.int .i64 (m + 1)), .v (.int .i64 l[i].2.2)])⟩ (fun E => E 0 = .arr 0 0 0 l.length ∧ E 1 = .v (.int .i64 (m + 2)) ∧ E 5 = .v (.int .i64 i)) ?_ ?_
    · simp [z0, z1, z5, hlt, hc, hRi, hRi2, arr1_put, hb1]
    rintro E ⟨z0, z1, z5⟩
    repeat first | rw [kSeq_normal] | rw [acode_seq]
    refine acode_cutE ⟨[], arr1 0 0 159 (R.set i [.v (.int .i64 (m)), .v (.int .i64 (m + 1)), .v (.int .i64 (m + 2))])⟩ (fun E => E 0 = .arr 0 0 0 l.length ∧ E 1 = .v (.int .i64 (m + 2)) ∧ E 5 = .v (.int .i64 i)) ?_ ?_
    · simp [z0, z1, z5, hlt, hc, hRi, hRi2, arr1_put]
    rintro E ⟨z0, z1, z5⟩
    repeat first | rw [kSeq_normal] | rw [acode_seq]
    have hb2 : IntKind.i64.wrap (m + 2 + 1) = m + 3 := by rw [b _ (by omega) (by omega)]; omega
    refine acode_cutE ⟨[], arr1 0 0 159 (R.set i [.v (.int .i64 (m)), .v (.int .i64 (m + 1)), .v (.int .i64 (m + 2))])⟩ (fun E => E 0 = .arr 0 0 0 l.length ∧ E 1 = .v (.int .i64 (m + 3)) ∧ E 5 = .v (.int .i64 i)) ?_ ?_
    · simp [z0, z1, z5, hlt, hc, hRi, hRi2, arr1_put, hb2]
    rintro E ⟨z0, z1, z5⟩
    repeat first | rw [kSeq_normal] | rw [acode_seq]
    simp [z5]
    refine ⟨i + 1, less_envOf (by simp [z0, z1, z5, hw, hm]; omega) rfl ?_, by omega, by omega⟩
    rw [hRl]
    intro j
    rfl
  · have e : i = l.length := by omega
    subst e
    simp [curF]

theorem p_markFlts0 (c : Bool) (k : Int) : Pure Tryz.prog 88 [.sl c [], .v (.int .i64 k)] (.v (.int .i64 k)) := by
  refine pure_of_code (G := (G0)) vers0 mixed0 Tryz.func88 rfl (by decide) (by simp [Tryz.f88]) (by simp) fun ver => ?_
  simp only [Tryz.f88, G0]
  simp
  refine aloop (α := Unit) (fun _ => ⟨envOf [(0, .sl c []), (1, .v (.int .i64 k)), (5, .v (.int .i64 0))], ⟨[], noArrs ver⟩⟩)
    (fun _ => True) (fun _ => 0) () (less_envOf (by simp) rfl fun _ => rfl) trivial ?_
  intro _ _
  simp

theorem p_heldFlts (c : Bool) (n : Nat) (k : Int) (h0 : 0 ≤ k) (hk : k + ((3 * n : Nat) : Int) ≤ 1099511627776) : Pure Tryz.prog 89 [fltsAV c (mflts k n), .v (.int .i64 k)] (.v (.int .i64 (k + ((3 * n : Nat) : Int)))) := by
  have hl : n ≤ 4611686018427387904 := by omega
  refine pure_of_code (G := (G0)) vers0 mixed0 Tryz.func89 rfl (by decide) (by simp [Tryz.f89]) (by simp) fun ver => ?_
  simp only [Tryz.f89, G0]
  simp
  refine aloop (α := Nat) (fun i => ⟨envOf [(0, fltsAV c (mflts k n)), (1, .v (.int .i64 (k + ((3 * i : Nat) : Int)))), (5, .v (.int .i64 i))], ⟨[], noArrs ver⟩⟩)
    (fun i => i ≤ n) (fun i => n - i) 0 (less_envOf (by simp) rfl fun _ => rfl) (by simp) ?_
  intro i hi
  by_cases hlt : i < n
  · have hw := wrapS hlt hl
    have b : ∀ m : Int, 0 ≤ m → m ≤ 1099511627786 → IntKind.i64.wrap (m + 1) = m + 1 := fun m _ _ => IntWalk.i64_in _ (by omega)
    obtain ⟨m, hm⟩ : ∃ m : Int, m = k + ((3 * i : Nat) : Int) := ⟨_, rfl⟩
    have hg := mflts_get (k := k) hlt
    rw [← hm] at hg ⊢
    have hgi : ∀ h : i < (mflts k n).length, (mflts k n)[i]'h = mkFlt m := fun h => by
      rw [List.getElem?_eq_getElem h] at hg
      exact Option.some.inj hg
    have hb0 := b m (by omega) (by omega)
    have hb1 : IntKind.i64.wrap (m + 1 + 1) = m + 2 := by rw [b _ (by omega) (by omega)]; omega
    have hb2 : IntKind.i64.wrap (m + 2 + 1) = m + 3 := by rw [b _ (by omega) (by omega)]; omega
    simp [hlt, hgi, mkFlt, hb0, hb1, hb2]
    exact ⟨i + 1, less_envOf (by simp [hw, hm]; omega) rfl fun _ => rfl, by omega, by omega⟩
  · have e : i = n := by omega
    subst e
    simp

theorem o_markFltsRes (l : List (Int × Int × Int)) (k a : Int) (h0 : 0 ≤ k) (hk : k + ((3 * l.length : Nat) : Int) ≤ 1099511627776) :
    OCall Tryz.prog 33 (some (159, l.map fltCells)) [.agg [.v (.int .i64 a), .arr 0 0 0 l.length], .v (.int .i64 k)] (some (true, 159, (mflts k l.length).map fltCells)) (.v (.int .i64 (k + 3 * (l.length : Int)))) := by
  have hm := o_markFlts l k h0 hk
  refine own_of_code (G := G0) vers0 mixed0 Tryz.func33 rfl (by decide) (by simp [Tryz.f33]) 0 (.v _) (by intro s e es h; cases h; exact fr_flt _) ?_
  simp only [Tryz.f33, G0, inArrs_some]
  simp
  refine call_s 0 0 159 (l.map fltCells) (by simp) hm (by simp) (by simp) (fr_flt _) ?_
  simp [arr1_put]

theorem p_markFltsRes0 (c : Bool) (k a : Int) : Pure Tryz.prog 33 [.agg [.v (.int .i64 a), .sl c []], .v (.int .i64 k)] (.v (.int .i64 k)) := by
  refine pure_of_code (G := (G0)) vers0 mixed0 Tryz.func33 rfl (by decide) (by simp [Tryz.f33]) (by simp) fun ver => ?_
  simp only [Tryz.f33, G0]
  simp
  refine call_p (p_markFlts0 c k) (by simp) ?_
  simp

theorem p_heldFltsRes (c : Bool) (n : Nat) (k a : Int) (h0 : 0 ≤ k) (hk : k + ((3 * n : Nat) : Int) ≤ 1099511627776) : Pure Tryz.prog 34 [.agg [.v (.int .i64 a), fltsAV c (mflts k n)], .v (.int .i64 k)] (.v (.int .i64 (k + 3 * (n : Int)))) := by
  refine pure_of_code (G := (G0)) vers0 mixed0 Tryz.func34 rfl (by decide) (by simp [Tryz.f34]) (by simp) fun ver => ?_
  simp only [Tryz.f34, G0]
  simp
  refine call_p (p_heldFlts c n k h0 hk) (by simp) ?_
  simp [show ¬ k + 3 * (n : Int) < 0 by omega]

theorem p_heldFltsRes0 (c : Bool) (k a : Int) (h0 : 0 ≤ k) (hk : k ≤ 1099511627776) : Pure Tryz.prog 34 [.agg [.v (.int .i64 a), .sl c []], .v (.int .i64 k)] (.v (.int .i64 k)) := by
  have := p_heldFltsRes c 0 k a h0 (by simpa using hk)
  simpa [mflts, fltsAV] using this

theorem stayc_flt (f : Int × Int × Int) : ∀ c ∈ fltCells f, c.Stay := fun c hc => by simp at hc; rcases hc with rfl | rfl | rfl <;> exact .v _
theorem oldc_flt (f : Int × Int × Int) : ∀ c ∈ fltCells f, Olds c c := fun c hc => by simp at hc; rcases hc with rfl | rfl | rfl <;> exact .v _
@[simp] theorem stay_flts (l : List (Int × Int × Int)) : (AV.sl true (l.map fltCells)).Stay = True := eq_true (stay_rows l stayc_flt)
@[simp] theorem olds_flts (c : Bool) (l : List (Int × Int × Int)) : Olds (.sl c (l.map fltCells)) (.sl true (l.map fltCells)) = True := eq_true (olds_rows c l oldc_flt)

/-- What FaultsOf answers: the code, the faults. -/
noncomputable def faultsF (c : List Pk) (s : List Int) : List (Int × Int × Int) := if setF c s = 0 then faultsR c s [] s else []

theorem p_faultsOf (a b k : Bool) (c : List Pk) (hc : c.length ≤ 4611686018427387904) (hb : ∀ p ∈ c, p.Len) (s : List Int) (hs : s.length ≤ 4611686018427387904) : Pure Tryz.prog 30 [pksAV a b c, intsAV k s] (.agg [.v (.int .i64 (setF c s)), fltsAV false (faultsF c s)]) := by
  refine pure_of_code (G := (G0)) vers0 mixed0 Tryz.func30 rfl (by decide) (by simp [Tryz.f30]) (by simp) fun ver => ?_
  simp only [Tryz.f30, G0]
  simp
  refine call_p (p_setFault a b k c hc hb s hs) (by simp) ?_
  by_cases h : setF c s = 0
  · obtain ⟨h1, h2, h3, h4⟩ := setF_facts h
    simp [h]
    refine call_p (p_faults a b k c h1 s h3 h2 h4) (by simp) ?_
    simp [faultsF, h]
  · simp [h, faultsF]

theorem q_faultsOfA (a b k : Bool) (c : List Pk) (hc : c.length ≤ 4611686018427387904) (hb : ∀ p ∈ c, p.Len) (s : List Int) (hs : s.length ≤ 4611686018427387904) (h : setF c s ≠ 0) : Pure Tryz.prog 31 [pksAV a b c, intsAV k s] (.agg [.v (.int .i64 (setF c s)), .sl false []]) := by
  refine pure_of_code (G := (G0)) vers0 mixed0 Tryz.func31 rfl (by decide) (by simp [Tryz.f31]) (by simp) fun ver => ?_
  simp only [Tryz.f31, G0]
  simp
  refine call_p (q_setFault a b k c hc hb s hs) (by simp) ?_
  simp [h]

theorem q_faultsOfB (a b k : Bool) (c : List Pk) (hc : c.length ≤ 4611686018427387904) (hb : ∀ p ∈ c, p.Len) (s : List Int) (hs : s.length ≤ 4611686018427387904) (h : setF c s = 0) :
    OCall Tryz.prog 31 none [pksAV a b c, intsAV k s] (some (false, 159, (faultsR c s [] s).map fltCells)) (.agg [.v (.int .i64 0), .arr 0 0 0 (faultsR c s [] s).length]) := by
  obtain ⟨h1, h2, h3, h4⟩ := setF_facts h
  have hq := q_faultsO a b k c h1 s h3 h2 h4
  refine own_of_code (G := Go1 15) (verso 15) mixed0 Tryz.func31 rfl (by decide) (by simp [Tryz.f31]) 15 (.agg _ (by simp)) (by intro s e es h; cases h; exact fr_flt _) ?_
  simp only [Tryz.f31, Go1, inArrs]
  simp
  refine call_p (q_setFault a b k c hc hb s hs) (by simp) ?_
  simp [h]
  refine call_n 15 hq (by simp) ?_
  simp

end Go.Proofs.YtokhnmchnfkiiaaGreat.Am

/- The bytes of a package, as both sides make them; lists of bytes as the laws' helpers meet them. No conditions. -/
namespace Go.Proofs.YtokhnmchnfkiiaaGreat.Am
open Go Go.RowKit Go.Proofs
set_option linter.unusedSimpArgs false
set_option linter.unusedVariables false

theorem bAt_bd (x : ByteArray) (i : Nat) : 0 ≤ bAt x i ∧ bAt x i ≤ 255 := by
  unfold bAt
  have := (x.data.toList.getD i 0).toNat_lt
  omega
def nsum (x : ByteArray) : Nat → Int
  | 0 => 0
  | i + 1 => nsum x i + bAt x i
theorem nsum_bd (x : ByteArray) : ∀ i, 0 ≤ nsum x i ∧ nsum x i ≤ 255 * i
  | 0 => by simp [nsum]
  | i + 1 => by
    have h1 := nsum_bd x i
    have h2 := bAt_bd x i
    simp only [nsum]
    omega
/-- What is summed up of a package's version and of the first bytes of its name. -/
def bsum (p : Pk) (i : Nat) : Int := p.v.a + p.v.b + p.v.c + nsum p.n i
theorem bsum_zero (p : Pk) : bsum p 0 = p.v.a + p.v.b + p.v.c := by simp [bsum, nsum]
theorem bsum_succ (p : Pk) (i : Nat) : bsum p (i + 1) = bsum p i + bAt p.n i := by simp only [bsum, nsum]; omega
def bseq : Int → Nat → List Int
  | _, 0 => []
  | b, k + 1 => b :: bseq ((31 * b + 7) % 256) k
theorem bseq_len : ∀ (k : Nat) (b : Int), (bseq b k).length = k
  | 0, _ => rfl
  | k + 1, b => by simp [bseq, bseq_len k]
def bytesP (p : Pk) : List Int := bseq (bsum p p.n.size % 256) p.s.toNat
theorem packF_vals {p : Pk} (h : packF p = 0) : (0 ≤ p.v.a ∧ p.v.a ≤ 999) ∧ (0 ≤ p.v.b ∧ p.v.b ≤ 999) ∧ (0 ≤ p.v.c ∧ p.v.c ≤ 999) ∧ (1 ≤ p.s ∧ p.s ≤ 200) ∧ p.n.size ≤ 12 := by
  unfold packF at h
  split at h
  · rename_i h1; exact (h1 h).elim
  rename_i h1
  split at h
  · rename_i h2; exact (h2 h).elim
  rename_i h2
  split at h
  · cases h
  rename_i h3
  simp only [verF, versionFault, ne_eq, Decidable.not_not, inF, Bool.and_eq_true, decide_eq_true_eq] at h2
  split at h2
  · rename_i h4
    simp only [inF, Bool.and_eq_true, Bool.not_eq_false, decide_eq_true_eq] at h3
    simp only [nameFault, ne_eq, Decidable.not_not] at h1
    split at h1
    · cases h1
    · rename_i h5
      refine ⟨by omega, by omega, by omega, by omega, by omega⟩
  · cases h2
theorem bytesP_len {p : Pk} (h : packF p = 0) : (bytesP p).length = p.s.toNat ∧ (bytesP p).length ≤ 200 := by
  obtain ⟨_, _, _, h4, _⟩ := packF_vals h
  rw [bytesP, bseq_len]
  exact ⟨rfl, by omega⟩

noncomputable def bytesF (p : Pk) : List Int := if packF p = 0 then bytesP p else []

def mbytes (k : Int) (n : Nat) : List Int := (List.range n).map fun i => (k + (i : Nat)) % 256
@[simp] theorem mbytes_length (k : Int) (n : Nat) : (mbytes k n).length = n := by simp [mbytes]
@[simp] theorem mbytes_getElem (k : Int) (n i : Nat) (h : i < (mbytes k n).length) : (mbytes k n)[i] = (k + (i : Nat)) % 256 := by simp [mbytes]
theorem mbytes_succ (k : Int) (n : Nat) : mbytes k (n + 1) = mbytes k n ++ [(k + (n : Nat)) % 256] := by simp [mbytes, List.range_succ]
def curB (k : Int) (l : List Int) (i : Nat) : List Int := mbytes k i ++ l.drop i
theorem curB_length (k : Int) (l : List Int) (i : Nat) (h : i ≤ l.length) : (curB k l i).length = l.length := by simp [curB]; omega
theorem curB_set {k : Int} {l : List Int} {i : Nat} (h : i < l.length) : (curB k l i).set i ((k + (i : Nat)) % 256) = curB k l (i + 1) := by
  simp only [curB]
  rw [List.set_append, if_neg (by simp), mbytes_length, Nat.sub_self, drop_get h, List.set_cons_zero, mbytes_succ]
  simp

end Go.Proofs.YtokhnmchnfkiiaaGreat.Am

/- Lists of names: sorted, one of each. No conditions. -/
namespace Go.Proofs.YtokhnmchnfkiiaaGreat.Am
open Go Go.RowKit Go.Proofs
set_option linter.unusedSimpArgs false
set_option linter.unusedVariables false

theorem leS_le (a b : ByteArray) : leS a b = decide (a.data.toList ≤ b.data.toList) := by
  rw [leS, sLt_eq, ← decide_not]
  exact decide_eq_decide.2 List.not_lt

theorem sortS_lists (l : List ByteArray) : (l.map fun s => s.data.toList).mergeSort (fun x y => decide (x ≤ y)) = (sortS l).map fun s => s.data.toList := by
  unfold sortS
  exact (List.map_mergeSort fun a _ b _ => leS_le a b).symm

theorem o_sortStr (l : List ByteArray) (hl : l.length < 4611686018427387904) :
    OCall Tryz.prog 232 (some (9, l.map strCells)) [.arr 0 0 0 l.length] (some (true, 9, (sortS l).map strCells)) (.tup []) := by
  have h := o_sort (P := Tryz.prog) (f := 232) (e := 9) encStr (fun _ => rfl) (by kernel_rfl) (by kernel_rfl) (l.map fun s => s.data.toList) ((sortS l).map fun s => s.data.toList) (by simp [sortS_length])
    (fun _ p cap w => AnyG.slices_Sort_string_none sortStr p cap w)
    (fun blk off cap w hH hb => by
      have := AnyG.slices_Sort_string sortStr blk off cap (l.map fun s => s.data.toList) w hH hb (by simpa using hl)
      rw [sortS_lists] at this
      exact this)
  simpa [List.map_map, Function.comp_def] using h

theorem compS_snoc : ∀ (l : List ByteArray) (a b : ByteArray), compS (l ++ [a, b]) = if a = b then compS (l ++ [a]) else compS (l ++ [a]) ++ [b]
  | [], a, b => by
    by_cases h : a = b <;> simp [compS, h]
  | [x], a, b => by
    have ih := compS_snoc [] a b
    simp only [List.nil_append] at ih
    simp only [List.cons_append, List.nil_append, compS, ih]
    by_cases h1 : x = a <;> by_cases h2 : a = b <;> simp [h1, h2]
  | x :: y :: l, a, b => by
    have ih := compS_snoc (y :: l) a b
    simp only [List.cons_append] at ih ⊢
    rw [compS, ih]
    conv => rhs; rw [compS]
    by_cases h1 : x = y <;> by_cases h2 : a = b <;> simp [h1, h2]
theorem compS_take {l : List ByteArray} {j : Nat} (h0 : 0 < j) (h : j < l.length) : compS (l.take (j + 1)) = if l[j - 1] = l[j] then compS (l.take j) else compS (l.take j) ++ [l[j]] := by
  have e1 : l.take j = l.take (j - 1) ++ [l[j - 1]] := by
    have := List.take_succ_eq_append_getElem (l := l) (i := j - 1) (by omega)
    rw [show j - 1 + 1 = j by omega] at this
    exact this
  rw [List.take_succ_eq_append_getElem h, e1, List.append_assoc]
  exact compS_snoc _ _ _
theorem compS_all : ∀ {l : List ByteArray}, (∀ j (h : j < l.length), 0 < j → l[j - 1] ≠ l[j]) → compS l = l
  | [], _ => rfl
  | [a], _ => rfl
  | a :: b :: l, h => by
    have h1 : a ≠ b := h 1 (by simp) (by omega)
    rw [compS, if_neg h1, compS_all fun j hj h0 => ?_]
    have := h (j + 1) (by simpa using hj) (by omega)
    simp only [Nat.add_sub_cancel, List.getElem_cons_succ] at this
    cases j with
    | zero => omega
    | succ j => simpa using this

theorem o_compact (l : List ByteArray) (hl : l.length ≤ 4611686018427387904) :
    OCall Tryz.prog 233 (some (9, l.map strCells)) [.arr 0 0 0 l.length] (some (false, 9, (compS l).map strCells)) (.arr 0 0 0 (compS l).length) := by
  refine own_of_code (G := Go1 59) (verso 59) mixed0 Tryz.func233 rfl (by decide) (by simp [Tryz.f233]) 0 .dead (by intro s e es h; cases h; exact fr_str _) ?_
  simp only [Tryz.f233, Go1, inArrs_some]
  by_cases h2 : l.length < 2
  · have hc : compS l = l := compS_all fun j hj h0 => by omega
    have h2a : (l.length : Int) < 2 := by omega
    have h2b : ¬ (2 : Int) ≤ l.length := by omega
    rw [hc]
    simp [h2a, h2b]
  have h2a : ¬ (l.length : Int) < 2 := by omega
  have h2b : (2 : Int) ≤ l.length := by omega
  simp [h2a, h2b]
  refine aloop (α := Nat) (fun k => ⟨envOf [(0, .arr 0 0 0 l.length), (3, .v (.int .i64 k))], ⟨[], arr1 0 0 9 (l.map strCells)⟩⟩)
    (fun k => 0 < k ∧ k ≤ l.length ∧ ∀ j (h : j < l.length), 0 < j → j < k → l[j - 1] ≠ l[j]) (fun k => l.length - k) 1 (less_envOf (by simp) rfl fun _ => rfl) ⟨by omega, by omega, fun j hj h0 h1 => by omega⟩ ?_
  rintro k ⟨hk0, hkl, hadj⟩
  by_cases hlt : k < l.length
  · have hw := wrapS hlt hl
    have hw1 : IntKind.i64.wrap ((k : Int) - 1) = ((k - 1 : Nat) : Int) := by rw [IntWalk.i64_in _ (by omega)]; omega
    have hk1 : k - 1 < l.length := by omega
    simp [hlt]
    refine adraw_all (by kernel_rfl) ?_
    simp [hlt, hw1, hk1]
    by_cases he : l[k] = l[k - 1]
    · have hck : compS (l.take k) = l.take k := compS_all fun j hj h0 => by
        simp only [List.length_take] at hj
        simp only [List.getElem_take]
        exact hadj j (by omega) h0 (by omega)
      have hck1 : compS (l.take (k + 1)) = l.take k := by rw [compS_take hk0 hlt, if_pos he.symm, hck]
      simp [he, hkl]
      refine aloop (α := Nat × Nat × List ByteArray) (fun d => ⟨envOf [(0, .arr 0 0 0 l.length), (3, .v (.int .i64 d.1)), (4, .arr 0 0 k (l.length - k)), (5, .v (.int .i64 d.2.1))], ⟨[], arr1 0 0 9 (d.2.2.map strCells)⟩⟩)
        (fun d => d.2.2.length = l.length ∧ 0 < d.2.1 ∧ d.1 + 1 ≤ k + d.2.1 ∧ k + d.2.1 ≤ l.length ∧ d.2.2.take d.1 = compS (l.take (k + d.2.1)) ∧ d.2.2.drop (k + d.2.1 - 1) = l.drop (k + d.2.1 - 1)) (fun d => l.length - d.2.1) (k, 1, l) (less_envOf (by simp) rfl fun _ => rfl) ⟨rfl, Nat.one_pos, Nat.le_refl _, hlt, hck1.symm, rfl⟩ ?_
      rintro ⟨a, b, m⟩ ⟨e1, e2, e3, e4, e5, e6⟩
      simp only at e1 e2 e3 e4 e5 e6 ⊢
      by_cases hb : b < l.length - k
      · have hwb := wrapS hb (by omega)
        have hwa : IntKind.i64.wrap ((a : Int) + 1) = ((a + 1 : Nat) : Int) := by rw [IntWalk.i64_in _ (by omega)]; omega
        have hwb1 : IntKind.i64.wrap ((b : Int) - 1) = ((b - 1 : Nat) : Int) := by rw [IntWalk.i64_in _ (by omega)]; omega
        have hkb : k + b < l.length := by omega
        have hkb1 : k + (b - 1) < l.length := by omega
        have g1 : m[k + b]'(by omega) = l[k + b] := by
          have := congrArg (fun z => z[1]?) e6
          simp only [List.getElem?_drop] at this
          rw [show k + b - 1 + 1 = k + b by omega, List.getElem?_eq_getElem (by omega), List.getElem?_eq_getElem hkb] at this
          exact Option.some.inj this
        have g0 : m[k + (b - 1)]'(by omega) = l[k + (b - 1)] := by
          have := congrArg (fun z => z[0]?) e6
          simp only [List.getElem?_drop] at this
          rw [show k + b - 1 + 0 = k + (b - 1) by omega, List.getElem?_eq_getElem (by omega), List.getElem?_eq_getElem hkb1] at this
          exact Option.some.inj this
        have htk := compS_take (l := l) (j := k + b) (by omega) hkb
        have hd : m.drop (k + b) = l.drop (k + b) := by
          have := congrArg (List.drop 1) e6
          simpa [List.drop_drop, show k + b - 1 + 1 = k + b by omega] using this
        have hbl : (b : Int) < (l.length : Int) - (k : Int) := by omega
        have hbc : (b : Int) < ((l.length - k : Nat) : Int) := by omega
        have hb1 : b - 1 < l.length - k := by omega
        have e7 : l[k + b - 1] = l[k + (b - 1)] := by congr 1; omega
        simp [hb, hbl, hbc, e1]
        refine adraw_all (by kernel_rfl) ?_
        simp [hb, hbl, hbc, hwb1, hb1, e1, hkb, hkb1, g1, g0]
        by_cases hq : l[k + b] = l[k + (b - 1)]
        · rw [if_pos (by rw [e7]; exact hq.symm)] at htk
          simp [hq]
          refine ⟨a, b + 1, m, less_envOf (by simp [hwb]) rfl fun _ => rfl, ⟨e1, by omega, by omega, by omega, by rw [e5]; exact htk.symm, by simpa using hd⟩, by omega⟩
        · rw [if_neg (by rw [e7]; exact fun h => hq h.symm)] at htk
          have ha : a < l.length := by omega
          have ham : a < m.length := by omega
          simp [hq, ha, ham, e1, hb, hkb, g1]
          refine ⟨a + 1, b + 1, m.set a l[k + b], less_envOf (by simp [hwb, hwa]) rfl ?_, ⟨by simpa using e1, by omega, by omega, by omega, ?_, ?_⟩, by omega⟩
          · intro j
            by_cases hj : j = 0 <;> simp [hj, arr1]
          · have hlen : (m.take a).length = a := by simp; omega
            rw [List.take_set, List.take_succ_eq_append_getElem ham, List.set_append, if_neg (by omega), hlen, Nat.sub_self, List.set_cons_zero, e5]
            exact htk.symm
          · rw [List.drop_set_of_lt (by omega), show k + (b + 1) - 1 = k + b by omega]
            exact hd
      · have hb2 : k + b = l.length := by omega
        rw [hb2, List.take_length] at e5
        have hca : (compS l).length = a := by rw [← e5]; simp; omega
        have ha : a ≤ l.length := by omega
        have hbl : ¬ (b : Int) < (l.length : Int) - (k : Int) := by omega
        have hbc : ¬ (b : Int) < ((l.length - k : Nat) : Int) := by omega
        simp [hb, hbl, hbc, hca, ha, e1]
        rw [← e5]
        simp [e1, ha, List.map_take]
    · simp [he]
      refine ⟨k + 1, less_envOf (by simp [hw]) rfl fun _ => rfl, ⟨by omega, by omega, fun j hj h0 hjk => ?_⟩, by omega⟩
      by_cases hj2 : j = k
      · subst hj2
        exact fun h => he h.symm
      · exact hadj j hj h0 (by omega)
  · have hc : compS l = l := compS_all fun j hj h0 => hadj j hj h0 (by omega)
    rw [hc]
    simp [hlt]

/-- The program's sorted. -/
theorem o_sorted (l : List ByteArray) (hl : l.length < 4611686018427387904) :
    OCall Tryz.prog 174 (some (9, l.map strCells)) [.arr 0 0 0 l.length] (some (false, 9, (putS [] l).map strCells)) (.arr 0 0 0 (putS [] l).length) := by
  have h1 := o_sortStr l hl
  have h2 := o_compact (sortS l) (by rw [sortS_length]; omega)
  rw [sortS_length, sorted_put] at h2
  refine own_of_code (G := G0) vers0 mixed0 Tryz.func174 rfl (by decide) (by simp [Tryz.f174]) 0 .dead (by intro s e es h; cases h; exact fr_str _) ?_
  simp only [Tryz.f174, G0, inArrs_some]
  simp
  refine call_s 0 0 9 (l.map strCells) (by simp) h1 (by simp) (by simp) (fr_str _) ?_
  simp [arr1_put]
  refine call_o 0 0 9 ((sortS l).map strCells) (by simp) h2 (by simp [sortS_length]) (by simp) (fr_str _) ?_
  simp [arr1_put]

end Go.Proofs.YtokhnmchnfkiiaaGreat.Am

/- Names that are put into rising lists, as the reference does; the names that a package mentions, by both sides. No conditions. -/
namespace Go.Proofs.YtokhnmchnfkiiaaGreat.Am
open Go Go.RowKit Go.Proofs
set_option linter.unusedSimpArgs false
set_option linter.unusedVariables false

theorem insS_same {v : ByteArray} : ∀ {l : List ByteArray}, (∀ a l', l = a :: l' → a = v) → l ≠ [] → insS v l = l
  | [], _, h => (h rfl).elim
  | a :: l, h, _ => by rw [insS, if_pos (h a l rfl)]
theorem gtr_sLt {a v : ByteArray} (h : a ≠ v) : Op.bytesLess a.data.toList v.data.toList = !sLt v a := by
  show sLt a v = !sLt v a
  cases k : sLt a v with
  | true => rw [sLt_asymm k]; rfl
  | false => rw [sLt_tri h k]; rfl

set_option maxRecDepth 10000 in
set_option maxHeartbeats 1000000 in
theorem p_l5put (c : Bool) (l : List ByteArray) (hl : l.length ≤ 1000000) (hr : Rise l) (v : ByteArray) (hc : c = false ∨ l = []) : Pure Tryz.prog 171 [.sl c (l.map strCells), .v (.string v)] (.sl false ((insS v l).map strCells)) := by
  refine pure_of_code (G := (Go1 8)) (verso 8) mixed0 Tryz.func171 rfl (by decide) (by simp [Tryz.f171]) (by simp) fun ver => ?_
  simp only [Tryz.f171, Go1]
  simp [Mem.made, noArrs, sealRows]
  refine aloop (α := Nat × Nat × List ByteArray × Bool) (fun d => ⟨envOf [(0, .sl c (l.map strCells)), (1, .v (.string v)), (5, .arr 8 d.2.1 0 d.2.2.1.length), (6, .v (.bool d.2.2.2)), (7, .v (.int .i64 d.1))], ⟨[], arrG 8 ver d.2.1 9 (d.2.2.1.map strCells)⟩⟩)
    (fun d => d.1 ≤ l.length ∧ d.2.2.1.length ≤ d.1 + 1 ∧ (d.2.2.2 = false → d.2.2.1 = l.take d.1 ∧ d.2.2.1 ++ insS v (l.drop d.1) = insS v l) ∧ (d.2.2.2 = true → d.2.2.1 ++ l.drop d.1 = insS v l ∧ ∀ x ∈ l.drop d.1, sLt v x = true)) (fun d => l.length - d.1) (0, ver 8 + 1, [], false) (less_envOf (by simp) rfl (by intro j; simp [arrG])) ⟨by simp, by simp, fun _ => ⟨by simp, by simp⟩, fun h => by cases h⟩ ?_
  rintro ⟨i, w, out, don⟩ ⟨h1, h2, h3, h4⟩
  simp only at h1 h2 h3 h4 ⊢
  by_cases hlt : i < l.length
  · have hw := wrapS hlt (by omega)
    have hd := drop_get hlt
    have hro : (out.length + 1) * 16 ≤ 140737488355328 := by omega
    have hro2 : (out.length + 1 + 1) * 16 ≤ 140737488355328 := by omega
    have hrd : Rise (l.drop i) := List.Pairwise.sublist (List.drop_sublist _ _) hr
    rw [hd] at hrd h3 h4
    have hrc := List.pairwise_cons.1 hrd
    by_cases he : l[i] = v
    · cases don with
      | true =>
        have h5 := (h4 rfl).2 l[i] (List.mem_cons_self ..)
        rw [he, sLt_irrefl] at h5
        cases h5
      | false =>
        obtain ⟨g1, g2⟩ := h3 rfl
        have hcf : c = false := by
          rcases hc with h | h
          · exact h
          · rw [h] at hlt; simp at hlt
        subst hcf
        have g3 : insS v l = l := by
          rw [← g2, g1, insS, if_pos he, ← hd]
          exact List.take_append_drop i l
        simp [hlt, he, g3]
    · have hg := gtr_sLt he
      cases don with
      | true =>
        obtain ⟨g1, g2⟩ := h4 rfl
        have g3 := g2 l[i] (List.mem_cons_self ..)
        rw [g3] at hg
        simp [hlt, he, hg, aappend, arrG, sealRows, sealCells, List.range_succ, hro]
        refine ⟨i + 1, w + 1, out ++ [l[i]], Or.inr ⟨less_envOf (by simp [hw]) rfl ?_, ⟨by omega, by simp; omega, by simpa using g1, fun x hx => g2 x (List.mem_cons_of_mem _ hx)⟩, by omega⟩⟩
        intro j
        by_cases hj : j = 8 <;> simp [hj, arrG]
      | false =>
        obtain ⟨g1, g2⟩ := h3 rfl
        rw [insS, if_neg he] at g2
        cases hs : sLt v l[i] with
        | true =>
          rw [hs] at hg g2
          rw [if_pos rfl] at g2
          simp [hlt, he, hg, aappend, arrG, sealRows, sealCells, List.range_succ, hro, hro2]
          refine ⟨i + 1, w + 1 + 1, out ++ [v, l[i]], Or.inr ⟨less_envOf (by simp [hw]) rfl ?_, ⟨by omega, by rw [g1]; simp; omega, by simpa using g2, fun x hx => sLt_trans hs (hrc.1 x hx)⟩, by omega⟩⟩
          intro j
          by_cases hj : j = 8 <;> simp [hj, arrG]
        | false =>
          rw [hs] at hg g2
          rw [if_neg (by simp)] at g2
          simp [hlt, he, hg, aappend, arrG, sealRows, sealCells, List.range_succ, hro]
          refine ⟨i + 1, w + 1, out ++ [l[i]], Or.inl ⟨less_envOf (by simp [hw]) rfl ?_, ⟨by omega, by simp; omega, by rw [g1, List.take_succ_eq_append_getElem hlt], by simpa using g2⟩, by omega⟩⟩
          intro j
          by_cases hj : j = 8 <;> simp [hj, arrG]
  · have e : i = l.length := by omega
    subst e
    have hro : (out.length + 1) * 16 ≤ 140737488355328 := by omega
    cases don with
    | true =>
      have g1 := (h4 rfl).1
      rw [List.drop_length, List.append_nil] at g1
      simp [arrG, g1]
    | false =>
      have g1 := (h3 rfl).2
      rw [List.drop_length, insS] at g1
      simp [aappend, arrG, sealRows, sealCells, List.range_succ, hro, ← g1, List.take_of_length_le]

end Go.Proofs.YtokhnmchnfkiiaaGreat.Am
