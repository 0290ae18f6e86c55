/- Lists of faults as the laws' helpers meet them; the faults of a set, as both sides hand them out. No conditions. -/
import Derived.Test.YtokhnmchnfkiiaaGreatAmC15
import Derived.Test.YtokhnmchnfkiiaaGreatAmC19
import Derived.Test.YtokhnmchnfkiiaaGreatAmC20
import Derived.Test.YtokhnmchnfkiiaaGreatAmC24
namespace Go.Proofs.YtokhnmchnfkiiaaGreat.Am
open Go Go.RowKit Go.Proofs
set_option linter.unusedSimpArgs false
set_option linter.unusedVariables false

theorem e_flt (f : Int × Int × Int) : Pure Tryz.prog 150 [.agg (fltCells f), .agg (fltCells f)] (.v (.bool true)) := by
  refine pure_of_code (G := G0) vers0 mixed0 Tryz.func150 rfl (by decide) (by simp [Tryz.f150]) (by simp) fun ver => ?_
  simp only [Tryz.f150, G0]
  repeat' first
    | with_reducible refine And.intro ?_ ?_
    | with_reducible intro _
    | (first | with_reducible refine adraw_f 2 (by decide +kernel) ?_ | with_reducible refine adraw_f 3 (by decide +kernel) ?_ | with_reducible refine adraw_f 4 (by decide +kernel) ?_ | with_reducible refine adraw_f 5 (by decide +kernel) ?_ | with_reducible refine adraw_f 6 (by decide +kernel) ?_ | with_reducible refine adraw_f 7 (by decide +kernel) ?_ | with_reducible refine adraw_f 8 (by decide +kernel) ?_ | with_reducible refine adraw_f 9 (by decide +kernel) ?_ | with_reducible refine adraw_f 10 (by decide +kernel) ?_ | with_reducible refine adraw_f 11 (by decide +kernel) ?_ | with_reducible refine adraw_cut 0 (by decide +kernel) ?_ | with_reducible refine adraw_cut 1 (by decide +kernel) ?_ | with_reducible refine adraw_cut 2 (by decide +kernel) ?_ | with_reducible refine adraw_cut 3 (by decide +kernel) ?_ | with_reducible refine adraw_cut 4 (by decide +kernel) ?_ | with_reducible refine adraw_cut 5 (by decide +kernel) ?_ | with_reducible refine adraw_cut 6 (by decide +kernel) ?_ | with_reducible refine adraw_cut 7 (by decide +kernel) ?_ | with_reducible refine adraw_cut 8 (by decide +kernel) ?_ | with_reducible refine adraw_cut 9 (by decide +kernel) ?_ | with_reducible refine adraw_all (by kernel_rfl) ?_)
    | simp (config := { contextual := true, maxSteps := 4000000 }) [*, -Int.not_le, -Int.not_lt]

theorem e_flts (c d : Bool) (l : List (Int × Int × Int)) (hl : l.length ≤ 4611686018427387904) : Pure Tryz.prog 87 [fltsAV c l, fltsAV d l] (.v (.bool true)) := by
  refine pure_of_code (G := (G0)) vers0 mixed0 Tryz.func87 rfl (by decide) (by simp [Tryz.f87]) (by simp) fun ver => ?_
  simp only [Tryz.f87, G0]
  simp
  refine aloop (α := Nat) (fun i => ⟨envOf [(0, .sl c (l.map fltCells)), (1, .sl d (l.map fltCells)), (5, .v (.int .i64 i))], ⟨[], noArrs ver⟩⟩)
    (fun i => i ≤ l.length) (fun i => l.length - i) 0 (less_envOf (by simp) rfl fun _ => rfl) (by simp) ?_
  intro i hi
  by_cases hlt : i < l.length
  · have hw := wrapS hlt hl
    simp [hlt]
    refine adraw_all (by kernel_rfl) ?_
    simp [hlt]
    refine call_p (e_flt l[i]) (by simp) ?_
    simp
    exact ⟨i + 1, less_envOf (by simp [hw]) rfl fun _ => rfl, by omega, by omega⟩
  · simp [hlt]

theorem e_fltsRes (c d : Bool) (l : List (Int × Int × Int)) (hl : l.length ≤ 4611686018427387904) (a : Int) : Pure Tryz.prog 32 [.agg [.v (.int .i64 a), fltsAV c l], .agg [.v (.int .i64 a), fltsAV d l]] (.v (.bool true)) := by
  refine pure_of_code (G := (G0)) vers0 mixed0 Tryz.func32 rfl (by decide) (by simp [Tryz.f32]) (by simp) fun ver => ?_
  simp only [Tryz.f32, G0]
  simp
  refine call_p (e_flts c d l hl) (by simp) ?_
  simp

def mkFlt (k : Int) : Int × Int × Int := (k, k + 1, k + 2)
def mflts (k : Int) (n : Nat) : List (Int × Int × Int) := (List.range n).map fun i => mkFlt (k + ((3 * i : Nat) : Int))
@[simp] theorem mflts_length (k : Int) (n : Nat) : (mflts k n).length = n := by simp [mflts]
theorem mflts_succ (k : Int) (n : Nat) : mflts k (n + 1) = mflts k n ++ [mkFlt (k + ((3 * n : Nat) : Int))] := by simp [mflts, List.range_succ]
theorem mflts_get {k : Int} {n i : Nat} (h : i < n) : (mflts k n)[i]? = some (mkFlt (k + ((3 * i : Nat) : Int))) := by
  rw [List.getElem?_eq_getElem (by simpa using h)]
  simp [mflts]
def curF (k : Int) (l : List (Int × Int × Int)) (i : Nat) : List (Int × Int × Int) := mflts k i ++ l.drop i
theorem curF_length {k : Int} {l : List (Int × Int × Int)} {i : Nat} (h : i ≤ l.length) : (curF k l i).length = l.length := by simp [curF]; omega
theorem curF_get {k : Int} {l : List (Int × Int × Int)} {i : Nat} (h : i < l.length) : (curF k l i)[i]? = some l[i] := by
  rw [curF, List.getElem?_append_right (by simp)]
  simp [h]
theorem curF_set {k : Int} {l : List (Int × Int × Int)} {i : Nat} (h : i < l.length) : (curF k l i).set i (mkFlt (k + ((3 * i : Nat) : Int))) = curF k l (i + 1) := by
  simp only [curF]
  rw [List.set_append, if_neg (by simp), mflts_length, Nat.sub_self, drop_get h, List.set_cons_zero, mflts_succ]
  simp

set_option maxRecDepth 10000 in
theorem o_markFlts (l : List (Int × Int × Int)) (k : Int) (h0 : 0 ≤ k) (hk : k + ((3 * l.length : Nat) : Int) ≤ 1099511627776) :
    OCall Tryz.prog 88 (some (159, l.map fltCells)) [.arr 0 0 0 l.length, .v (.int .i64 k)] (some (true, 159, (mflts k l.length).map fltCells)) (.v (.int .i64 (k + ((3 * l.length : Nat) : Int)))) := by
  have hl : l.length ≤ 4611686018427387904 := by omega
  refine own_of_code (G := G0) vers0 mixed0 Tryz.func88 rfl (by decide) (by simp [Tryz.f88]) 0 (.v _) (by intro s e es h; cases h; exact fr_flt _) ?_
  simp only [Tryz.f88, G0, inArrs_some]
  simp
  refine aloop (α := Nat) (fun i => ⟨envOf [(0, .arr 0 0 0 l.length), (1, .v (.int .i64 (k + ((3 * i : Nat) : Int)))), (5, .v (.int .i64 i))], ⟨[], arr1 0 0 159 ((curF k l i).map fltCells)⟩⟩)
    (fun i => i ≤ l.length) (fun i => l.length - i) 0 (less_envOf (by simp) rfl (by simp [curF, mflts])) (by simp) ?_
  intro i hi
  by_cases hlt : i < l.length
  · have hw := wrapS hlt hl
    have b : ∀ m : Int, 0 ≤ m → m ≤ 1099511627786 → IntKind.i64.wrap (m + 1) = m + 1 := fun m _ _ => IntWalk.i64_in _ (by omega)
    obtain ⟨m, hm⟩ : ∃ m : Int, m = k + ((3 * i : Nat) : Int) := ⟨_, rfl⟩
    rw [← hm]
    obtain ⟨R, hR⟩ : ∃ R, R = (curF k l i).map fltCells := ⟨_, rfl⟩
    have hc : R.length = l.length := by rw [hR, List.length_map, curF_length hi]
    have hRi : R[i]? = some [.v (.int .i64 l[i].1), .v (.int .i64 l[i].2.1), .v (.int .i64 l[i].2.2)] := by rw [hR, List.getElem?_map, curF_get hlt]; rfl
    have hRi2 : R[i]'(by omega) = [.v (.int .i64 l[i].1), .v (.int .i64 l[i].2.1), .v (.int .i64 l[i].2.2)] := by
      rw [List.getElem?_eq_getElem (by omega)] at hRi
      exact Option.some.inj hRi
    have hRn : curF k l (i + 1) = (curF k l i).set i (mkFlt m) := by rw [hm]; exact (curF_set hlt).symm
    have hRl : (curF k l (i + 1)).map fltCells = R.set i (fltCells (mkFlt m)) := by rw [hRn, List.map_set, hR]
    rw [← hR]
    repeat first | rw [acode_seq] | rw [acode_block]
    refine acode_cutE ⟨[], arr1 0 0 159 R⟩ (fun E => E 0 = .arr 0 0 0 l.length ∧ E 1 = .v (.int .i64 (m)) ∧ E 5 = .v (.int .i64 i) ∧ E 9 = .v (.bool true)) ?_ ?_
    · simp [hlt, hc]
    rintro E ⟨z0, z1, z5, z9⟩
    repeat first | rw [kSeq_normal] | rw [acode_seq]
    refine cond_t z9 ?_
    repeat first | rw [acode_skip] | rw [kSeq_normal] | rw [acode_seq] | rw [acode_block]
    refine acode_cutE ⟨[], arr1 0 0 159 (R.set i [.v (.int .i64 (m)), .v (.int .i64 l[i].2.1), .v (.int .i64 l[i].2.2)])⟩ (fun E => E 0 = .arr 0 0 0 l.length ∧ E 1 = .v (.int .i64 (m)) ∧ E 5 = .v (.int .i64 i)) ?_ ?_
    · simp [z0, z1, z5, hlt, hc, hRi, hRi2, arr1_put]
    rintro E ⟨z0, z1, z5⟩
    repeat first | rw [kSeq_normal] | rw [acode_seq]
    have hb0 : IntKind.i64.wrap (m + 1) = m + 1 := by rw [b _ (by omega) (by omega)]
    refine acode_cutE ⟨[], arr1 0 0 159 (R.set i [.v (.int .i64 (m)), .v (.int .i64 l[i].2.1), .v (.int .i64 l[i].2.2)])⟩ (fun E => E 0 = .arr 0 0 0 l.length ∧ E 1 = .v (.int .i64 (m + 1)) ∧ E 5 = .v (.int .i64 i)) ?_ ?_
    · simp [z0, z1, z5, hlt, hc, hRi, hRi2, arr1_put, hb0]
    rintro E ⟨z0, z1, z5⟩
    repeat first | rw [kSeq_normal] | rw [acode_seq]
    refine acode_cutE ⟨[], arr1 0 0 159 (R.set i [.v (.int .i64 (m)), .v (.int .i64 (m + 1)), .v (.int .i64 l[i].2.2)])⟩ (fun E => E 0 = .arr 0 0 0 l.length ∧ E 1 = .v (.int .i64 (m + 1)) ∧ E 5 = .v (.int .i64 i)) ?_ ?_
    · simp [z0, z1, z5, hlt, hc, hRi, hRi2, arr1_put]
    rintro E ⟨z0, z1, z5⟩
    repeat first | rw [kSeq_normal] | rw [acode_seq]
    have hb1 : IntKind.i64.wrap (m + 1 + 1) = m + 2 := by rw [b _ (by omega) (by omega)]; omega
    refine acode_cutE ⟨[], arr1 0 0 159 (R.set i [.v (.int .i64 (m)), .v (.int .i64 (m + 1)), .v (.int .i64 l[i].2.2)])⟩ (fun E => E 0 = .arr 0 0 0 l.length ∧ E 1 = .v (.int .i64 (m + 2)) ∧ E 5 = .v (.int .i64 i)) ?_ ?_
    · simp [z0, z1, z5, hlt, hc, hRi, hRi2, arr1_put, hb1]
    rintro E ⟨z0, z1, z5⟩
    repeat first | rw [kSeq_normal] | rw [acode_seq]
    refine acode_cutE ⟨[], arr1 0 0 159 (R.set i [.v (.int .i64 (m)), .v (.int .i64 (m + 1)), .v (.int .i64 (m + 2))])⟩ (fun E => E 0 = .arr 0 0 0 l.length ∧ E 1 = .v (.int .i64 (m + 2)) ∧ E 5 = .v (.int .i64 i)) ?_ ?_
    · simp [z0, z1, z5, hlt, hc, hRi, hRi2, arr1_put]
    rintro E ⟨z0, z1, z5⟩
    repeat first | rw [kSeq_normal] | rw [acode_seq]
    have hb2 : IntKind.i64.wrap (m + 2 + 1) = m + 3 := by rw [b _ (by omega) (by omega)]; omega
    refine acode_cutE ⟨[], arr1 0 0 159 (R.set i [.v (.int .i64 (m)), .v (.int .i64 (m + 1)), .v (.int .i64 (m + 2))])⟩ (fun E => E 0 = .arr 0 0 0 l.length ∧ E 1 = .v (.int .i64 (m + 3)) ∧ E 5 = .v (.int .i64 i)) ?_ ?_
    · simp [z0, z1, z5, hlt, hc, hRi, hRi2, arr1_put, hb2]
    rintro E ⟨z0, z1, z5⟩
    repeat first | rw [kSeq_normal] | rw [acode_seq]
    simp [z5]
    refine ⟨i + 1, less_envOf (by simp [z0, z1, z5, hw, hm]; omega) rfl ?_, by omega, by omega⟩
    rw [hRl]
    intro j
    rfl
  · have e : i = l.length := by omega
    subst e
    simp [curF]

theorem p_markFlts0 (c : Bool) (k : Int) : Pure Tryz.prog 88 [.sl c [], .v (.int .i64 k)] (.v (.int .i64 k)) := by
  refine pure_of_code (G := (G0)) vers0 mixed0 Tryz.func88 rfl (by decide) (by simp [Tryz.f88]) (by simp) fun ver => ?_
  simp only [Tryz.f88, G0]
  simp
  refine aloop (α := Unit) (fun _ => ⟨envOf [(0, .sl c []), (1, .v (.int .i64 k)), (5, .v (.int .i64 0))], ⟨[], noArrs ver⟩⟩)
    (fun _ => True) (fun _ => 0) () (less_envOf (by simp) rfl fun _ => rfl) trivial ?_
  intro _ _
  simp

theorem p_heldFlts (c : Bool) (n : Nat) (k : Int) (h0 : 0 ≤ k) (hk : k + ((3 * n : Nat) : Int) ≤ 1099511627776) : Pure Tryz.prog 89 [fltsAV c (mflts k n), .v (.int .i64 k)] (.v (.int .i64 (k + ((3 * n : Nat) : Int)))) := by
  have hl : n ≤ 4611686018427387904 := by omega
  refine pure_of_code (G := (G0)) vers0 mixed0 Tryz.func89 rfl (by decide) (by simp [Tryz.f89]) (by simp) fun ver => ?_
  simp only [Tryz.f89, G0]
  simp
  refine aloop (α := Nat) (fun i => ⟨envOf [(0, fltsAV c (mflts k n)), (1, .v (.int .i64 (k + ((3 * i : Nat) : Int)))), (5, .v (.int .i64 i))], ⟨[], noArrs ver⟩⟩)
    (fun i => i ≤ n) (fun i => n - i) 0 (less_envOf (by simp) rfl fun _ => rfl) (by simp) ?_
  intro i hi
  by_cases hlt : i < n
  · have hw := wrapS hlt hl
    have b : ∀ m : Int, 0 ≤ m → m ≤ 1099511627786 → IntKind.i64.wrap (m + 1) = m + 1 := fun m _ _ => IntWalk.i64_in _ (by omega)
    obtain ⟨m, hm⟩ : ∃ m : Int, m = k + ((3 * i : Nat) : Int) := ⟨_, rfl⟩
    have hg := mflts_get (k := k) hlt
    rw [← hm] at hg ⊢
    have hgi : ∀ h : i < (mflts k n).length, (mflts k n)[i]'h = mkFlt m := fun h => by
      rw [List.getElem?_eq_getElem h] at hg
      exact Option.some.inj hg
    have hb0 := b m (by omega) (by omega)
    have hb1 : IntKind.i64.wrap (m + 1 + 1) = m + 2 := by rw [b _ (by omega) (by omega)]; omega
    have hb2 : IntKind.i64.wrap (m + 2 + 1) = m + 3 := by rw [b _ (by omega) (by omega)]; omega
    simp [hlt, hgi, mkFlt, hb0, hb1, hb2]
    exact ⟨i + 1, less_envOf (by simp [hw, hm]; omega) rfl fun _ => rfl, by omega, by omega⟩
  · have e : i = n := by omega
    subst e
    simp

theorem o_markFltsRes (l : List (Int × Int × Int)) (k a : Int) (h0 : 0 ≤ k) (hk : k + ((3 * l.length : Nat) : Int) ≤ 1099511627776) :
    OCall Tryz.prog 33 (some (159, l.map fltCells)) [.agg [.v (.int .i64 a), .arr 0 0 0 l.length], .v (.int .i64 k)] (some (true, 159, (mflts k l.length).map fltCells)) (.v (.int .i64 (k + 3 * (l.length : Int)))) := by
  have hm := o_markFlts l k h0 hk
  refine own_of_code (G := G0) vers0 mixed0 Tryz.func33 rfl (by decide) (by simp [Tryz.f33]) 0 (.v _) (by intro s e es h; cases h; exact fr_flt _) ?_
  simp only [Tryz.f33, G0, inArrs_some]
  simp
  refine call_s 0 0 159 (l.map fltCells) (by simp) hm (by simp) (by simp) (fr_flt _) ?_
  simp [arr1_put]

theorem p_markFltsRes0 (c : Bool) (k a : Int) : Pure Tryz.prog 33 [.agg [.v (.int .i64 a), .sl c []], .v (.int .i64 k)] (.v (.int .i64 k)) := by
  refine pure_of_code (G := (G0)) vers0 mixed0 Tryz.func33 rfl (by decide) (by simp [Tryz.f33]) (by simp) fun ver => ?_
  simp only [Tryz.f33, G0]
  simp
  refine call_p (p_markFlts0 c k) (by simp) ?_
  simp

theorem p_heldFltsRes (c : Bool) (n : Nat) (k a : Int) (h0 : 0 ≤ k) (hk : k + ((3 * n : Nat) : Int) ≤ 1099511627776) : Pure Tryz.prog 34 [.agg [.v (.int .i64 a), fltsAV c (mflts k n)], .v (.int .i64 k)] (.v (.int .i64 (k + 3 * (n : Int)))) := by
  refine pure_of_code (G := (G0)) vers0 mixed0 Tryz.func34 rfl (by decide) (by simp [Tryz.f34]) (by simp) fun ver => ?_
  simp only [Tryz.f34, G0]
  simp
  refine call_p (p_heldFlts c n k h0 hk) (by simp) ?_
  simp [show ¬ k + 3 * (n : Int) < 0 by omega]

theorem p_heldFltsRes0 (c : Bool) (k a : Int) (h0 : 0 ≤ k) (hk : k ≤ 1099511627776) : Pure Tryz.prog 34 [.agg [.v (.int .i64 a), .sl c []], .v (.int .i64 k)] (.v (.int .i64 k)) := by
  have := p_heldFltsRes c 0 k a h0 (by simpa using hk)
  simpa [mflts, fltsAV] using this

theorem stayc_flt (f : Int × Int × Int) : ∀ c ∈ fltCells f, c.Stay := fun c hc => by simp at hc; rcases hc with rfl | rfl | rfl <;> exact .v _
theorem oldc_flt (f : Int × Int × Int) : ∀ c ∈ fltCells f, Olds c c := fun c hc => by simp at hc; rcases hc with rfl | rfl | rfl <;> exact .v _
@[simp] theorem stay_flts (l : List (Int × Int × Int)) : (AV.sl true (l.map fltCells)).Stay = True := eq_true (stay_rows l stayc_flt)
@[simp] theorem olds_flts (c : Bool) (l : List (Int × Int × Int)) : Olds (.sl c (l.map fltCells)) (.sl true (l.map fltCells)) = True := eq_true (olds_rows c l oldc_flt)

/-- What FaultsOf answers: the code, the faults. -/
noncomputable def faultsF (c : List Pk) (s : List Int) : List (Int × Int × Int) := if setF c s = 0 then faultsR c s [] s else []

theorem p_faultsOf (a b k : Bool) (c : List Pk) (hc : c.length ≤ 4611686018427387904) (hb : ∀ p ∈ c, p.Len) (s : List Int) (hs : s.length ≤ 4611686018427387904) : Pure Tryz.prog 30 [pksAV a b c, intsAV k s] (.agg [.v (.int .i64 (setF c s)), fltsAV false (faultsF c s)]) := by
  refine pure_of_code (G := (G0)) vers0 mixed0 Tryz.func30 rfl (by decide) (by simp [Tryz.f30]) (by simp) fun ver => ?_
  simp only [Tryz.f30, G0]
  simp
  refine call_p (p_setFault a b k c hc hb s hs) (by simp) ?_
  by_cases h : setF c s = 0
  · obtain ⟨h1, h2, h3, h4⟩ := setF_facts h
    simp [h]
    refine call_p (p_faults a b k c h1 s h3 h2 h4) (by simp) ?_
    simp [faultsF, h]
  · simp [h, faultsF]

theorem q_faultsOfA (a b k : Bool) (c : List Pk) (hc : c.length ≤ 4611686018427387904) (hb : ∀ p ∈ c, p.Len) (s : List Int) (hs : s.length ≤ 4611686018427387904) (h : setF c s ≠ 0) : Pure Tryz.prog 31 [pksAV a b c, intsAV k s] (.agg [.v (.int .i64 (setF c s)), .sl false []]) := by
  refine pure_of_code (G := (G0)) vers0 mixed0 Tryz.func31 rfl (by decide) (by simp [Tryz.f31]) (by simp) fun ver => ?_
  simp only [Tryz.f31, G0]
  simp
  refine call_p (q_setFault a b k c hc hb s hs) (by simp) ?_
  simp [h]

theorem q_faultsOfB (a b k : Bool) (c : List Pk) (hc : c.length ≤ 4611686018427387904) (hb : ∀ p ∈ c, p.Len) (s : List Int) (hs : s.length ≤ 4611686018427387904) (h : setF c s = 0) :
    OCall Tryz.prog 31 none [pksAV a b c, intsAV k s] (some (false, 159, (faultsR c s [] s).map fltCells)) (.agg [.v (.int .i64 0), .arr 0 0 0 (faultsR c s [] s).length]) := by
  obtain ⟨h1, h2, h3, h4⟩ := setF_facts h
  have hq := q_faultsO a b k c h1 s h3 h2 h4
  refine own_of_code (G := Go1 15) (verso 15) mixed0 Tryz.func31 rfl (by decide) (by simp [Tryz.f31]) 15 (.agg _ (by simp)) (by intro s e es h; cases h; exact fr_flt _) ?_
  simp only [Tryz.f31, Go1, inArrs]
  simp
  refine call_p (q_setFault a b k c hc hb s hs) (by simp) ?_
  simp [h]
  refine call_n 15 hq (by simp) ?_
  simp

end Go.Proofs.YtokhnmchnfkiiaaGreat.Am
