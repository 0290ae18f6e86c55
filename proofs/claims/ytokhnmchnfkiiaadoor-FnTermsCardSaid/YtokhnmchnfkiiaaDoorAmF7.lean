/- Terms read from texts, as the program reads them; the law FnExactParseTerm. No conditions. -/
import Derived.Test.YtokhnmchnfkiiaaDoorAmF6
import Derived.Test.YtokhnmchnfkiiaaDoorAmCg1
namespace Go.Proofs.YtokhnmchnfkiiaaDoor.Am
open Go Go.RowKit Go.Proofs
set_option linter.unusedSimpArgs false
set_option linter.unusedVariables false

theorem pre_len {l p : List UInt8} (h : Lib.hasPrefix l p = true) : l.take p.length = p := by
  unfold Lib.hasPrefix at h
  rw [List.isPrefixOf_iff_prefix] at h
  exact (List.prefix_iff_eq_take.1 h).symm
theorem trim_two {r : ByteArray} (h : Lib.hasPrefix r.data.toList [62, 61] = true) : (⟨(Lib.trimPrefix r.data.toList [62, 61]).toArray⟩ : ByteArray) = r.extract 2 r.size := by
  refine ba_ext ?_
  unfold Lib.trimPrefix
  rw [if_pos h, ext_list, List.take_of_length_le (by rw [List.length_drop, ← Lib.size_eq]; omega)]
  rfl
theorem trim_not {r : ByteArray} {p : List UInt8} (h : Lib.hasPrefix r.data.toList p = false) : (⟨(Lib.trimPrefix r.data.toList p).toArray⟩ : ByteArray) = r := by
  refine ba_ext ?_
  unfold Lib.trimPrefix
  rw [if_neg (by simp [h])]
theorem size_two {r : ByteArray} (h : Lib.hasPrefix r.data.toList [62, 61] = true) : 2 ≤ r.size := by
  have := congrArg List.length (pre_len h)
  rw [List.length_take] at this
  rw [Lib.size_eq]
  simp at this ⊢
  omega
theorem cut_two {r : ByteArray} (h : Lib.hasPrefix r.data.toList [62, 61] = true) : cutN (r.extract 2 r.size) + 2 = cutN r := by
  have h2 := pre_len h
  have e : r.data.toList = [62, 61] ++ r.data.toList.drop 2 := by
    conv => lhs; rw [← List.take_append_drop 2 r.data.toList]
    rw [show r.data.toList.take 2 = [62, 61] from h2]
  unfold cutN
  rw [ext_list, Lib.size_eq, List.take_of_length_le (by simp)]
  conv => rhs; rw [e]
  simp [lenW, ltW]
theorem low_two {r : ByteArray} (h : Lib.hasPrefix r.data.toList [62, 61] = true) : (r.extract 2 r.size).extract 0 (cutN (r.extract 2 r.size)) = r.extract 2 (cutN r) := by
  have h1 := cut_two h
  have h2 := cutN_le r
  refine ba_ext ?_
  rw [ext_list, ext_list, ext_list, List.drop_zero, List.take_take, Nat.sub_zero, ← h1]
  rw [Nat.min_eq_left (by omega)]
  simp
theorem high_two {r : ByteArray} (h : Lib.hasPrefix r.data.toList [62, 61] = true) : (r.extract 2 r.size).extract (cutN (r.extract 2 r.size)) (r.extract 2 r.size).size = r.extract (cutN r) r.size := by
  have h1 := cut_two h
  have h2 := cutN_le r
  have h3 := size_two h
  refine ba_ext ?_
  rw [ext_list, ext_list, ext_list, ext_size r h3 (Nat.le_refl _), ← h1, Lib.size_eq]
  rw [List.take_of_length_le (l := r.data.toList.drop 2) (by simp), List.drop_drop, List.take_of_length_le (by simp; omega), List.take_of_length_le (by simp), Nat.add_comm]
theorem lt_pre (r : ByteArray) : Lib.hasPrefix (r.extract (cutN r) r.size).data.toList [60] = decide (cutN r < r.size) := by
  have hle := cutN_le r
  rw [ext_list, List.take_of_length_le (by rw [List.length_drop, ← Lib.size_eq]; omega)]
  by_cases h : cutN r < r.size
  · obtain ⟨t, ht⟩ := lt_at h
    rw [ht]
    simp [h, Lib.hasPrefix]
  · rw [List.drop_eq_nil_of_le (by rw [← Lib.size_eq]; omega)]
    simp [h, Lib.hasPrefix]
theorem lt_trim {r : ByteArray} (h : cutN r < r.size) : (⟨(Lib.trimPrefix (r.extract (cutN r) r.size).data.toList [60]).toArray⟩ : ByteArray) = r.extract (cutN r + 1) r.size := by
  have hp := lt_pre r
  refine ba_ext ?_
  unfold Lib.trimPrefix
  rw [hp, if_pos (by simp [h]), ext_list, ext_list, List.take_of_length_le (by rw [List.length_drop, ← Lib.size_eq]; omega), List.take_of_length_le (by rw [List.length_drop, ← Lib.size_eq]; omega)]
  show (List.drop 1 (List.drop (cutN r) r.data.toList)) = _
  rw [List.drop_drop]
theorem whole (r : ByteArray) : r.extract 0 r.size = r := by
  refine ba_ext ?_
  rw [ext_list, List.drop_zero, List.take_of_length_le (by rw [← Lib.size_eq]; omega)]
theorem lt_zero {r : ByteArray} (h : Lib.hasPrefix r.data.toList [60] = true) : cutN r = 0 := by
  unfold Lib.hasPrefix at h
  rw [List.isPrefixOf_iff_prefix] at h
  obtain ⟨t, ht⟩ := h
  unfold cutN
  rw [← ht]
  simp [lenW, ltW]
theorem hpe : Lib.hasPrefix [] [60] = false := rfl
theorem tre : Lib.trimPrefix [] [60] = [] := rfl
theorem idx_cut (l : ByteArray) : Lib.indexByte l.data.toList 60 = if cutN l = l.size then -1 else (cutN l : Int) := by
  rw [index_lt, Lib.size_eq]
  rfl

set_option maxHeartbeats 16000000 in
set_option maxRecDepth 10000 in
theorem q_parseTerm (s : ByteArray) (hs : s.size ≤ 1048576) : Pure Tryd.prog 26 [.v (.string s)] (ptAV (ptA s)) := by
  obtain ⟨A, hA⟩ : ∃ A, A = ptA s := ⟨_, rfl⟩
  rw [← hA]
  unfold ptA at hA
  have hl := ldN_le s
  obtain ⟨N, hN⟩ : ∃ N, N = ptN s := ⟨_, rfl⟩
  obtain ⟨r, hr⟩ : ∃ r, r = ptR s := ⟨_, rfl⟩
  rw [← hN, ← hr] at hA
  have hrs : r.size = s.size - ldN s := by rw [hr]; exact ext_size s hl (Nat.le_refl _)
  have hcl := cutN_le r
  refine pure_of_code (G := (G0)) vers0 mixed0 Tryd.func26 rfl (by decide) (by simp [Tryd.f26]) (by simp) fun ver => ?_
  simp only [Tryd.f26, G0]
  simp
  refine acode_cutY 0 ⟨[[.v (.int .i64 0), .v (.string ByteArray.empty), .v (.int .i64 0), .v (.int .i64 0), .v (.int .i64 0), .v (.int .i64 0), .v (.int .i64 0), .v (.int .i64 0)]], noArrs ver⟩ (fun E => E 0 = .v (.string s) ∧ E 2 = .box 0 0 ∧ E 3 = .v (.int .i64 (ldN s))) ?_ ?_
  · refine aloop (α := Nat) (fun i => ⟨envOf [(0, .v (.string s)), (2, .box 0 0), (3, .v (.int .i64 i))], ⟨[[.v (.int .i64 0), .v (.string ByteArray.empty), .v (.int .i64 0), .v (.int .i64 0), .v (.int .i64 0), .v (.int .i64 0), .v (.int .i64 0), .v (.int .i64 0)]], noArrs ver⟩⟩)
      (fun i => i ≤ s.size ∧ i + lenW nmW (s.data.toList.drop i) = ldN s) (fun i => s.size - i) 0 (less_envOf (by simp) (by simp) fun _ => rfl) (by simp [ldN]) ?_
    rintro i ⟨g1, g2⟩
    by_cases hlt : i < s.size
    · have hlti : (i : Int) < s.size := by omega
      have hw : IntKind.i64.wrap ((i : Int) + 1) = ((i + 1 : Nat) : Int) := by rw [IntWalk.i64_in _ (by omega)]; omega
      obtain ⟨b, hb1, hb2⟩ := drop_byte hlt
      rw [hb1, lenW] at g2
      simp [hlt, hlti]
      refine call_p (q_nameB _) (by simp) ?_
      by_cases hnm : nmW b = true
      · rw [if_pos hnm] at g2
        have hnb : nameB (bAt s i) = true := by rw [hb2]; exact hnm
        simp [hnb]
        exact ⟨i + 1, less_envOf (by simp [hw]) rfl fun _ => rfl, ⟨by omega, by omega⟩, by omega⟩
      · rw [if_neg hnm] at g2
        have hnb : nameB (bAt s i) = false := by rw [hb2]; simpa [nmW] using hnm
        have hi : i = ldN s := by omega
        subst hi
        simp [hnb]
    · rw [List.drop_eq_nil_of_le (by rw [← Lib.size_eq]; omega), lenW] at g2
      have hlti : ¬ (i : Int) < s.size := by omega
      have hi : i = ldN s := by omega
      subst hi
      simp [hlti, hlt]
  rintro E ⟨z0, z2, z3⟩
  have e0 : ByteArray.empty = ⟨#[]⟩ := rfl
  have hN' : s.extract 0 (ldN s) = N := hN.symm
  have hr' : s.extract (ldN s) s.size = r := hr.symm
  simp [z0, z2, z3, hl, hN']
  refine call_p (q_anyTerm N) (by simp) ?_
  simp [z0, z2, z3, hl, hr']
  refine call_p (q_nameFault N) (by simp) ?_
  by_cases hnf : nameFault N = 0
  case neg =>
    rw [if_pos hnf] at hA
    simp [hnf, hA, z0, z2, z3]
    rfl
  rw [if_neg (by simp [hnf])] at hA
  simp [hnf, z0, z2, z3, hl, hr']
  refine call_p (q_cutPrefix r ⟨#[62, 61]⟩) (by simp) ?_
  cases hp : Lib.hasPrefix r.data.toList [62, 61] with
  | true =>
    have t2 := trim_two hp
    have hlow := low_two hp
    have hhigh := high_two hp
    have c2 := cut_two hp
    have s2 := size_two hp
    obtain ⟨L, hL⟩ : ∃ L, L = r.extract 2 r.size := ⟨_, rfl⟩
    have hls : L.size = r.size - 2 := by rw [hL]; exact ext_size r s2 (Nat.le_refl _)
    rw [← hL] at t2 hlow hhigh c2
    have hcL := cutN_le L
    have hcz : ¬ cutN r = 0 := by omega
    have hLo : ptL r = parseV (r.extract 2 (cutN r)) := by unfold ptL; rw [if_neg hcz, if_pos hp]
    rw [hLo] at hA
    have x6 : List.idxOf 6 [6] = 0 := by decide
    simp [hp, t2]
    refine call_p (q_indexLt L) (by simp) ?_
    have hidx := idx_cut L
    obtain ⟨kk, hkk⟩ : ∃ kk, kk = cutN L := ⟨_, rfl⟩
    rw [← hkk] at hlow hhigh hcL c2 hidx
    by_cases hk : kk = L.size
    · have hc : ¬ cutN r < r.size := by omega
      have hH : ptH r = some (1000, 0, 0) := by unfold ptH; rw [if_neg hc]
      rw [hH] at hA
      rw [if_pos hk] at hidx
      have hks : (L.size : Int) = kk := by omega
      have hp2 : Lib.hasPrefix (r.extract (cutN r) r.size).data.toList [60] = false := by rw [lt_pre]; simp [hc]
      have t3 := trim_not hp2
      have hem : r.extract (cutN r) r.size = ⟨#[]⟩ := by
        refine ba_ext ?_
        rw [ext_list, List.drop_eq_nil_of_le (by rw [← Lib.size_eq]; omega)]
        simp
      obtain ⟨Q, hQ⟩ : ∃ Q, Q = r.extract (cutN r) r.size := ⟨_, rfl⟩
      rw [← hQ] at hp2 t3 hem hhigh
      simp [hidx, hks, hcL, hlow, z0, z2, z3]
      refine call_p (q_parseVersion (r.extract 2 (cutN r)) (by rw [ext_size r (by omega) hcl]; omega)) (by simp) ?_
      cases hlv : parseV (r.extract 2 (cutN r)) with
      | none =>
        rw [hlv] at hA
        simp only at hA
        simp [hA, e0, pvC, pvA, pvB, pvD, z0, z2, z3]
      | some lv =>
        rw [hlv] at hA
        simp only at hA
        simp [pvC, pvA, pvB, pvD, z0, z2, z3]
        refine adraw_g [0, 1, 2, 3, 4, 5, 6, 7] [6] [⟨[[.v (.int .i64 0), .v (.string ByteArray.empty), .v (.int .i64 0), .v (.int .i64 0), .v (.int .i64 0), .v (.int .i64 0), .v (.int .i64 0), .v (.int .i64 0)], [.v (.string N), .v (.int .i64 0), .v (.int .i64 0), .v (.int .i64 0), .v (.int .i64 1000), .v (.int .i64 0), .v (.int .i64 0)], [.v (.int .i64 0), .v (.int .i64 lv.1), .v (.int .i64 lv.2.1), .v (.int .i64 lv.2.2)]], noArrs ver⟩, ⟨[[.v (.int .i64 0), .v (.string ByteArray.empty), .v (.int .i64 0), .v (.int .i64 0), .v (.int .i64 0), .v (.int .i64 0), .v (.int .i64 0), .v (.int .i64 0)], [.v (.string N), .v (.int .i64 lv.1), .v (.int .i64 lv.2.1), .v (.int .i64 lv.2.2), .v (.int .i64 1000), .v (.int .i64 0), .v (.int .i64 0)], [.v (.int .i64 0), .v (.int .i64 lv.1), .v (.int .i64 lv.2.1), .v (.int .i64 lv.2.2)]], noArrs ver⟩]
          [.box 2 1, .agg [.v (.int .i64 lv.1), .v (.int .i64 lv.2.1), .v (.int .i64 lv.2.2)], .v (.string L), .v (.int .i64 kk), .v (.string Q), .box 1 1, .dead, .v (.string Q)] (by decide +kernel) rfl rfl ?_
        simp [tellG_cons, tellG_nil, onTell, yieldsTo, x6, hcL, hhigh, z0, z2, z3]
        refine call_p (q_cutPrefix Q ⟨#[60]⟩) (by simp) ?_
        simp [hp2, t3, hem, hpe, tre]
        refine call_p (q_termFault N _ _ _ _ _ _) (by simp) ?_
        by_cases htf : termFault N lv.1 lv.2.1 lv.2.2 1000 0 0 = 0
        · rw [if_pos htf] at hA
          simp [htf, hA, z0, z2, z3]
        · rw [if_neg htf] at hA
          simp [htf, hA, e0, z0, z2, z3]
    · have hc : cutN r < r.size := by omega
      have hH : ptH r = parseV (r.extract (cutN r + 1) r.size) := by unfold ptH; rw [if_pos hc]
      rw [hH] at hA
      rw [if_neg hk] at hidx
      have hki : ¬ (kk : Int) < 0 := by omega
      have hp2 : Lib.hasPrefix (r.extract (cutN r) r.size).data.toList [60] = true := by rw [lt_pre]; simp [hc]
      have t3 := lt_trim hc
      obtain ⟨Q, hQ⟩ : ∃ Q, Q = r.extract (cutN r) r.size := ⟨_, rfl⟩
      rw [← hQ] at hp2 t3 hhigh
      simp [hidx, hki, hcL, hlow, z0, z2, z3]
      refine call_p (q_parseVersion (r.extract 2 (cutN r)) (by rw [ext_size r (by omega) hcl]; omega)) (by simp) ?_
      cases hlv : parseV (r.extract 2 (cutN r)) with
      | none =>
        rw [hlv] at hA
        have hA5 : A = (5, ⟨#[]⟩, (0, 0, 0), (0, 0, 0)) := by cases hpl : parseV (r.extract (cutN r + 1) r.size) <;> simp [hpl] at hA <;> exact hA
        simp [hA5, e0, pvC, pvA, pvB, pvD, z0, z2, z3]
      | some lv =>
        rw [hlv] at hA
        simp [pvC, pvA, pvB, pvD, z0, z2, z3]
        refine adraw_g [0, 1, 2, 3, 4, 5, 6, 7] [6] [⟨[[.v (.int .i64 0), .v (.string ByteArray.empty), .v (.int .i64 0), .v (.int .i64 0), .v (.int .i64 0), .v (.int .i64 0), .v (.int .i64 0), .v (.int .i64 0)], [.v (.string N), .v (.int .i64 0), .v (.int .i64 0), .v (.int .i64 0), .v (.int .i64 1000), .v (.int .i64 0), .v (.int .i64 0)], [.v (.int .i64 0), .v (.int .i64 lv.1), .v (.int .i64 lv.2.1), .v (.int .i64 lv.2.2)]], noArrs ver⟩, ⟨[[.v (.int .i64 0), .v (.string ByteArray.empty), .v (.int .i64 0), .v (.int .i64 0), .v (.int .i64 0), .v (.int .i64 0), .v (.int .i64 0), .v (.int .i64 0)], [.v (.string N), .v (.int .i64 lv.1), .v (.int .i64 lv.2.1), .v (.int .i64 lv.2.2), .v (.int .i64 1000), .v (.int .i64 0), .v (.int .i64 0)], [.v (.int .i64 0), .v (.int .i64 lv.1), .v (.int .i64 lv.2.1), .v (.int .i64 lv.2.2)]], noArrs ver⟩]
          [.box 2 1, .agg [.v (.int .i64 lv.1), .v (.int .i64 lv.2.1), .v (.int .i64 lv.2.2)], .v (.string L), .v (.int .i64 kk), .v (.string Q), .box 1 1, .dead, .v (.string Q)] (by decide +kernel) rfl rfl ?_
        simp [tellG_cons, tellG_nil, onTell, yieldsTo, x6, hcL, hhigh, z0, z2, z3]
        refine call_p (q_cutPrefix Q ⟨#[60]⟩) (by simp) ?_
        simp [hp2, t3]
        refine call_p (q_parseVersion (r.extract (cutN r + 1) r.size) (by rw [ext_size r hc (Nat.le_refl _)]; omega)) (by simp) ?_
        cases hhv : parseV (r.extract (cutN r + 1) r.size) with
        | none =>
          rw [hhv] at hA
          simp only at hA
          simp [hA, e0, pvC, pvA, pvB, pvD, z0, z2, z3]
        | some hv =>
          rw [hhv] at hA
          simp only at hA
          simp [pvC, pvA, pvB, pvD, z0, z2, z3]
          refine call_p (q_termFault N _ _ _ _ _ _) (by simp) ?_
          by_cases htf : termFault N lv.1 lv.2.1 lv.2.2 hv.1 hv.2.1 hv.2.2 = 0
          · rw [if_pos htf] at hA
            simp [htf, hA, z0, z2, z3]
          · rw [if_neg htf] at hA
            simp [htf, hA, e0, z0, z2, z3]
  | false =>
    have t2 := trim_not hp
    simp [hp, t2]
    refine call_p (q_cutPrefix r ⟨#[60]⟩) (by simp) ?_
    by_cases hz : cutN r = 0
    · have hL : ptL r = some (0, 0, 0) := by unfold ptL; rw [if_pos hz]
      rw [hL] at hA
      have hwr : r.extract (cutN r) r.size = r := by rw [hz]; exact whole r
      have hp3 := lt_pre r
      rw [hwr] at hp3
      by_cases hc : cutN r < r.size
      · have hH : ptH r = parseV (r.extract (cutN r + 1) r.size) := by unfold ptH; rw [if_pos hc]
        rw [hH] at hA
        have hp2 : Lib.hasPrefix r.data.toList [60] = true := by rw [hp3]; simp [hc]
        have t3 := lt_trim hc
        rw [hwr] at t3
        simp [hp2, t3]
        refine call_p (q_parseVersion (r.extract (cutN r + 1) r.size) (by rw [ext_size r hc (Nat.le_refl _)]; omega)) (by simp) ?_
        cases hhv : parseV (r.extract (cutN r + 1) r.size) with
        | none =>
          rw [hhv] at hA
          simp only at hA
          simp [hA, e0, pvC, pvA, pvB, pvD, z0, z2, z3]
        | some hv =>
          rw [hhv] at hA
          simp only at hA
          simp [pvC, pvA, pvB, pvD, z0, z2, z3]
          refine call_p (q_termFault N _ _ _ _ _ _) (by simp) ?_
          by_cases htf : termFault N 0 0 0 hv.1 hv.2.1 hv.2.2 = 0
          · rw [if_pos htf] at hA
            simp [htf, hA, z0, z2, z3]
          · rw [if_neg htf] at hA
            simp [htf, hA, e0, z0, z2, z3]
      · have hH : ptH r = some (1000, 0, 0) := by unfold ptH; rw [if_neg hc]
        rw [hH] at hA
        have hp2 : Lib.hasPrefix r.data.toList [60] = false := by rw [hp3]; simp [hc]
        have t3 := trim_not hp2
        have hem : r = ⟨#[]⟩ := by
          rw [← hwr]
          refine ba_ext ?_
          rw [ext_list, List.drop_eq_nil_of_le (by rw [← Lib.size_eq]; omega)]
          simp
        simp only at hA
        simp [hp2, t3, hem, hpe, tre]
        refine call_p (q_termFault N _ _ _ _ _ _) (by simp) ?_
        by_cases htf : termFault N 0 0 0 1000 0 0 = 0
        · rw [if_pos htf] at hA
          simp [htf, hA, z0, z2, z3]
        · rw [if_neg htf] at hA
          simp [htf, hA, e0, z0, z2, z3]
    · have hL : ptL r = none := by unfold ptL; rw [if_neg hz, if_neg (by simp [hp])]
      rw [hL] at hA
      simp only at hA
      have hp2 : Lib.hasPrefix r.data.toList [60] = false := by
        cases h : Lib.hasPrefix r.data.toList [60] with
        | false => rfl
        | true => exact absurd (lt_zero h) hz
      have t3 := trim_not hp2
      have hne : ¬ r = ⟨#[]⟩ := by
        intro e
        apply hz
        have : r.size = 0 := by rw [e]; rfl
        omega
      simp [hp2, t3, hne, hA, e0, z0, z2, z3]

def ptT (a : Int × ByteArray × V3 × V3) : Trm := ⟨a.2.1, ⟨a.2.2.1.1, a.2.2.1.2.1, a.2.2.1.2.2⟩, ⟨a.2.2.2.1, a.2.2.2.2.1, a.2.2.2.2.2⟩⟩
theorem e_ptAV (a : Int × ByteArray × V3 × V3) : Pure Tryd.prog 27 [ptAV a, ptAV a] (.v (.bool true)) := by
  have h := e_term (ptT a)
  simp only [Trm.av, ptT] at h
  refine pure_of_code (G := (G0)) vers0 mixed0 Tryd.func27 rfl (by decide) (by simp [Tryd.f27]) (by simp) fun ver => ?_
  simp only [Tryd.f27, G0]
  simp
  refine call_p h (by simp) ?_
  simp

theorem l_parseTerm (s : ByteArray) : Pure Tryd.prog 7 [.v (.string s)] (.v (.bool true)) := by
  refine pure_of_code (G := (G0)) vers0 mixed0 Tryd.func7 rfl (by decide) (by simp [Tryd.f7]) (by simp) fun ver => ?_
  simp only [Tryd.f7, G0]
  by_cases h : 1048576 < s.size
  · have hi : (1048576 : Int) < s.size := by omega
    simp [h, hi]
  · have hi : ¬ (1048576 : Int) < s.size := by omega
    simp [h, hi]
    refine call_p (p_parseTerm s (by omega)) (by simp) ?_
    simp
    refine call_p (q_parseTerm s (by omega)) (by simp) ?_
    simp
    refine call_p (e_ptAV _) (by simp) ?_
    simp

end Go.Proofs.YtokhnmchnfkiiaaDoor.Am
