/- Terms read from texts, as the reference reads them. No conditions. -/
import Derived.Test.YtokhnmchnfkiiaaDoorAmF5
namespace Go.Proofs.YtokhnmchnfkiiaaDoor.Am
open Go Go.RowKit Go.Proofs
set_option linter.unusedSimpArgs false
set_option linter.unusedVariables false

theorem p_anyTerm (x : ByteArray) : Pure Tryd.prog 60 [.v (.string x)] (.agg [.v (.string x), .v (.int .i64 0), .v (.int .i64 0), .v (.int .i64 0), .v (.int .i64 1000), .v (.int .i64 0), .v (.int .i64 0)]) := by
  refine pure_of_code (G := (G0)) vers0 mixed0 Tryd.func60 rfl (by decide) (by simp [Tryd.f60]) (by simp) fun ver => ?_
  simp only [Tryd.f60, G0]
  simp
  refine call_p p_top (by simp) ?_
  simp
theorem q_anyTerm (x : ByteArray) : Pure Tryd.prog 63 [.v (.string x)] (.agg [.v (.string x), .v (.int .i64 0), .v (.int .i64 0), .v (.int .i64 0), .v (.int .i64 1000), .v (.int .i64 0), .v (.int .i64 0)]) := by
  refine pure_of_code (G := (G0)) vers0 mixed0 Tryd.func63 rfl (by decide) (by simp [Tryd.f63]) (by simp) fun ver => ?_
  simp only [Tryd.f63, G0]
  simp
  refine call_p q_top (by simp) ?_
  simp

theorem ext_size (s : ByteArray) {a b : Nat} (h1 : a ≤ b) (h2 : b ≤ s.size) : (s.extract a b).size = b - a := by
  rw [Lib.size_eq, ext_list, List.length_take, List.length_drop, ← Lib.size_eq]
  omega
theorem ext_nil (s : ByteArray) {b : Nat} (h2 : b ≤ s.size) : s.extract 0 b = ⟨#[]⟩ ↔ b = 0 := by
  have h := ext_size s (Nat.zero_le b) h2
  constructor
  · intro e
    rw [e] at h
    have : (⟨#[]⟩ : ByteArray).size = 0 := rfl
    omega
  · intro e
    subst e
    exact ba_ext (by rw [ext_list]; simp)
theorem ext_two (s : ByteArray) {c : Nat} (h2 : 2 ≤ c) (h3 : c ≤ s.size) : (s.extract 0 c).extract 2 c = s.extract 2 c := by
  refine ba_ext ?_
  rw [ext_list, ext_list, ext_list, List.drop_zero, Nat.sub_zero, List.drop_take, List.take_take]
  simp
/-- The prefix ">=", before the first '<'. -/
theorem pre_two (r : ByteArray) : Lib.hasPrefix r.data.toList [62, 61] = true ↔ (2 ≤ cutN r ∧ (r.extract 0 (cutN r)).extract 0 2 = ⟨#[62, 61]⟩) := by
  have hle := cutN_le r
  constructor
  · intro h
    unfold Lib.hasPrefix at h
    rw [List.isPrefixOf_iff_prefix] at h
    obtain ⟨t, ht⟩ := h
    have h2 : 2 ≤ cutN r := by
      unfold cutN
      rw [← ht]
      simp [lenW, ltW]
    refine ⟨h2, ba_ext ?_⟩
    rw [ext_list, ext_list, List.drop_zero, List.drop_zero, List.take_take, ← ht]
    simp [Nat.min_eq_left h2]
  · rintro ⟨h2, h3⟩
    have h4 : ((r.extract 0 (cutN r)).extract 0 2).data.toList = [62, 61] := by rw [h3]
    rw [ext_list, ext_list, List.drop_zero, List.drop_zero, List.take_take, Nat.sub_zero, Nat.sub_zero, Nat.min_eq_left h2] at h4
    unfold Lib.hasPrefix
    rw [List.isPrefixOf_iff_prefix]
    exact ⟨r.data.toList.drop 2, by rw [← h4, List.take_append_drop]⟩

theorem acode_cutY {G : Cfg} {nt : Nat} {c : Code} {K : Exit → St → Prop} {st : St} (id : Nat) (M : Mem) (Q : (Nat → AV) → Prop) (h : acode G nt c (fun e s => e = .exit id ∧ s.mem = M ∧ Q s.env) st) (hk : ∀ E, Q E → K (.exit id) ⟨E, M⟩) : acode G nt c K st :=
  acode_mono c (fun e s hs => by
    obtain ⟨rfl, hm, hq⟩ := hs
    cases s with
    | mk E m => cases hm; exact hk E hq) h
set_option maxHeartbeats 16000000 in
set_option maxRecDepth 10000 in
theorem p_parseTerm (s : ByteArray) (hs : s.size ≤ 1048576) : Pure Tryd.prog 25 [.v (.string s)] (ptAV (ptA s)) := by
  obtain ⟨A, hA⟩ : ∃ A, A = ptA s := ⟨_, rfl⟩
  rw [← hA]
  unfold ptA at hA
  have hl := ldN_le s
  obtain ⟨N, hN⟩ : ∃ N, N = ptN s := ⟨_, rfl⟩
  obtain ⟨r, hr⟩ : ∃ r, r = ptR s := ⟨_, rfl⟩
  rw [← hN, ← hr] at hA
  have hrs : r.size = s.size - ldN s := by rw [hr]; exact ext_size s hl (Nat.le_refl _)
  have hcl := cutN_le r
  refine pure_of_code (G := (G0)) vers0 mixed0 Tryd.func25 rfl (by decide) (by simp [Tryd.f25]) (by simp) fun ver => ?_
  simp only [Tryd.f25, G0]
  simp
  refine acode_cutY 0 ⟨[[.v (.int .i64 0), .v (.string ByteArray.empty), .v (.int .i64 0), .v (.int .i64 0), .v (.int .i64 0), .v (.int .i64 0), .v (.int .i64 0), .v (.int .i64 0)]], noArrs ver⟩ (fun E => E 0 = .v (.string s) ∧ E 2 = .box 0 0 ∧ E 3 = .v (.int .i64 (ldN s))) ?_ ?_
  · refine aloop (α := Nat) (fun i => ⟨envOf [(0, .v (.string s)), (2, .box 0 0), (3, .v (.int .i64 i))], ⟨[[.v (.int .i64 0), .v (.string ByteArray.empty), .v (.int .i64 0), .v (.int .i64 0), .v (.int .i64 0), .v (.int .i64 0), .v (.int .i64 0), .v (.int .i64 0)]], noArrs ver⟩⟩)
      (fun i => i ≤ s.size ∧ i + lenW nmW (s.data.toList.drop i) = ldN s) (fun i => s.size - i) 0 (less_envOf (by simp) (by simp) fun _ => rfl) (by simp [ldN]) ?_
    rintro i ⟨g1, g2⟩
    by_cases hlt : i < s.size
    · have hlti : (i : Int) < s.size := by omega
      have hw : IntKind.i64.wrap ((i : Int) + 1) = ((i + 1 : Nat) : Int) := by rw [IntWalk.i64_in _ (by omega)]; omega
      obtain ⟨b, hb1, hb2⟩ := drop_byte hlt
      rw [hb1, lenW] at g2
      simp [hlt, hlti]
      refine call_p (p_nameB _) (by simp) ?_
      by_cases hnm : nmW b = true
      · rw [if_pos hnm] at g2
        have hnb : nameB (bAt s i) = true := by rw [hb2]; exact hnm
        simp [hnb]
        exact ⟨i + 1, less_envOf (by simp [hw]) rfl fun _ => rfl, ⟨by omega, by omega⟩, by omega⟩
      · rw [if_neg hnm] at g2
        have hnb : nameB (bAt s i) = false := by rw [hb2]; simpa [nmW] using hnm
        have hi : i = ldN s := by omega
        subst hi
        simp [hnb]
    · rw [List.drop_eq_nil_of_le (by rw [← Lib.size_eq]; omega), lenW] at g2
      have hlti : ¬ (i : Int) < s.size := by omega
      have hi : i = ldN s := by omega
      subst hi
      simp [hlti, hlt]
  rintro E ⟨z0, z2, z3⟩
  have hN' : s.extract 0 (ldN s) = N := hN.symm
  have hr' : s.extract (ldN s) s.size = r := hr.symm
  simp [z0, z2, z3, hl, hN']
  refine call_p (p_anyTerm N) (by simp) ?_
  simp
  refine call_p (p_nameFault N) (by simp) ?_
  by_cases hnf : nameFault N = 0
  case neg =>
    rw [if_pos hnf] at hA
    simp [hnf, hA, z0, z2, z3]
    rfl
  rw [if_neg (by simp [hnf])] at hA
  simp [hnf, z0, z2, z3, hl, hr']
  refine acode_cutY 2 ⟨[[.v (.int .i64 0), .v (.string ByteArray.empty), .v (.int .i64 0), .v (.int .i64 0), .v (.int .i64 0), .v (.int .i64 0), .v (.int .i64 0), .v (.int .i64 0)], [.v (.string N), .v (.int .i64 0), .v (.int .i64 0), .v (.int .i64 0), .v (.int .i64 1000), .v (.int .i64 0), .v (.int .i64 0)]], noArrs ver⟩
    (fun E => E 2 = .box 0 0 ∧ E 4 = .box 1 0 ∧ E 5 = .v (.string r) ∧ E 6 = .v (.string ⟨#[]⟩) ∧ E 7 = .v (.int .i64 (cutN r))) ?_ ?_
  · refine aloop (α := Nat) (fun i => ⟨envOf [(2, .box 0 0), (4, .box 1 0), (5, .v (.string r)), (6, .v (.string ⟨#[]⟩)), (7, .v (.int .i64 i))], ⟨[[.v (.int .i64 0), .v (.string ByteArray.empty), .v (.int .i64 0), .v (.int .i64 0), .v (.int .i64 0), .v (.int .i64 0), .v (.int .i64 0), .v (.int .i64 0)], [.v (.string N), .v (.int .i64 0), .v (.int .i64 0), .v (.int .i64 0), .v (.int .i64 1000), .v (.int .i64 0), .v (.int .i64 0)]], noArrs ver⟩⟩)
      (fun i => i ≤ r.size ∧ i + lenW ltW (r.data.toList.drop i) = cutN r) (fun i => r.size - i) 0 (less_envOf (by simp [z2]) (by simp) fun _ => rfl) (by simp [cutN]) ?_
    rintro i ⟨g1, g2⟩
    by_cases hlt : i < r.size
    · have hlti : (i : Int) < r.size := by omega
      have hw : IntKind.i64.wrap ((i : Int) + 1) = ((i + 1 : Nat) : Int) := by rw [IntWalk.i64_in _ (by omega)]; omega
      obtain ⟨b, hb1, hb2⟩ := drop_byte hlt
      rw [hb1, lenW] at g2
      by_cases hnm : b = 60
      · have hlb : ¬ ltW b = true := by simp [ltW, hnm]
        rw [if_neg hlb] at g2
        have hnb : bAt r i = 60 := by rw [hb2, hnm]; rfl
        have hi : i = cutN r := by omega
        subst hi
        simp [hlt, hlti, hnb]
      · have hlb : ltW b = true := by simp [ltW, hnm]
        rw [if_pos hlb] at g2
        have hnb : ¬ bAt r i = 60 := by
          rw [hb2]
          intro e
          exact hnm (by apply UInt8.toNat_inj.1; show b.toNat = 60; omega)
        simp [hlt, hlti, hnb]
        exact ⟨i + 1, less_envOf (by simp [hw]) rfl fun _ => rfl, ⟨by omega, by omega⟩, by omega⟩
    · rw [List.drop_eq_nil_of_le (by rw [← Lib.size_eq]; omega), lenW] at g2
      have hlti : ¬ (i : Int) < r.size := by omega
      have hi : i = cutN r := by omega
      subst hi
      simp [hlti, hlt]
  clear z0 z2 z3 E
  rintro E ⟨z2, z4, z5, z6, z7⟩
  have e0 : ByteArray.empty = ⟨#[]⟩ := rfl
  by_cases hc : cutN r < r.size
  · have hci : (cutN r : Int) < r.size := by omega
    have hw : IntKind.i64.wrap ((cutN r : Int) + 1) = ((cutN r + 1 : Nat) : Int) := by rw [IntWalk.i64_in _ (by omega)]; omega
    have hc1 : cutN r + 1 ≤ r.size := hc
    have hc0 : (0 : Int) ≤ cutN r + 1 := by omega
    have hH : ptH r = parseV (r.extract (cutN r + 1) r.size) := by unfold ptH; rw [if_pos hc]
    rw [hH] at hA
    simp [z2, z4, z5, z6, z7, hc, hci, hw, hc1, hc0]
    refine call_p (p_parseVersion (r.extract (cutN r + 1) r.size) (by rw [ext_size r hc1 (Nat.le_refl _)]; omega)) (by simp) ?_
    cases hhv : parseV (r.extract (cutN r + 1) r.size) with
    | none =>
      rw [hhv] at hA
      have hA5 : A = (5, ⟨#[]⟩, (0, 0, 0), (0, 0, 0)) := by cases hpl : ptL r <;> simp [hpl] at hA <;> exact hA
      simp [hA5, e0, pvC, pvA, pvB, pvD, z2, z4, z5, z6, z7]
    | some hv =>
      rw [hhv] at hA
      simp [pvC, pvA, pvB, pvD, z2, z4, z5, z6, z7, hcl]
      have hls : (r.extract 0 (cutN r)).size = cutN r := by rw [ext_size r (Nat.zero_le _) hcl]; omega
      by_cases hz : cutN r = 0
      · have hlow : r.extract 0 (cutN r) = ⟨#[]⟩ := (ext_nil r hcl).2 hz
        have hL : ptL r = some (0, 0, 0) := by unfold ptL; rw [if_pos hz]
        rw [hL] at hA
        simp [hlow, hcl]
        refine call_p (p_termFault N _ _ _ _ _ _) (by simp) ?_
        simp only at hA
        by_cases htf : termFault N 0 0 0 hv.1 hv.2.1 hv.2.2 = 0
        · rw [if_pos htf] at hA
          simp [htf, hA, z2, z4]
        · rw [if_neg htf] at hA
          simp [htf, hA, e0, z2, z4]
      have hlow : ¬ r.extract 0 (cutN r) = ⟨#[]⟩ := fun e => hz ((ext_nil r hcl).1 e)
      have hlow' : ¬ (cutN r : Int) = 0 := by omega
      by_cases h2 : cutN r < 2
      · have hL : ptL r = none := by
          unfold ptL
          rw [if_neg hz, if_neg fun e => by have := (pre_two r).1 e; omega]
        have h2i : (cutN r : Int) < 2 := by omega
        have h2c : ¬ (2 : Int) ≤ cutN r := by omega
        rw [hL] at hA
        simp only at hA
        simp [hlow, hcl, hls, h2, h2i, h2c, hA, e0, z2, z4]
      have h2i : ¬ (cutN r : Int) < 2 := by omega
      have h2c : (2 : Int) ≤ cutN r := by omega
      have h2n : 2 ≤ cutN r := by omega
      by_cases h3 : (r.extract 0 (cutN r)).extract 0 2 = ⟨#[62, 61]⟩
      case neg =>
        have hL : ptL r = none := by
          unfold ptL
          rw [if_neg hz, if_neg fun e => h3 ((pre_two r).1 e).2]
        rw [hL] at hA
        simp only at hA
        simp [hlow, hcl, hls, h2, h2i, h2n, h2c, h3, hA, e0, z2, z4]
      have hL : ptL r = parseV (r.extract 2 (cutN r)) := by
        unfold ptL
        rw [if_neg hz, if_pos ((pre_two r).2 ⟨h2n, h3⟩)]
      rw [hL] at hA
      have he2 := ext_two r h2n hcl
      simp [hlow, hcl, hls, h2, h2i, h2n, h2c, h3, he2, z2, z4]
      refine call_p (p_parseVersion (r.extract 2 (cutN r)) (by rw [ext_size r h2n hcl]; omega)) (by simp) ?_
      cases hlv : parseV (r.extract 2 (cutN r)) with
      | none =>
        rw [hlv] at hA
        simp only at hA
        simp [hA, e0, pvC, pvA, pvB, pvD, z2, z4]
      | some lv =>
        rw [hlv] at hA
        simp only at hA
        simp [pvC, pvA, pvB, pvD, z2, z4]
        refine call_p (p_termFault N _ _ _ _ _ _) (by simp) ?_
        by_cases htf : termFault N lv.1 lv.2.1 lv.2.2 hv.1 hv.2.1 hv.2.2 = 0
        · rw [if_pos htf] at hA
          simp [htf, hA, z2, z4]
        · rw [if_neg htf] at hA
          simp [htf, hA, e0, z2, z4]
  · have hci : ¬ (cutN r : Int) < r.size := by omega
    have hH : ptH r = some (1000, 0, 0) := by unfold ptH; rw [if_neg hc]
    rw [hH] at hA
    simp [z2, z4, z5, z6, z7, hc, hci, hcl]
    have hls : (r.extract 0 (cutN r)).size = cutN r := by rw [ext_size r (Nat.zero_le _) hcl]; omega
    by_cases hz : cutN r = 0
    · have hlow : r.extract 0 (cutN r) = ⟨#[]⟩ := (ext_nil r hcl).2 hz
      have hL : ptL r = some (0, 0, 0) := by unfold ptL; rw [if_pos hz]
      rw [hL] at hA
      simp [hlow, hcl]
      refine call_p (p_termFault N _ _ _ _ _ _) (by simp) ?_
      simp only at hA
      by_cases htf : termFault N 0 0 0 1000 0 0 = 0
      · rw [if_pos htf] at hA
        simp [htf, hA, z2, z4]
      · rw [if_neg htf] at hA
        simp [htf, hA, e0, z2, z4]
    have hlow : ¬ r.extract 0 (cutN r) = ⟨#[]⟩ := fun e => hz ((ext_nil r hcl).1 e)
    have hlow' : ¬ (cutN r : Int) = 0 := by omega
    by_cases h2 : cutN r < 2
    · have hL : ptL r = none := by
        unfold ptL
        rw [if_neg hz, if_neg fun e => by have := (pre_two r).1 e; omega]
      have h2i : (cutN r : Int) < 2 := by omega
      have h2c : ¬ (2 : Int) ≤ cutN r := by omega
      rw [hL] at hA
      simp only at hA
      simp [hlow, hcl, hls, h2, h2i, h2c, hA, e0, z2, z4]
    have h2i : ¬ (cutN r : Int) < 2 := by omega
    have h2c : (2 : Int) ≤ cutN r := by omega
    have h2n : 2 ≤ cutN r := by omega
    by_cases h3 : (r.extract 0 (cutN r)).extract 0 2 = ⟨#[62, 61]⟩
    case neg =>
      have hL : ptL r = none := by
        unfold ptL
        rw [if_neg hz, if_neg fun e => h3 ((pre_two r).1 e).2]
      rw [hL] at hA
      simp only at hA
      simp [hlow, hcl, hls, h2, h2i, h2n, h2c, h3, hA, e0, z2, z4]
    have hL : ptL r = parseV (r.extract 2 (cutN r)) := by
      unfold ptL
      rw [if_neg hz, if_pos ((pre_two r).2 ⟨h2n, h3⟩)]
    rw [hL] at hA
    have he2 := ext_two r h2n hcl
    simp [hlow, hcl, hls, h2, h2i, h2n, h2c, h3, he2, z2, z4]
    refine call_p (p_parseVersion (r.extract 2 (cutN r)) (by rw [ext_size r h2n hcl]; omega)) (by simp) ?_
    cases hlv : parseV (r.extract 2 (cutN r)) with
    | none =>
      rw [hlv] at hA
      simp only at hA
      simp [hA, e0, pvC, pvA, pvB, pvD, z2, z4]
    | some lv =>
      rw [hlv] at hA
      simp only at hA
      simp [pvC, pvA, pvB, pvD, z2, z4]
      refine call_p (p_termFault N _ _ _ _ _ _) (by simp) ?_
      by_cases htf : termFault N lv.1 lv.2.1 lv.2.2 1000 0 0 = 0
      · rw [if_pos htf] at hA
        simp [htf, hA, z2, z4]
      · rw [if_neg htf] at hA
        simp [htf, hA, e0, z2, z4]

end Go.Proofs.YtokhnmchnfkiiaaDoor.Am
