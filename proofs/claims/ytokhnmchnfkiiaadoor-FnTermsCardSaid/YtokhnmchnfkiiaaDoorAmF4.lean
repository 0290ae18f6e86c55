/- Versions read from texts, by both sides. No conditions. -/
import Derived.Test.YtokhnmchnfkiiaaDoorAmF3
namespace Go.Proofs.YtokhnmchnfkiiaaDoor.Am
open Go Go.RowKit Go.Proofs
set_option linter.unusedSimpArgs false
set_option linter.unusedVariables false

/-- The parts' numbers into three, from the i-th on; none: one is no number. -/
def prsV : List ByteArray → Nat → Int × Int × Int → Option (Int × Int × Int)
  | [], _, v => some v
  | p :: l, i, v => if numF p 3 = -1 then none else prsV l (i + 1) (if i = 0 then (numF p 3, v.2.1, v.2.2) else if i = 1 then (v.1, numF p 3, v.2.2) else (v.1, v.2.1, numF p 3))
def parseV (s : ByteArray) : Option (Int × Int × Int) := if 3 < (pcs s 46 s.size 0 0).length then none else prsV (pcs s 46 s.size 0 0) 0 (0, 0, 0)
def pvC (R : Option (Int × Int × Int)) : Int := match R with | none => 5 | some _ => 0
def pvA (R : Option (Int × Int × Int)) : Int := match R with | none => 0 | some v => v.1
def pvB (R : Option (Int × Int × Int)) : Int := match R with | none => 0 | some v => v.2.1
def pvD (R : Option (Int × Int × Int)) : Int := match R with | none => 0 | some v => v.2.2
/-- What ParseVersion answers: a code and a version. -/
@[reducible] def parseR (R : Option (Int × Int × Int)) : AV := .agg [.v (.int .i64 (pvC R)), .v (.int .i64 (pvA R)), .v (.int .i64 (pvB R)), .v (.int .i64 (pvD R))]
theorem prsV_step {L : List ByteArray} {i : Nat} {v : Int × Int × Int} (h : i < L.length) : prsV (L.drop i) i v = if numF L[i] 3 = -1 then none else prsV (L.drop (i + 1)) (i + 1) (if i = 0 then (numF L[i] 3, v.2.1, v.2.2) else if i = 1 then (v.1, numF L[i] 3, v.2.2) else (v.1, v.2.1, numF L[i] 3)) := by
  rw [List.drop_eq_getElem_cons h]
  rfl

theorem wr1 : IntKind.i64.wrap 1 = 1 := by decide
theorem wr2 : IntKind.i64.wrap 2 = 2 := by decide
theorem wr3 : IntKind.i64.wrap 3 = 3 := by decide

set_option maxHeartbeats 8000000 in
theorem q_parseVersion (s : ByteArray) (hs : s.size ≤ 1048576) : Pure Tryd.prog 15 [.v (.string s)] (parseR (parseV s)) := by
  have hq := q_split s hs 46
  obtain ⟨L, hL⟩ : ∃ L, L = pcs s 46 s.size 0 0 := ⟨_, rfl⟩
  rw [← hL] at hq
  obtain ⟨R, hR⟩ : ∃ R, R = parseV s := ⟨_, rfl⟩
  rw [← hR]
  rw [parseV, ← hL] at hR
  by_cases h3 : 3 < L.length
  · rw [if_pos h3] at hR
    subst hR
    have h3i : (3 : Int) < L.length := by omega
    refine pure_of_code (G := (G0)) vers0 mixed0 Tryd.func15 rfl (by decide) (by simp [Tryd.f15]) (by simp) fun ver => ?_
    simp only [Tryd.f15, G0]
    simp
    refine call_p hq (by simp) ?_
    simp [h3, h3i, pvC, pvA, pvB, pvD]
  · rw [if_neg h3] at hR
    have h3i : ¬ (3 : Int) < L.length := by omega
    refine pure_of_code (G := (G0)) vers0 mixed0 Tryd.func15 rfl (by decide) (by simp [Tryd.f15]) (by simp) fun ver => ?_
    simp only [Tryd.f15, G0]
    simp
    refine call_p hq (by simp) ?_
    simp [h3, h3i]
    refine aloop (α := Nat × Int × Int × Int) (fun q => ⟨envOf [(2, .box 0 0), (4, .box 1 0), (14, strsAV false L), (15, .v (.int .i64 L.length)), (16, .v (.int .i64 q.1))], ⟨[[.v (.int .i64 0), .v (.int .i64 0), .v (.int .i64 0), .v (.int .i64 0)], [.v (.int .i64 q.2.1), .v (.int .i64 q.2.2.1), .v (.int .i64 q.2.2.2)]], noArrs ver⟩⟩)
      (fun q => q.1 ≤ L.length ∧ prsV (L.drop q.1) q.1 q.2 = R) (fun q => L.length - q.1) (0, 0, 0, 0) (less_envOf (by simp) (by simp) fun _ => rfl) (by simp [hR]) ?_
    rintro ⟨i, x, y, z⟩ ⟨g1, g2⟩
    simp only at g1 g2 ⊢
    by_cases hlt : i < L.length
    · have hw : IntKind.i64.wrap ((i : Int) + 1) = ((i + 1 : Nat) : Int) := by rw [IntWalk.i64_in _ (by omega)]; omega
      have hlti : (i : Int) < L.length := by omega
      rw [prsV_step hlt] at g2
      have hnm := q_number L[i] 3 (by omega)
      have hcs := numF_cases L[i] 3
      obtain ⟨N, hN⟩ : ∃ N, N = numF L[i] 3 := ⟨_, rfl⟩
      rw [← hN] at g2 hnm hcs
      have h012 : i = 0 ∨ i = 1 ∨ i = 2 := by omega
      by_cases hm : N = -1
      · rw [if_pos hm] at g2
        subst g2
        simp [hlt, hlti]
        refine call_p hnm (by simp) ?_
        rcases h012 with rfl | rfl | rfl <;> simp [hm, pvC, pvA, pvB, pvD]
      · rw [if_neg hm] at g2
        have hn0 : ¬ N < 0 := by omega
        simp [hlt, hlti]
        refine call_p hnm (by simp) ?_
        rcases h012 with rfl | rfl | rfl
        · simp [hn0]
          refine ⟨1, N, y, z, less_envOf (by simp [wr1, wr2, wr3]) (by simp) (fun _ => rfl), ⟨by omega, by simpa using g2⟩, by omega⟩
        · simp [hn0]
          refine ⟨2, x, N, z, less_envOf (by simp [wr1, wr2, wr3]) (by simp) (fun _ => rfl), ⟨by omega, by simpa using g2⟩, by omega⟩
        · simp [hn0]
          refine ⟨3, x, y, N, less_envOf (by simp [wr1, wr2, wr3]) (by simp) (fun _ => rfl), ⟨by omega, by simpa using g2⟩, by omega⟩
    · have hlti : ¬ (i : Int) < L.length := by omega
      rw [List.drop_eq_nil_of_le (by omega), prsV] at g2
      subst g2
      simp [hlt, hlti, pvC, pvA, pvB, pvD]

set_option maxHeartbeats 8000000 in
theorem p_parseVersion (s : ByteArray) (hs : s.size ≤ 1048576) : Pure Tryd.prog 14 [.v (.string s)] (parseR (parseV s)) := by
  have hq := p_parts s hs 46
  obtain ⟨L, hL⟩ : ∃ L, L = pcs s 46 s.size 0 0 := ⟨_, rfl⟩
  rw [← hL] at hq
  have hq' : Pure Tryd.prog 46 [.v (.string s), .v (.int .u8 46)] (strsAV false L) := hq
  obtain ⟨R, hR⟩ : ∃ R, R = parseV s := ⟨_, rfl⟩
  rw [← hR]
  rw [parseV, ← hL] at hR
  by_cases h3 : 3 < L.length
  · rw [if_pos h3] at hR
    subst hR
    have h3i : (3 : Int) < L.length := by omega
    refine pure_of_code (G := (G0)) vers0 mixed0 Tryd.func14 rfl (by decide) (by simp [Tryd.f14]) (by simp) fun ver => ?_
    simp only [Tryd.f14, G0]
    simp
    refine call_p hq' (by simp) ?_
    simp [h3, h3i, pvC, pvA, pvB, pvD]
  · rw [if_neg h3] at hR
    have h3i : ¬ (3 : Int) < L.length := by omega
    refine pure_of_code (G := (Go1 14)) (verso 14) mixed0 Tryd.func14 rfl (by decide) (by simp [Tryd.f14]) (by simp) fun ver => ?_
    simp only [Tryd.f14, Go1]
    simp
    refine call_p hq' (by simp) ?_
    simp [h3, h3i, Mem.made, sealRows, sealCells, List.range_succ]
    refine aloop (α := Nat × Int × Int × Int) (fun q => ⟨envOf [(2, .box 0 0), (3, strsAV false L), (4, .arr 14 (ver 14 + 1) 0 3), (5, .v (.int .i64 q.1))], ⟨[[.v (.int .i64 0), .v (.int .i64 0), .v (.int .i64 0), .v (.int .i64 0)]], arrU 14 (ver 14 + 1) 2 [[.v (.int .i64 q.2.1)], [.v (.int .i64 q.2.2.1)], [.v (.int .i64 q.2.2.2)]] ver⟩⟩)
      (fun q => q.1 ≤ L.length ∧ prsV (L.drop q.1) q.1 q.2 = R) (fun q => L.length - q.1) (0, 0, 0, 0) (less_envOf (by simp [noArrs]) (by simp) (by intro j; simp [arrU, noArrs])) (by simp [hR]) ?_
    rintro ⟨i, x, y, z⟩ ⟨g1, g2⟩
    simp only at g1 g2 ⊢
    by_cases hlt : i < L.length
    · have hw : IntKind.i64.wrap ((i : Int) + 1) = ((i + 1 : Nat) : Int) := by rw [IntWalk.i64_in _ (by omega)]; omega
      have hlti : (i : Int) < L.length := by omega
      rw [prsV_step hlt] at g2
      have hnm := p_number L[i] 3 (by omega)
      have hcs := numF_cases L[i] 3
      obtain ⟨N, hN⟩ : ∃ N, N = numF L[i] 3 := ⟨_, rfl⟩
      rw [← hN] at g2 hnm hcs
      have h012 : i = 0 ∨ i = 1 ∨ i = 2 := by omega
      by_cases hm : N = -1
      · rw [if_pos hm] at g2
        subst g2
        rw [if_pos hm] at hnm
        have hdm : decide (¬ N = -1) = false := by simp [hm]
        rw [hdm] at hnm
        simp [hlt, hlti]
        refine call_p hnm (by simp) ?_
        simp [pvC, pvA, pvB, pvD]
      · rw [if_neg hm] at g2 hnm
        have hdm : decide (¬ N = -1) = true := by simp [hm]
        rw [hdm] at hnm
        simp [hlt, hlti]
        refine call_p hnm (by simp) ?_
        rcases h012 with rfl | rfl | rfl
        · simp [arrU]
          refine ⟨1, N, y, z, less_envOf (by simp [wr1, wr2, wr3]) (by simp) (by intro j; by_cases hj : j = 14 <;> simp [hj, arrU]), ⟨by omega, by simpa using g2⟩, by omega⟩
        · simp [arrU]
          refine ⟨2, x, N, z, less_envOf (by simp [wr1, wr2, wr3]) (by simp) (by intro j; by_cases hj : j = 14 <;> simp [hj, arrU]), ⟨by omega, by simpa using g2⟩, by omega⟩
        · simp [arrU]
          refine ⟨3, x, y, N, less_envOf (by simp [wr1, wr2, wr3]) (by simp) (by intro j; by_cases hj : j = 14 <;> simp [hj, arrU]), ⟨by omega, by simpa using g2⟩, by omega⟩
    · have hlti : ¬ (i : Int) < L.length := by omega
      rw [List.drop_eq_nil_of_le (by omega), prsV] at g2
      subst g2
      have x11 : List.idxOf 11 [11] = 0 := by decide
      simp [hlt, hlti]
      refine adraw_g [0, 1, 2, 3, 4, 5, 6, 7, 8, 9, 10, 11] [11] [⟨[[.v (.int .i64 0), .v (.int .i64 0), .v (.int .i64 0), .v (.int .i64 0)]], arrU 14 (ver 14 + 1) 2 [[.v (.int .i64 x)], [.v (.int .i64 y)], [.v (.int .i64 z)]] ver⟩, ⟨[[.v (.int .i64 0), .v (.int .i64 x), .v (.int .i64 y), .v (.int .i64 z)]], arrU 14 (ver 14 + 1) 2 [[.v (.int .i64 x)], [.v (.int .i64 y)], [.v (.int .i64 z)]] ver⟩]
        [.arr 14 (ver 14 + 1) 0 3, .ael 14 (ver 14 + 1) 0 0, .v (.int .i64 x), .arr 14 (ver 14 + 1) 0 3, .ael 14 (ver 14 + 1) 1 0, .v (.int .i64 y), .arr 14 (ver 14 + 1) 0 3, .ael 14 (ver 14 + 1) 2 0, .v (.int .i64 z), .agg [.v (.int .i64 x), .v (.int .i64 y), .v (.int .i64 z)], .agg [.v (.int .i64 0), .v (.int .i64 x), .v (.int .i64 y), .v (.int .i64 z)], .dead] (by decide +kernel) rfl rfl ?_
      simp [tellG_cons, tellG_nil, onTell, yieldsTo, x11, arrU]
      simp [pvC, pvA, pvB, pvD]

theorem e_parseR (R : Option (Int × Int × Int)) : Pure Tryd.prog 16 [parseR R, parseR R] (.v (.bool true)) := by
  refine pure_of_code (G := (G0)) vers0 mixed0 Tryd.func16 rfl (by decide) (by simp [Tryd.f16]) (by simp) fun ver => ?_
  simp only [Tryd.f16, G0]
  simp
  refine call_p (e_version _ _ _) (by simp) ?_
  simp

theorem l_parseVersion (s : ByteArray) : Pure Tryd.prog 4 [.v (.string s)] (.v (.bool true)) := by
  refine pure_of_code (G := (G0)) vers0 mixed0 Tryd.func4 rfl (by decide) (by simp [Tryd.f4]) (by simp) fun ver => ?_
  simp only [Tryd.f4, G0]
  by_cases h : 1048576 < s.size
  · have hi : (1048576 : Int) < s.size := by omega
    simp [h, hi]
  · have hi : ¬ (1048576 : Int) < s.size := by omega
    simp [h, hi]
    refine call_p (p_parseVersion s (by omega)) (by simp) ?_
    simp
    refine call_p (q_parseVersion s (by omega)) (by simp) ?_
    simp
    refine call_p (e_parseR _) (by simp) ?_
    simp

end Go.Proofs.YtokhnmchnfkiiaaDoor.Am
