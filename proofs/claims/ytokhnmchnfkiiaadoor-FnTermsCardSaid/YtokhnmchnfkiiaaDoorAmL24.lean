/- The law FnTerms: what is to be shown of the row's function. No conditions. -/
import Derived.Test.YtokhnmchnfkiiaaDoorAmH5
namespace Go.Proofs.YtokhnmchnfkiiaaDoor.Am
open Go Go.RowKit Go.Proofs
set_option linter.unusedSimpArgs false
set_option linter.unusedVariables false

theorem trmS_size {x : ByteArray} {a b c d e f : Int} (h : termFault x a b c d e f = 0) : (trmS x a b c d e f).size ≤ 1048576 := by
  obtain ⟨h1, h2, h3⟩ := trm_zero h
  have s1 := verS_size h2
  have l1 : (⟨#[62, 61]⟩ : ByteArray).size = 2 := rfl
  have l2 : (⟨#[60]⟩ : ByteArray).size = 1 := rfl
  have hlo : (loS x a b c).size ≤ 3016 := by
    unfold loS
    split
    · omega
    · simp only [ByteArray.size_append, l1]; omega
  unfold trmS
  split
  · omega
  · rename_i h4
    have s2 := verS_size (h3.resolve_left h4)
    simp only [ByteArray.size_append, l2]; omega

set_option maxHeartbeats 8000000 in
set_option maxRecDepth 20000 in
theorem l_fnTerms (l : List Int) (hl : ∀ b ∈ l, 0 ≤ b ∧ b < 256) : Pure Tryd.prog 8 [.sl true (l.map bytCells)] (.v (.bool true)) := by
  refine pure_of_code (G := (G0)) vers0 mixed0 Tryd.func8 rfl (by decide) (by simp [Tryd.f8]) (by simp) fun ver => ?_
  simp only [Tryd.f8, G0]
  simp
  refine call_p (p_big l) (by simp) ?_
  by_cases hbig : 1048576 < l.length
  · simp [hbig]
  have hb : Byt l := ⟨by omega, hl⟩
  simp [hbig]
  refine call_ic (i_drawMeet l hb ⟨[], noArrs ver⟩) rfl (by simp) (icok (by decide) (by decide)) ?_
  rintro r m' ⟨⟨A, B, rfl⟩, rfl⟩
  simp
  have hq := q_meet A B
  have hp := p_meet A B
  have hbad := @meet_bad A B
  have hok := @meet_ok A B
  obtain ⟨R, hR⟩ : ∃ R, R = meetK A B := ⟨_, rfl⟩
  rw [← hR] at hq hp hbad hok
  obtain ⟨K, M⟩ := R
  simp only at hq hp hbad hok
  refine call_p hq (by simp) ?_
  simp
  refine call_p (p_at l hb 3 5 (by decide) (by decide) (by decide) (by decide)) (by simp) ?_
  simp
  refine call_p (p_at l hb 4 3 (by decide) (by decide) (by decide) (by decide)) (by simp) ?_
  obtain ⟨x, hx⟩ : ∃ x, x = lwV l 3 5 := ⟨_, rfl⟩
  obtain ⟨y, hy⟩ : ∃ y, y = lwV l 4 3 := ⟨_, rfl⟩
  simp [← hx, ← hy]
  have hqA := q_inTerm A A.n ⟨x, y, 0⟩
  have hqB := q_inTerm B A.n ⟨x, y, 0⟩
  have hbad := fun h => hbad h ⟨x, y, 0⟩
  have hqM := q_inTerm M A.n ⟨x, y, 0⟩
  obtain ⟨P, hP⟩ : ∃ P, P = inTermF A A.n ⟨x, y, 0⟩ := ⟨_, rfl⟩
  obtain ⟨Q, hQ⟩ : ∃ Q, Q = inTermF B A.n ⟨x, y, 0⟩ := ⟨_, rfl⟩
  rw [← hP] at hqA
  rw [← hQ] at hqB
  rw [← hP, ← hQ] at hbad
  refine call_p hqA (by simp) ?_
  by_cases hK : K = 0
  · obtain ⟨t1, t2, t3, t4, t5⟩ := hok hK
    have t4 := t4 ⟨x, y, 0⟩
    rw [← hP, ← hQ] at t4
    rw [t4] at hqM
    have hf : fmtT A.n A.lo.a A.lo.b A.lo.c A.hi.a A.hi.b A.hi.c = trmS A.n A.lo.a A.lo.b A.lo.c A.hi.a A.hi.b A.hi.c := if_pos t1
    have hs : (trmS A.n A.lo.a A.lo.b A.lo.c A.hi.a A.hi.b A.hi.c).size ≤ 1048576 := trmS_size t1
    have hpt := q_parseTerm _ hs
    rw [ptA_trmS t1] at hpt
    have hfm := q_formatTerm A.n A.lo.a A.lo.b A.lo.c A.hi.a A.hi.b A.hi.c
    rw [hf] at hfm
    obtain ⟨Z, hZ⟩ : ∃ Z, Z = trmS A.n A.lo.a A.lo.b A.lo.c A.hi.a A.hi.b A.hi.c := ⟨_, rfl⟩
    rw [← hZ] at hpt hfm
    have hqL := q_inTerm M A.n M.lo
    rw [t5] at hqL
    have t2 : termFault A.n M.lo.a M.lo.b M.lo.c M.hi.a M.hi.b M.hi.c = 0 := by rw [← t3]; exact t2
    have htf := q_termFault A.n M.lo.a M.lo.b M.lo.c M.hi.a M.hi.b M.hi.c
    rw [t2] at htf
    have t3 : M.n = A.n := t3
    have hM : (⟨A.n, M.lo, M.hi⟩ : Trm) = M := by rw [← t3]
    have hqL : Pure Tryd.prog 31 [(⟨A.n, M.lo, M.hi⟩ : Trm).av, .v (.string A.n), M.lo.av] (.v (.bool true)) := by rw [hM]; exact hqL
    cases hPv : P with
    | false =>
      rw [hPv] at hqM
      simp [hPv, hK]
      refine call_p hfm (by simp) ?_
      simp
      refine call_p hpt (by simp) ?_
      simp
      refine call_p hqM (by simp) ?_
      simp [t3]
      refine call_p htf (by simp) ?_
      simp
      refine call_p hqL (by simp) ?_
      simp
    | true =>
      rw [hPv] at hqM
      cases hQv : Q with
      | false =>
        rw [hQv] at hqB hqM
        simp [hPv]
        refine call_p hqB (by simp) ?_
        simp [hK]
        refine call_p hfm (by simp) ?_
        simp
        refine call_p hpt (by simp) ?_
        simp
        refine call_p hqM (by simp) ?_
        simp [t3]
        refine call_p htf (by simp) ?_
        simp
        refine call_p hqL (by simp) ?_
        simp
      | true =>
        rw [hQv] at hqB hqM
        simp [hPv]
        refine call_p hqB (by simp) ?_
        simp [hK]
        refine call_p hfm (by simp) ?_
        simp
        refine call_p hpt (by simp) ?_
        simp
        refine call_p hqM (by simp) ?_
        simp [t3]
        refine call_p htf (by simp) ?_
        simp
        refine call_p hqL (by simp) ?_
        simp
  · have hbad := hbad hK
    cases hPv : P with
    | false =>
      simp [hPv, hK]
      refine adraw_all (by kernel_rfl) ?_
      simp
      refine call_p hp (by simp) ?_
      simp
    | true =>
      cases hQv : Q with
      | true => exact (hbad ⟨hPv, hQv⟩).elim
      | false =>
        rw [hQv] at hqB
        simp [hPv]
        refine call_p hqB (by simp) ?_
        simp [hK]
        refine adraw_all (by kernel_rfl) ?_
        simp
        refine call_p hp (by simp) ?_
        simp

end Go.Proofs.YtokhnmchnfkiiaaDoor.Am
