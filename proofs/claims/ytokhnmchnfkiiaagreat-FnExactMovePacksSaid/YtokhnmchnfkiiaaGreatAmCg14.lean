import Derived.Test.YtokhnmchnfkiiaaGreatAmCg13
/- MovePacks, by both sides. No conditions. -/
namespace Go.Proofs.YtokhnmchnfkiiaaGreat.Am
open Go Go.RowKit Go.Proofs
set_option linter.unusedSimpArgs false
set_option linter.unusedVariables false

noncomputable def mvC (c : List Pk) (a b : List Int) (N : List ByteArray) : Int := if setF c a ≠ 0 then setF c a else if setF c b ≠ 0 then setF c b else if 24 < N.length then 2 else 0
noncomputable def mvR (c : List Pk) (a b : List Int) (N : List ByteArray) : List Int := if mvC c a b N = 0 then mvF c a b N else []
theorem mvC_ok {c : List Pk} {a b : List Int} {N : List ByteArray} (h : mvC c a b N = 0) : setF c a = 0 ∧ setF c b = 0 ∧ N.length ≤ 24 := by
  unfold mvC at h
  split at h
  · rename_i h1; exact (h1 h).elim
  split at h
  · rename_i h1; exact (h1 h).elim
  split at h
  · cases h
  · rename_i h1 h2 h3
    exact ⟨by simpa using h1, by simpa using h2, by omega⟩
theorem mv_facts {c : List Pk} {a b : List Int} {N : List ByteArray} (h : mvC c a b N = 0) : c.length ≤ 24 ∧ SetOK c.length a ∧ SetOK c.length b ∧ a.length ≤ 24 ∧ b.length ≤ 24 := by
  obtain ⟨h1, h2, h3⟩ := mvC_ok h
  obtain ⟨g1, g2⟩ := setF_ok h1
  obtain ⟨_, g3⟩ := setF_ok h2
  have g4 := (catF_ok g1).1
  have l1 := g2.len
  have l2 := g3.len
  exact ⟨g4, g2, g3, by omega, by omega⟩
theorem mvF_len (c : List Pk) (a b : List Int) (N : List ByteArray) : (mvF c a b N).length ≤ c.length := by
  have := List.length_filter_le (mvB c a b N) (allI c.length)
  simpa [mvF] using this

set_option maxHeartbeats 4000000 in
theorem p_movePacks (d f k e : Bool) (c : List Pk) (hc : c.length ≤ 4611686018427387904) (hcl : ∀ p ∈ c, p.Len) (a b : List Int) (hal : a.length ≤ 4611686018427387904) (hbl : b.length ≤ 4611686018427387904) (N : List ByteArray) (hN : N.length ≤ 4611686018427387904) :
    Pure Tryz.prog 43 [pksAV d f c, intsAV k a, intsAV k b, strsAV e N] (setRes (mvC c a b N) (intsAV false (mvR c a b N))) := by
  simp only [setRes]
  obtain ⟨Q, hQ⟩ : ∃ Q, Q = mvC c a b N := ⟨_, rfl⟩
  obtain ⟨R, hR⟩ : ∃ R, R = mvR c a b N := ⟨_, rfl⟩
  rw [← hQ, ← hR]
  refine pure_of_code (G := (G0)) vers0 mixed0 Tryz.func43 rfl (by decide) (by simp [Tryz.f43]) (by simp) fun ver => ?_
  simp only [Tryz.f43, G0]
  simp
  refine call_p (p_setFault d f k c hc hcl a hal) (by simp) ?_
  by_cases h1 : setF c a = 0
  · simp [h1]
    refine call_p (p_setFault d f k c hc hcl b hbl) (by simp) ?_
    by_cases h2 : setF c b = 0
    · by_cases h3 : 24 < N.length
      · have e1 : Q = 2 := by rw [hQ]; simp [mvC, h1, h2, h3]
        have e2 : R = [] := by rw [hR, mvR, ← hQ, e1]; rfl
        have h3i : (24 : Int) < N.length := by omega
        simp [h2, h3, h3i, e1, e2]
      · have e1 : mvC c a b N = 0 := by simp [mvC, h1, h2, h3]
        have e2 : R = mvF c a b N := by rw [hR, mvR, if_pos e1]
        have h3i : ¬ (24 : Int) < N.length := by omega
        have hcl := (mv_facts e1).1
        rw [e1] at hQ
        simp [h2, h3, h3i, hQ]
        refine call_p (p_l3move d f k e c (by omega) a b hal hbl N hN) (by simp) ?_
        simp [e2]
    · have e1 : Q = setF c b := by rw [hQ]; simp [mvC, h1, h2]
      have e2 : R = [] := by rw [hR, mvR, ← hQ, e1, if_neg h2]
      simp [h2, e1, e2]
  · have e1 : Q = setF c a := by rw [hQ]; simp [mvC, h1]
    have e2 : R = [] := by rw [hR, mvR, ← hQ, e1, if_neg h1]
    simp [h1, e1, e2]

set_option maxHeartbeats 4000000 in
theorem q_movePacksA (d f k e : Bool) (c : List Pk) (hc : c.length ≤ 4611686018427387904) (hcl : ∀ p ∈ c, p.Len) (a b : List Int) (hal : a.length ≤ 4611686018427387904) (hbl : b.length ≤ 4611686018427387904) (N : List ByteArray) (hN : N.length ≤ 4611686018427387904) (h : mvC c a b N ≠ 0 ∨ (a = [] ∧ b.filter (isN c N) = [])) :
    Pure Tryz.prog 42 [pksAV d f c, intsAV k a, intsAV k b, strsAV e N] (setRes (mvC c a b N) (.sl false [])) := by
  simp only [setRes]
  obtain ⟨Q, hQ⟩ : ∃ Q, Q = mvC c a b N := ⟨_, rfl⟩
  rw [← hQ]
  refine pure_of_code (G := (G0)) vers0 mixed0 Tryz.func42 rfl (by decide) (by simp [Tryz.f42]) (by simp) fun ver => ?_
  simp only [Tryz.f42, G0]
  simp
  refine call_p (q_setFault d f k c hc hcl a hal) (by simp) ?_
  simp
  refine call_p (q_setFault d f k c hc hcl b hbl) (by simp) ?_
  simp [sealRows, sealCells, List.range_succ]
  refine call_p (q_first false [setF c a, setF c b] (by simp)) (by simp) ?_
  rw [orF_two]
  by_cases h1 : setF c a = 0
  · by_cases h2 : setF c b = 0
    · by_cases h3 : 24 < N.length
      · have e1 : Q = 2 := by rw [hQ]; simp [mvC, h1, h2, h3]
        have h3i : (24 : Int) < N.length := by omega
        simp [h1, h2, h3, h3i, e1]
      · have e1 : mvC c a b N = 0 := by simp [mvC, h1, h2, h3]
        have h3i : ¬ (24 : Int) < N.length := by omega
        obtain ⟨f1, f2, f3, f4, f5⟩ := mv_facts e1
        rw [e1] at hQ
        rcases h with h | ⟨rfl, h⟩
        · exact absurd e1 h
        simp [h1, h2, h3, h3i, hQ]
        refine call_p (q_movedA d f k e c b f3.places (by omega) N hN h) (by simp) ?_
        simp
    · have e1 : Q = setF c b := by rw [hQ]; simp [mvC, h1, h2]
      simp [h1, h2, e1]
  · have e1 : Q = setF c a := by rw [hQ]; simp [mvC, h1]
    simp [h1, e1]

set_option maxHeartbeats 4000000 in
theorem q_movePacksB (d f k e : Bool) (c : List Pk) (hc : c.length ≤ 4611686018427387904) (hcl : ∀ p ∈ c, p.Len) (a b : List Int) (hal : a.length ≤ 4611686018427387904) (hbl : b.length ≤ 4611686018427387904) (N : List ByteArray) (hN : N.length ≤ 4611686018427387904) (h : mvC c a b N = 0) (h0 : ¬ (a = [] ∧ b.filter (isN c N) = [])) :
    OCall Tryz.prog 42 none [pksAV d f c, intsAV k a, intsAV k b, strsAV e N] (some (false, 2, (mvF c a b N).map intCells)) (setRes 0 (.arr 0 0 0 (mvF c a b N).length)) := by
  simp only [setRes]
  obtain ⟨h1, h2, h3⟩ := mvC_ok h
  obtain ⟨f1, f2, f3, f4, f5⟩ := mv_facts h
  have h3i : ¬ (24 : Int) < N.length := by omega
  have hq : OCall Tryz.prog 103 none [pksAV d f c, intsAV k a, intsAV k b, strsAV e N] (some (false, 2, (mvF c a b N).map intCells)) (.arr 0 0 0 (mvF c a b N).length) := by
    rw [← mv_eq f2 f3 N]
    by_cases ha : a = []
    · subst ha
      exact q_movedP d f k e c b f3.places (by omega) N hN fun h => h0 ⟨rfl, h⟩
    · exact q_movedO d f k e c a b f2.places f3.places (by omega) (by omega) N hN ha
  obtain ⟨R, hR⟩ : ∃ R, R = mvF c a b N := ⟨_, rfl⟩
  rw [← hR] at hq ⊢
  refine own_of_code (G := Go1 33) (verso 33) mixed0 Tryz.func42 rfl (by decide) (by simp [Tryz.f42]) 33 (by simp) (by intro s e es h; cases h; exact fr_int _) ?_
  simp only [Tryz.f42, Go1, inArrs]
  simp
  refine call_p (q_setFault d f k c hc hcl a hal) (by simp) ?_
  simp
  refine call_p (q_setFault d f k c hc hcl b hbl) (by simp) ?_
  simp [sealRows, sealCells, List.range_succ]
  refine call_p (q_first false [setF c a, setF c b] (by simp)) (by simp) ?_
  rw [orF_two]
  simp [h1, h2, h3i, Nat.not_lt.2 h3]
  refine call_n 33 hq (by simp) ?_
  simp

end Go.Proofs.YtokhnmchnfkiiaaGreat.Am
