/- The law about sets in which names are moved: what is to be shown of the row's function. No conditions. -/
import Derived.Test.YtokhnmchnfkiiaaGreatAmCg14
import Derived.Test.YtokhnmchnfkiiaaGreatAmCg8
namespace Go.Proofs.YtokhnmchnfkiiaaGreat.Am
open Go Go.RowKit Go.Proofs
set_option linter.unusedSimpArgs false
set_option linter.unusedVariables false

set_option maxHeartbeats 16000000 in
set_option maxRecDepth 10000 in
theorem l_mvps0 (l : List Pk) (hl : BigP l) (hls : StrP l) (a : List Int) (ha : BigI a) (b : List Int) (hb : BigI b) (N : List ByteArray) (hN : BigS N) (hNs : StrS N) (g0 : (1048576 : Int) < (a.length : Int)) :
    Pure Tryz.prog 7 [pksAV true true l, intsAV true a, intsAV true b, strsAV true N] (.v (.bool true)) := by
  obtain ⟨hl1, hl2⟩ := hl.len
  have ha3 : a.length ≤ 4611686018427387904 := by unfold BigI at ha; omega
  have hb3 : b.length ≤ 4611686018427387904 := by unfold BigI at hb; omega
  have hN3 : N.length ≤ 4611686018427387904 := by unfold BigS at hN; omega
  refine top_of_code (G := Gt) verst mixed0 Tryz.func7 rfl (by decide) (by simp [Tryz.f7]) (by simp) fun ver => ?_
  simp only [Tryz.f7, Gt]
  refine seq_step ⟨[], noArrs ver⟩ (fun E => E 0 = pksAV true true l ∧ E 1 = intsAV true a ∧ E 2 = intsAV true b ∧ E 3 = strsAV true N) ?_ ?_
  · repeat' first
    | with_reducible refine reg_a ?_
    | simp []
  rintro E ⟨z0, z1, z2, z3⟩
  refine if_take ⟨[], noArrs ver⟩ (fun E => E 0 = pksAV true true l ∧ E 1 = intsAV true a ∧ E 2 = intsAV true b ∧ E 3 = strsAV true N) ?_ ?_
  · repeat' first
    | with_reducible refine reg_a ?_
    | simp [z0, z1, z2, z3, g0]
  rintro E ⟨z0, z1, z2, z3⟩
  repeat' first
    | with_reducible refine reg_a ?_
    | simp [z0, z1, z2, z3]

set_option maxHeartbeats 16000000 in
set_option maxRecDepth 10000 in
theorem l_mvps1 (l : List Pk) (hl : BigP l) (hls : StrP l) (a : List Int) (ha : BigI a) (b : List Int) (hb : BigI b) (N : List ByteArray) (hN : BigS N) (hNs : StrS N) (g0 : ¬ (1048576 : Int) < (a.length : Int)) (g1 : (1048576 : Int) < (b.length : Int)) :
    Pure Tryz.prog 7 [pksAV true true l, intsAV true a, intsAV true b, strsAV true N] (.v (.bool true)) := by
  obtain ⟨hl1, hl2⟩ := hl.len
  have ha3 : a.length ≤ 4611686018427387904 := by unfold BigI at ha; omega
  have hb3 : b.length ≤ 4611686018427387904 := by unfold BigI at hb; omega
  have hN3 : N.length ≤ 4611686018427387904 := by unfold BigS at hN; omega
  refine top_of_code (G := Gt) verst mixed0 Tryz.func7 rfl (by decide) (by simp [Tryz.f7]) (by simp) fun ver => ?_
  simp only [Tryz.f7, Gt]
  refine seq_step ⟨[], noArrs ver⟩ (fun E => E 0 = pksAV true true l ∧ E 1 = intsAV true a ∧ E 2 = intsAV true b ∧ E 3 = strsAV true N) ?_ ?_
  · repeat' first
    | with_reducible refine reg_a ?_
    | simp []
  rintro E ⟨z0, z1, z2, z3⟩
  refine if_skip ⟨[], noArrs ver⟩ (fun E => E 0 = pksAV true true l ∧ E 1 = intsAV true a ∧ E 2 = intsAV true b ∧ E 3 = strsAV true N) ?_ ?_
  · repeat' first
    | with_reducible refine reg_a ?_
    | simp [z0, z1, z2, z3, g0]
  rintro E ⟨z0, z1, z2, z3⟩
  refine if_take ⟨[], noArrs ver⟩ (fun E => E 0 = pksAV true true l ∧ E 1 = intsAV true a ∧ E 2 = intsAV true b ∧ E 3 = strsAV true N) ?_ ?_
  · repeat' first
    | with_reducible refine reg_a ?_
    | simp [z0, z1, z2, z3, g1]
  rintro E ⟨z0, z1, z2, z3⟩
  repeat' first
    | with_reducible refine reg_a ?_
    | simp [z0, z1, z2, z3]

set_option maxHeartbeats 16000000 in
set_option maxRecDepth 10000 in
theorem l_mvps2 (l : List Pk) (hl : BigP l) (hls : StrP l) (a : List Int) (ha : BigI a) (b : List Int) (hb : BigI b) (N : List ByteArray) (hN : BigS N) (hNs : StrS N) (g0 : ¬ (1048576 : Int) < (a.length : Int)) (g1 : ¬ (1048576 : Int) < (b.length : Int)) (g2 : sz_pks l 1048576 < 0) :
    Pure Tryz.prog 7 [pksAV true true l, intsAV true a, intsAV true b, strsAV true N] (.v (.bool true)) := by
  obtain ⟨hl1, hl2⟩ := hl.len
  have ha3 : a.length ≤ 4611686018427387904 := by unfold BigI at ha; omega
  have hb3 : b.length ≤ 4611686018427387904 := by unfold BigI at hb; omega
  have hN3 : N.length ≤ 4611686018427387904 := by unfold BigS at hN; omega
  refine top_of_code (G := Gt) verst mixed0 Tryz.func7 rfl (by decide) (by simp [Tryz.f7]) (by simp) fun ver => ?_
  simp only [Tryz.f7, Gt]
  refine seq_step ⟨[], noArrs ver⟩ (fun E => E 0 = pksAV true true l ∧ E 1 = intsAV true a ∧ E 2 = intsAV true b ∧ E 3 = strsAV true N) ?_ ?_
  · repeat' first
    | with_reducible refine reg_a ?_
    | simp []
  rintro E ⟨z0, z1, z2, z3⟩
  refine if_skip ⟨[], noArrs ver⟩ (fun E => E 0 = pksAV true true l ∧ E 1 = intsAV true a ∧ E 2 = intsAV true b ∧ E 3 = strsAV true N) ?_ ?_
  · repeat' first
    | with_reducible refine reg_a ?_
    | simp [z0, z1, z2, z3, g0]
  rintro E ⟨z0, z1, z2, z3⟩
  refine if_skip ⟨[], noArrs ver⟩ (fun E => E 0 = pksAV true true l ∧ E 1 = intsAV true a ∧ E 2 = intsAV true b ∧ E 3 = strsAV true N) ?_ ?_
  · repeat' first
    | with_reducible refine reg_a ?_
    | simp [z0, z1, z2, z3, g1]
  rintro E ⟨z0, z1, z2, z3⟩
  refine seq_step ⟨[], noArrs ver⟩ (fun E => E 0 = pksAV true true l ∧ E 1 = intsAV true a ∧ E 2 = intsAV true b ∧ E 3 = strsAV true N ∧ E 9 = .v (.int .i64 1048576)) ?_ ?_
  · repeat' first
    | with_reducible refine reg_a ?_
    | simp [z0, z1, z2, z3]
  rintro E ⟨z0, z1, z2, z3, z9⟩
  refine seq_step ⟨[], noArrs ver⟩ (fun E => E 0 = pksAV true true l ∧ E 1 = intsAV true a ∧ E 2 = intsAV true b ∧ E 3 = strsAV true N ∧ E 9 = .v (.int .i64 (sz_pks l 1048576))) ?_ ?_
  · repeat' first
    | with_reducible refine reg_a ?_
    | with_reducible refine call_p (z_pks true l hl _) (by simp) ?_
    | simp [z0, z1, z2, z3, z9]
  rintro E ⟨z0, z1, z2, z3, z9⟩
  refine if_take ⟨[], noArrs ver⟩ (fun E => E 0 = pksAV true true l ∧ E 1 = intsAV true a ∧ E 2 = intsAV true b ∧ E 3 = strsAV true N ∧ E 9 = .v (.int .i64 (sz_pks l 1048576))) ?_ ?_
  · repeat' first
    | with_reducible refine reg_a ?_
    | simp [z0, z1, z2, z3, z9, g2]
  rintro E ⟨z0, z1, z2, z3, z9⟩
  repeat' first
    | with_reducible refine reg_a ?_
    | simp [z0, z1, z2, z3, z9]

set_option maxHeartbeats 16000000 in
set_option maxRecDepth 10000 in
theorem l_mvps3 (l : List Pk) (hl : BigP l) (hls : StrP l) (a : List Int) (ha : BigI a) (b : List Int) (hb : BigI b) (N : List ByteArray) (hN : BigS N) (hNs : StrS N) (g0 : ¬ (1048576 : Int) < (a.length : Int)) (g1 : ¬ (1048576 : Int) < (b.length : Int)) (g2 : ¬ sz_pks l 1048576 < 0) (g3 : sz_strs N (sz_pks l 1048576) < 0) :
    Pure Tryz.prog 7 [pksAV true true l, intsAV true a, intsAV true b, strsAV true N] (.v (.bool true)) := by
  obtain ⟨hl1, hl2⟩ := hl.len
  have ha3 : a.length ≤ 4611686018427387904 := by unfold BigI at ha; omega
  have hb3 : b.length ≤ 4611686018427387904 := by unfold BigI at hb; omega
  have hN3 : N.length ≤ 4611686018427387904 := by unfold BigS at hN; omega
  refine top_of_code (G := Gt) verst mixed0 Tryz.func7 rfl (by decide) (by simp [Tryz.f7]) (by simp) fun ver => ?_
  simp only [Tryz.f7, Gt]
  refine seq_step ⟨[], noArrs ver⟩ (fun E => E 0 = pksAV true true l ∧ E 1 = intsAV true a ∧ E 2 = intsAV true b ∧ E 3 = strsAV true N) ?_ ?_
  · repeat' first
    | with_reducible refine reg_a ?_
    | simp []
  rintro E ⟨z0, z1, z2, z3⟩
  refine if_skip ⟨[], noArrs ver⟩ (fun E => E 0 = pksAV true true l ∧ E 1 = intsAV true a ∧ E 2 = intsAV true b ∧ E 3 = strsAV true N) ?_ ?_
  · repeat' first
    | with_reducible refine reg_a ?_
    | simp [z0, z1, z2, z3, g0]
  rintro E ⟨z0, z1, z2, z3⟩
  refine if_skip ⟨[], noArrs ver⟩ (fun E => E 0 = pksAV true true l ∧ E 1 = intsAV true a ∧ E 2 = intsAV true b ∧ E 3 = strsAV true N) ?_ ?_
  · repeat' first
    | with_reducible refine reg_a ?_
    | simp [z0, z1, z2, z3, g1]
  rintro E ⟨z0, z1, z2, z3⟩
  refine seq_step ⟨[], noArrs ver⟩ (fun E => E 0 = pksAV true true l ∧ E 1 = intsAV true a ∧ E 2 = intsAV true b ∧ E 3 = strsAV true N ∧ E 9 = .v (.int .i64 1048576)) ?_ ?_
  · repeat' first
    | with_reducible refine reg_a ?_
    | simp [z0, z1, z2, z3]
  rintro E ⟨z0, z1, z2, z3, z9⟩
  refine seq_step ⟨[], noArrs ver⟩ (fun E => E 0 = pksAV true true l ∧ E 1 = intsAV true a ∧ E 2 = intsAV true b ∧ E 3 = strsAV true N ∧ E 9 = .v (.int .i64 (sz_pks l 1048576))) ?_ ?_
  · repeat' first
    | with_reducible refine reg_a ?_
    | with_reducible refine call_p (z_pks true l hl _) (by simp) ?_
    | simp [z0, z1, z2, z3, z9]
  rintro E ⟨z0, z1, z2, z3, z9⟩
  refine if_skip ⟨[], noArrs ver⟩ (fun E => E 0 = pksAV true true l ∧ E 1 = intsAV true a ∧ E 2 = intsAV true b ∧ E 3 = strsAV true N ∧ E 9 = .v (.int .i64 (sz_pks l 1048576))) ?_ ?_
  · repeat' first
    | with_reducible refine reg_a ?_
    | simp [z0, z1, z2, z3, z9, g2]
  rintro E ⟨z0, z1, z2, z3, z9⟩
  refine seq_step ⟨[], noArrs ver⟩ (fun E => E 0 = pksAV true true l ∧ E 1 = intsAV true a ∧ E 2 = intsAV true b ∧ E 3 = strsAV true N ∧ E 9 = .v (.int .i64 (sz_strs N (sz_pks l 1048576)))) ?_ ?_
  · repeat' first
    | with_reducible refine reg_a ?_
    | with_reducible refine call_p (z_strs true N hN _) (by simp) ?_
    | simp [z0, z1, z2, z3, z9]
  rintro E ⟨z0, z1, z2, z3, z9⟩
  refine if_take ⟨[], noArrs ver⟩ (fun E => E 0 = pksAV true true l ∧ E 1 = intsAV true a ∧ E 2 = intsAV true b ∧ E 3 = strsAV true N) ?_ ?_
  · repeat' first
    | with_reducible refine reg_a ?_
    | simp [z0, z1, z2, z3, z9, g3]
  rintro E ⟨z0, z1, z2, z3⟩
  repeat' first
    | with_reducible refine reg_a ?_
    | simp [z0, z1, z2, z3]

set_option maxHeartbeats 16000000 in
set_option maxRecDepth 10000 in
theorem l_mvpsA (l : List Pk) (hl : BigP l) (hls : StrP l) (a : List Int) (ha : BigI a) (b : List Int) (hb : BigI b) (N : List ByteArray) (hN : BigS N) (hNs : StrS N) (g0 : ¬ (1048576 : Int) < (a.length : Int)) (g1 : ¬ (1048576 : Int) < (b.length : Int)) (g2 : ¬ sz_pks l 1048576 < 0) (g3 : ¬ sz_strs N (sz_pks l 1048576) < 0) (h : mvC l a b N ≠ 0 ∨ (a = [] ∧ b.filter (isN l N) = [])) :
    Pure Tryz.prog 7 [pksAV true true l, intsAV true a, intsAV true b, strsAV true N] (.v (.bool true)) := by
  obtain ⟨hl1, hl2⟩ := hl.len
  have ha3 : a.length ≤ 4611686018427387904 := by unfold BigI at ha; omega
  have hb3 : b.length ≤ 4611686018427387904 := by unfold BigI at hb; omega
  have hN3 : N.length ≤ 4611686018427387904 := by unfold BigS at hN; omega
  have hmk := (sz_pks_le hl hls (by decide) (by decide) g2).1
  have hsz := (sz_pks_le hl hls (by decide) (by decide) g2).2
  have hst := (sz_strs_le hN hNs hsz (by omega) g3).1
  have hst2 := (sz_strs_le hN hNs hsz (by omega) g3).2
  have hq : ¬ 1 + (mkPs l : Int) + (a.length : Int) + (b.length : Int) + (N.length : Int) < 0 := by omega
  have hP := p_movePacks false false false false l hl1 hl2 a b ha3 hb3 N hN3
  have hQ := q_movePacksA false false false false l hl1 hl2 a b ha3 hb3 N hN3 h
  have hL0 : mvR l a b N = [] := by
    by_cases h1 : mvC l a b N = 0
    · rcases h with h | ⟨rfl, h⟩
      · exact absurd h1 h
      obtain ⟨f1, f2, f3, f4, f5⟩ := mv_facts h1
      rw [mvR, if_pos h1, ← mv_eq f2 f3 N, mvL, h]
      simp [sortI]
    · rw [mvR, if_neg h1]
  rw [hL0] at hP
  obtain ⟨k, hk⟩ : ∃ k, k = mvC l a b N := ⟨_, rfl⟩
  rw [← hk] at hP hQ
  simp only [setRes] at hP hQ
  clear hk h hL0
  simp only [intsAV, List.map_nil] at hP
  have hE : ∀ c d : Bool, Pure Tryz.prog 37 [.agg [.v (.int .i64 k), .v (.int .i64 0), .sl c []], .agg [.v (.int .i64 k), .v (.int .i64 0), .sl d []]] (.v (.bool true)) := fun c d => by simpa using e_set c d [] (by simp) k 0
  have hq1 : ¬ (1 : Int) < 0 := by omega
  refine top_of_code (G := Gt) verst mixed0 Tryz.func7 rfl (by decide) (by simp [Tryz.f7]) (by simp) fun ver => ?_
  simp only [Tryz.f7, Gt]
  refine seq_step ⟨[], noArrs ver⟩ (fun E => E 0 = pksAV true true l ∧ E 1 = intsAV true a ∧ E 2 = intsAV true b ∧ E 3 = strsAV true N) ?_ ?_
  · repeat' first
    | with_reducible refine reg_a ?_
    | simp []
  rintro E ⟨z0, z1, z2, z3⟩
  refine if_skip ⟨[], noArrs ver⟩ (fun E => E 0 = pksAV true true l ∧ E 1 = intsAV true a ∧ E 2 = intsAV true b ∧ E 3 = strsAV true N) ?_ ?_
  · repeat' first
    | with_reducible refine reg_a ?_
    | simp [z0, z1, z2, z3, g0]
  rintro E ⟨z0, z1, z2, z3⟩
  refine if_skip ⟨[], noArrs ver⟩ (fun E => E 0 = pksAV true true l ∧ E 1 = intsAV true a ∧ E 2 = intsAV true b ∧ E 3 = strsAV true N) ?_ ?_
  · repeat' first
    | with_reducible refine reg_a ?_
    | simp [z0, z1, z2, z3, g1]
  rintro E ⟨z0, z1, z2, z3⟩
  refine seq_step ⟨[], noArrs ver⟩ (fun E => E 0 = pksAV true true l ∧ E 1 = intsAV true a ∧ E 2 = intsAV true b ∧ E 3 = strsAV true N ∧ E 9 = .v (.int .i64 1048576)) ?_ ?_
  · repeat' first
    | with_reducible refine reg_a ?_
    | simp [z0, z1, z2, z3]
  rintro E ⟨z0, z1, z2, z3, z9⟩
  refine seq_step ⟨[], noArrs ver⟩ (fun E => E 0 = pksAV true true l ∧ E 1 = intsAV true a ∧ E 2 = intsAV true b ∧ E 3 = strsAV true N ∧ E 9 = .v (.int .i64 (sz_pks l 1048576))) ?_ ?_
  · repeat' first
    | with_reducible refine reg_a ?_
    | with_reducible refine call_p (z_pks true l hl _) (by simp) ?_
    | simp [z0, z1, z2, z3, z9]
  rintro E ⟨z0, z1, z2, z3, z9⟩
  refine if_skip ⟨[], noArrs ver⟩ (fun E => E 0 = pksAV true true l ∧ E 1 = intsAV true a ∧ E 2 = intsAV true b ∧ E 3 = strsAV true N ∧ E 9 = .v (.int .i64 (sz_pks l 1048576))) ?_ ?_
  · repeat' first
    | with_reducible refine reg_a ?_
    | simp [z0, z1, z2, z3, z9, g2]
  rintro E ⟨z0, z1, z2, z3, z9⟩
  refine seq_step ⟨[], noArrs ver⟩ (fun E => E 0 = pksAV true true l ∧ E 1 = intsAV true a ∧ E 2 = intsAV true b ∧ E 3 = strsAV true N ∧ E 9 = .v (.int .i64 (sz_strs N (sz_pks l 1048576)))) ?_ ?_
  · repeat' first
    | with_reducible refine reg_a ?_
    | with_reducible refine call_p (z_strs true N hN _) (by simp) ?_
    | simp [z0, z1, z2, z3, z9]
  rintro E ⟨z0, z1, z2, z3, z9⟩
  refine if_skip ⟨[], noArrs ver⟩ (fun E => E 0 = pksAV true true l ∧ E 1 = intsAV true a ∧ E 2 = intsAV true b ∧ E 3 = strsAV true N) ?_ ?_
  · repeat' first
    | with_reducible refine reg_a ?_
    | simp [z0, z1, z2, z3, z9, g3]
  rintro E ⟨z0, z1, z2, z3⟩
  refine seq_step ⟨[[.v (.int .i64 k), .v (.int .i64 0), .sl false []]], noArrs ver⟩ (fun E => E 0 = pksAV true true l ∧ E 1 = intsAV true a ∧ E 2 = intsAV true b ∧ E 3 = strsAV true N ∧ E 10 = .box 0 0) ?_ ?_
  · repeat' first
    | with_reducible refine reg_a ?_
    | with_reducible refine call_p (t_pks true l hl) (by simp) ?_
    | with_reducible refine call_p (t_ints true a ha) (by simp) ?_
    | with_reducible refine call_p (t_ints true b hb) (by simp) ?_
    | with_reducible refine call_p (t_strs true N hN) (by simp) ?_
    | with_reducible refine call_p (hP) (by simp) ?_
    | simp [z0, z1, z2, z3]
  rintro E ⟨z0, z1, z2, z3, z10⟩
  refine seq_step ⟨[[.v (.int .i64 k), .v (.int .i64 0), .sl true []]], noArrs ver⟩ (fun E => E 0 = pksAV true true l ∧ E 1 = intsAV true a ∧ E 2 = intsAV true b ∧ E 3 = strsAV true N ∧ E 10 = .box 0 0 ∧ E 11 = pksAV false false l) ?_ ?_
  · simp [z0, z1, z2, z3, z10]
    refine reg_ok 0 [(0, pksAV true true l), (1, intsAV true a), (2, intsAV true b), (3, strsAV true N), (10, .box 0 0)] [[.v (.int .i64 k), .v (.int .i64 0), .sl false []]] [[.v (.int .i64 k), .v (.int .i64 0), .sl true []]] (by simp) (by intro i; simp) (by simp) (by simp [OldsK_cons, OldsK_nil, z0, z1, z2, z3, z10]) (by simp [OldsB, OldsR]) ?_
    repeat' first
    | with_reducible refine call_p (t_pks true l hl) (by simp) ?_
    | simp [z0, z1, z2, z3, z10]
  rintro E ⟨z0, z1, z2, z3, z10, z11⟩
  refine seq_step ⟨[[.v (.int .i64 k), .v (.int .i64 0), .sl true []]], noArrs ver⟩ (fun E => E 0 = pksAV true true l ∧ E 1 = intsAV true a ∧ E 2 = intsAV true b ∧ E 3 = strsAV true N ∧ E 10 = .box 0 0 ∧ E 11 = pksAV false false l ∧ E 12 = intsAV false a) ?_ ?_
  · repeat' first
    | with_reducible refine reg_a ?_
    | with_reducible refine call_p (t_ints true a ha) (by simp) ?_
    | simp [z0, z1, z2, z3, z10, z11]
  rintro E ⟨z0, z1, z2, z3, z10, z11, z12⟩
  refine seq_step ⟨[[.v (.int .i64 k), .v (.int .i64 0), .sl true []]], noArrs ver⟩ (fun E => E 0 = pksAV true true l ∧ E 1 = intsAV true a ∧ E 2 = intsAV true b ∧ E 3 = strsAV true N ∧ E 10 = .box 0 0 ∧ E 11 = pksAV false false l ∧ E 12 = intsAV false a ∧ E 13 = intsAV false b) ?_ ?_
  · repeat' first
    | with_reducible refine reg_a ?_
    | with_reducible refine call_p (t_ints true b hb) (by simp) ?_
    | simp [z0, z1, z2, z3, z10, z11, z12]
  rintro E ⟨z0, z1, z2, z3, z10, z11, z12, z13⟩
  refine seq_step ⟨[[.v (.int .i64 k), .v (.int .i64 0), .sl true []]], noArrs ver⟩ (fun E => E 0 = pksAV true true l ∧ E 1 = intsAV true a ∧ E 2 = intsAV true b ∧ E 3 = strsAV true N ∧ E 10 = .box 0 0 ∧ E 11 = pksAV false false l ∧ E 12 = intsAV false a ∧ E 13 = intsAV false b ∧ E 14 = strsAV false N) ?_ ?_
  · repeat' first
    | with_reducible refine reg_a ?_
    | with_reducible refine call_p (t_strs true N hN) (by simp) ?_
    | simp [z0, z1, z2, z3, z10, z11, z12, z13]
  rintro E ⟨z0, z1, z2, z3, z10, z11, z12, z13, z14⟩
  refine seq_step ⟨[[.v (.int .i64 k), .v (.int .i64 0), .sl true []], [.v (.int .i64 k), .v (.int .i64 0), .sl false []]], noArrs ver⟩ (fun E => E 0 = pksAV true true l ∧ E 1 = intsAV true a ∧ E 2 = intsAV true b ∧ E 3 = strsAV true N ∧ E 10 = .box 0 0 ∧ E 11 = pksAV false false l ∧ E 12 = intsAV false a ∧ E 13 = intsAV false b ∧ E 14 = strsAV false N ∧ E 15 = .box 1 0) ?_ ?_
  · repeat' first
    | with_reducible refine reg_a ?_
    | with_reducible refine call_p (hQ) (by simp) ?_
    | simp [z0, z1, z2, z3, z10, z11, z12, z13, z14]
  rintro E ⟨z0, z1, z2, z3, z10, z11, z12, z13, z14, z15⟩
  refine if_skip ⟨[[.v (.int .i64 k), .v (.int .i64 0), .sl true []], [.v (.int .i64 k), .v (.int .i64 0), .sl false []]], noArrs ver⟩ (fun E => E 0 = pksAV true true l ∧ E 1 = intsAV true a ∧ E 2 = intsAV true b ∧ E 3 = strsAV true N ∧ E 10 = .box 0 0 ∧ E 11 = pksAV false false l ∧ E 12 = intsAV false a ∧ E 13 = intsAV false b ∧ E 14 = strsAV false N ∧ E 15 = .box 1 0) ?_ ?_
  · repeat' first
    | with_reducible refine reg_a ?_
    | with_reducible refine call_p (hE _ _) (by simp) ?_
    | simp [z0, z1, z2, z3, z10, z11, z12, z13, z14, z15]
  rintro E ⟨z0, z1, z2, z3, z10, z11, z12, z13, z14, z15⟩
  refine if_skip ⟨[[.v (.int .i64 k), .v (.int .i64 0), .sl true []], [.v (.int .i64 k), .v (.int .i64 0), .sl false []]], noArrs ver⟩ (fun E => E 0 = pksAV true true l ∧ E 1 = intsAV true a ∧ E 2 = intsAV true b ∧ E 3 = strsAV true N ∧ E 10 = .box 0 0 ∧ E 11 = pksAV false false l ∧ E 12 = intsAV false a ∧ E 13 = intsAV false b ∧ E 14 = strsAV false N ∧ E 15 = .box 1 0) ?_ ?_
  · repeat' first
    | with_reducible refine reg_a ?_
    | with_reducible refine call_p (t_pks true l hl) (by simp) ?_
    | with_reducible refine call_p (e_pks false false l hl1 hl2) (by simp) ?_
    | simp [z0, z1, z2, z3, z10, z11, z12, z13, z14, z15]
  rintro E ⟨z0, z1, z2, z3, z10, z11, z12, z13, z14, z15⟩
  refine if_skip ⟨[[.v (.int .i64 k), .v (.int .i64 0), .sl true []], [.v (.int .i64 k), .v (.int .i64 0), .sl false []]], noArrs ver⟩ (fun E => E 0 = pksAV true true l ∧ E 1 = intsAV true a ∧ E 2 = intsAV true b ∧ E 3 = strsAV true N ∧ E 10 = .box 0 0 ∧ E 11 = pksAV false false l ∧ E 12 = intsAV false a ∧ E 13 = intsAV false b ∧ E 14 = strsAV false N ∧ E 15 = .box 1 0) ?_ ?_
  · repeat' first
    | with_reducible refine reg_a ?_
    | with_reducible refine call_p (t_ints true a ha) (by simp) ?_
    | with_reducible refine call_p (e_ints false false a ha3) (by simp) ?_
    | with_reducible refine call_p (e_ints false false b hb3) (by simp) ?_
    | simp [z0, z1, z2, z3, z10, z11, z12, z13, z14, z15]
  rintro E ⟨z0, z1, z2, z3, z10, z11, z12, z13, z14, z15⟩
  refine if_skip ⟨[[.v (.int .i64 k), .v (.int .i64 0), .sl true []], [.v (.int .i64 k), .v (.int .i64 0), .sl false []]], noArrs ver⟩ (fun E => E 0 = pksAV true true l ∧ E 1 = intsAV true a ∧ E 2 = intsAV true b ∧ E 3 = strsAV true N ∧ E 10 = .box 0 0 ∧ E 11 = pksAV false false l ∧ E 12 = intsAV false a ∧ E 13 = intsAV false b ∧ E 14 = strsAV false N ∧ E 15 = .box 1 0) ?_ ?_
  · repeat' first
    | with_reducible refine reg_a ?_
    | with_reducible refine call_p (t_ints true b hb) (by simp) ?_
    | with_reducible refine call_p (e_ints false false a ha3) (by simp) ?_
    | with_reducible refine call_p (e_ints false false b hb3) (by simp) ?_
    | simp [z0, z1, z2, z3, z10, z11, z12, z13, z14, z15]
  rintro E ⟨z0, z1, z2, z3, z10, z11, z12, z13, z14, z15⟩
  refine if_skip ⟨[[.v (.int .i64 k), .v (.int .i64 0), .sl true []], [.v (.int .i64 k), .v (.int .i64 0), .sl false []]], noArrs ver⟩ (fun E => E 0 = pksAV true true l ∧ E 1 = intsAV true a ∧ E 2 = intsAV true b ∧ E 3 = strsAV true N ∧ E 10 = .box 0 0 ∧ E 11 = pksAV false false l ∧ E 12 = intsAV false a ∧ E 13 = intsAV false b ∧ E 14 = strsAV false N ∧ E 15 = .box 1 0) ?_ ?_
  · repeat' first
    | with_reducible refine reg_a ?_
    | with_reducible refine call_p (t_strs true N hN) (by simp) ?_
    | with_reducible refine call_p (e_strs false false N hN3) (by simp) ?_
    | simp [z0, z1, z2, z3, z10, z11, z12, z13, z14, z15]
  rintro E ⟨z0, z1, z2, z3, z10, z11, z12, z13, z14, z15⟩
  refine seq_step ⟨[[.v (.int .i64 k), .v (.int .i64 0), .sl true []], [.v (.int .i64 k), .v (.int .i64 0), .sl false []]], noArrs ver⟩ (fun E => E 0 = pksAV true true l ∧ E 1 = intsAV true a ∧ E 2 = intsAV true b ∧ E 3 = strsAV true N ∧ E 10 = .box 0 0 ∧ E 11 = pksAV false false l ∧ E 12 = intsAV false a ∧ E 13 = intsAV false b ∧ E 14 = strsAV false N ∧ E 15 = .box 1 0 ∧ E 16 = .v (.int .i64 1)) ?_ ?_
  · repeat' first
    | with_reducible refine reg_a ?_
    | simp [z0, z1, z2, z3, z10, z11, z12, z13, z14, z15]
  rintro E ⟨z0, z1, z2, z3, z10, z11, z12, z13, z14, z15, z16⟩
  refine seq_step ⟨[[.v (.int .i64 k), .v (.int .i64 0), .sl true []], [.v (.int .i64 k), .v (.int .i64 0), .sl false []]], noArrs ver⟩ (fun E => E 0 = pksAV true true l ∧ E 1 = intsAV true a ∧ E 2 = intsAV true b ∧ E 3 = strsAV true N ∧ E 10 = .box 0 0 ∧ E 12 = wintsAV a ∧ E 13 = wintsAV b ∧ E 14 = wstrsAV N ∧ E 15 = .box 1 0 ∧ E 16 = .v (.int .i64 (1 + (mkPs l : Int)))) ?_ ?_
  · simp [z0, z1, z2, z3, z10, z11, z12, z13, z14, z15, z16]
    refine reg_k 2 ?_
    simp [z0, z1, z2, z3, z10, z11, z12, z13, z14, z15, z16]
    refine mark_b 0 [(0, pksAV true true l), (1, intsAV true a), (2, intsAV true b), (3, strsAV true N), (10, .box 0 0), (12, wintsAV a), (13, wintsAV b), (14, wstrsAV N), (15, .box 1 0)] [[.v (.int .i64 k), .v (.int .i64 0), .sl true []], [.v (.int .i64 k), .v (.int .i64 0), .sl false []]] [[.v (.int .i64 k), .v (.int .i64 0), .sl true []], [.v (.int .i64 k), .v (.int .i64 0), .sl false []]] (by simp) (w_pks l hl2 hl1 (1) (by omega) (by omega)) (by simp [WArgL]) (by simp) (by simp [StayB, StayR]) (by intro i; simp) (by simp) (by simp [WKeep_cons, WKeep_nil, z0, z1, z2, z3, z10, z11, z12, z13, z14, z15, z16]) ?_
    repeat' first
    | simp [z0, z1, z2, z3, z10, z11, z12, z13, z14, z15, z16]
  rintro E ⟨z0, z1, z2, z3, z10, z12, z13, z14, z15, z16⟩
  refine seq_step ⟨[[.v (.int .i64 k), .v (.int .i64 0), .sl true []], [.v (.int .i64 k), .v (.int .i64 0), .sl false []]], noArrs ver⟩ (fun E => E 0 = pksAV true true l ∧ E 1 = intsAV true a ∧ E 2 = intsAV true b ∧ E 3 = strsAV true N ∧ E 10 = .box 0 0 ∧ E 13 = wintsAV b ∧ E 14 = wstrsAV N ∧ E 15 = .box 1 0 ∧ E 16 = .v (.int .i64 (1 + (mkPs l : Int) + (a.length : Int)))) ?_ ?_
  · simp [z0, z1, z2, z3, z10, z12, z13, z14, z15, z16]
    refine reg_k 2 ?_
    simp [z0, z1, z2, z3, z10, z12, z13, z14, z15, z16]
    refine mark_b 0 [(0, pksAV true true l), (1, intsAV true a), (2, intsAV true b), (3, strsAV true N), (10, .box 0 0), (13, wintsAV b), (14, wstrsAV N), (15, .box 1 0)] [[.v (.int .i64 k), .v (.int .i64 0), .sl true []], [.v (.int .i64 k), .v (.int .i64 0), .sl false []]] [[.v (.int .i64 k), .v (.int .i64 0), .sl true []], [.v (.int .i64 k), .v (.int .i64 0), .sl false []]] (by simp) (w_ints a (1 + (mkPs l : Int)) (by omega) (by omega)) (by simp [WArgL]) (by simp) (by simp [StayB, StayR]) (by intro i; simp) (by simp) (by simp [WKeep_cons, WKeep_nil, z0, z1, z2, z3, z10, z12, z13, z14, z15, z16]) ?_
    repeat' first
    | simp [z0, z1, z2, z3, z10, z12, z13, z14, z15, z16]
  rintro E ⟨z0, z1, z2, z3, z10, z13, z14, z15, z16⟩
  refine seq_step ⟨[[.v (.int .i64 k), .v (.int .i64 0), .sl true []], [.v (.int .i64 k), .v (.int .i64 0), .sl false []]], noArrs ver⟩ (fun E => E 0 = pksAV true true l ∧ E 1 = intsAV true a ∧ E 2 = intsAV true b ∧ E 3 = strsAV true N ∧ E 10 = .box 0 0 ∧ E 14 = wstrsAV N ∧ E 15 = .box 1 0 ∧ E 16 = .v (.int .i64 (1 + (mkPs l : Int) + (a.length : Int) + (b.length : Int)))) ?_ ?_
  · simp [z0, z1, z2, z3, z10, z13, z14, z15, z16]
    refine reg_k 2 ?_
    simp [z0, z1, z2, z3, z10, z13, z14, z15, z16]
    refine mark_b 0 [(0, pksAV true true l), (1, intsAV true a), (2, intsAV true b), (3, strsAV true N), (10, .box 0 0), (14, wstrsAV N), (15, .box 1 0)] [[.v (.int .i64 k), .v (.int .i64 0), .sl true []], [.v (.int .i64 k), .v (.int .i64 0), .sl false []]] [[.v (.int .i64 k), .v (.int .i64 0), .sl true []], [.v (.int .i64 k), .v (.int .i64 0), .sl false []]] (by simp) (w_ints b (1 + (mkPs l : Int) + (a.length : Int)) (by omega) (by omega)) (by simp [WArgL]) (by simp) (by simp [StayB, StayR]) (by intro i; simp) (by simp) (by simp [WKeep_cons, WKeep_nil, z0, z1, z2, z3, z10, z13, z14, z15, z16]) ?_
    repeat' first
    | simp [z0, z1, z2, z3, z10, z13, z14, z15, z16]
  rintro E ⟨z0, z1, z2, z3, z10, z14, z15, z16⟩
  refine seq_step ⟨[[.v (.int .i64 k), .v (.int .i64 0), .sl true []], [.v (.int .i64 k), .v (.int .i64 0), .sl false []]], noArrs ver⟩ (fun E => E 0 = pksAV true true l ∧ E 1 = intsAV true a ∧ E 2 = intsAV true b ∧ E 3 = strsAV true N ∧ E 10 = .box 0 0 ∧ E 15 = .box 1 0 ∧ E 16 = .v (.int .i64 (1 + (mkPs l : Int) + (a.length : Int) + (b.length : Int) + (N.length : Int)))) ?_ ?_
  · simp [z0, z1, z2, z3, z10, z14, z15, z16]
    refine reg_k 2 ?_
    simp [z0, z1, z2, z3, z10, z14, z15, z16]
    refine mark_b 0 [(0, pksAV true true l), (1, intsAV true a), (2, intsAV true b), (3, strsAV true N), (10, .box 0 0), (15, .box 1 0)] [[.v (.int .i64 k), .v (.int .i64 0), .sl true []], [.v (.int .i64 k), .v (.int .i64 0), .sl false []]] [[.v (.int .i64 k), .v (.int .i64 0), .sl true []], [.v (.int .i64 k), .v (.int .i64 0), .sl false []]] (by simp) (w_strs N (1 + (mkPs l : Int) + (a.length : Int) + (b.length : Int)) (by omega) (by omega)) (by simp [WArgL]) (by simp) (by simp [StayB, StayR]) (by intro i; simp) (by simp) (by simp [WKeep_cons, WKeep_nil, z0, z1, z2, z3, z10, z14, z15, z16]) ?_
    repeat' first
    | simp [z0, z1, z2, z3, z10, z14, z15, z16]
  rintro E ⟨z0, z1, z2, z3, z10, z15, z16⟩
  refine if_skip ⟨[[.v (.int .i64 k), .v (.int .i64 0), .sl true []], [.v (.int .i64 k), .v (.int .i64 0), .sl false []]], noArrs ver⟩ (fun E => E 0 = pksAV true true l ∧ E 1 = intsAV true a ∧ E 2 = intsAV true b ∧ E 3 = strsAV true N ∧ E 10 = .box 0 0 ∧ E 15 = .box 1 0) ?_ ?_
  · repeat' first
    | with_reducible refine reg_a ?_
    | with_reducible refine call_p (hE _ _) (by simp) ?_
    | simp [z0, z1, z2, z3, z10, z15, z16, hq]
  rintro E ⟨z0, z1, z2, z3, z10, z15⟩
  refine seq_step ⟨[[.v (.int .i64 k), .v (.int .i64 0), .sl true []], [.v (.int .i64 k), .v (.int .i64 0), .sl false []]], noArrs ver⟩ (fun E => E 0 = pksAV true true l ∧ E 1 = intsAV true a ∧ E 2 = intsAV true b ∧ E 3 = strsAV true N ∧ E 10 = .box 0 0 ∧ E 15 = .box 1 0 ∧ E 17 = .v (.int .i64 1)) ?_ ?_
  · repeat' first
    | with_reducible refine reg_a ?_
    | simp [z0, z1, z2, z3, z10, z15]
  rintro E ⟨z0, z1, z2, z3, z10, z15, z17⟩
  refine seq_step ⟨[[.v (.int .i64 k), .v (.int .i64 0), .sl true []], [.v (.int .i64 k), .v (.int .i64 0), .sl false []]], noArrs ver⟩ (fun E => E 0 = pksAV true true l ∧ E 1 = intsAV true a ∧ E 2 = intsAV true b ∧ E 3 = strsAV true N ∧ E 10 = .box 0 0 ∧ E 15 = .box 1 0 ∧ E 17 = .v (.int .i64 1)) ?_ ?_
  · repeat' first
    | with_reducible refine reg_a ?_
    | with_reducible refine call_p (p_markSet0 false 1 k 0) (by simp) ?_
    | simp [z0, z1, z2, z3, z10, z15, z17]
  rintro E ⟨z0, z1, z2, z3, z10, z15, z17⟩
  refine seq_step ⟨[[.v (.int .i64 k), .v (.int .i64 0), .sl true []], [.v (.int .i64 k), .v (.int .i64 0), .sl false []]], noArrs ver⟩ (fun E => E 0 = pksAV true true l ∧ E 1 = intsAV true a ∧ E 2 = intsAV true b ∧ E 3 = strsAV true N ∧ E 10 = .box 0 0 ∧ E 15 = .box 1 0 ∧ E 17 = .v (.int .i64 1) ∧ E 18 = .v (.int .i64 1)) ?_ ?_
  · repeat' first
    | with_reducible refine reg_a ?_
    | simp [z0, z1, z2, z3, z10, z15, z17]
  rintro E ⟨z0, z1, z2, z3, z10, z15, z17, z18⟩
  refine seq_step ⟨[[.v (.int .i64 k), .v (.int .i64 0), .sl true []], [.v (.int .i64 k), .v (.int .i64 0), .sl false []]], noArrs ver⟩ (fun E => E 0 = pksAV true true l ∧ E 1 = intsAV true a ∧ E 2 = intsAV true b ∧ E 3 = strsAV true N ∧ E 10 = .box 0 0 ∧ E 15 = .box 1 0 ∧ E 17 = .v (.int .i64 1) ∧ E 18 = .v (.int .i64 1)) ?_ ?_
  · repeat' first
    | with_reducible refine reg_a ?_
    | with_reducible refine call_p (p_heldSet0 _ 1 k 0 (by omega) (by omega)) (by simp) ?_
    | simp [z0, z1, z2, z3, z10, z15, z17, z18]
  rintro E ⟨z0, z1, z2, z3, z10, z15, z17, z18⟩
  refine if_skip ⟨[[.v (.int .i64 k), .v (.int .i64 0), .sl true []], [.v (.int .i64 k), .v (.int .i64 0), .sl false []]], noArrs ver⟩ (fun E => E 0 = pksAV true true l ∧ E 1 = intsAV true a ∧ E 2 = intsAV true b ∧ E 3 = strsAV true N ∧ E 10 = .box 0 0 ∧ E 15 = .box 1 0 ∧ E 17 = .v (.int .i64 1) ∧ E 18 = .v (.int .i64 1)) ?_ ?_
  · repeat' first
    | with_reducible refine reg_a ?_
    | simp [z0, z1, z2, z3, z10, z15, z17, z18, hq1]
  rintro E ⟨z0, z1, z2, z3, z10, z15, z17, z18⟩
  refine if_skip ⟨[[.v (.int .i64 k), .v (.int .i64 0), .sl true []], [.v (.int .i64 k), .v (.int .i64 0), .sl false []]], noArrs ver⟩ (fun E => E 0 = pksAV true true l ∧ E 1 = intsAV true a ∧ E 2 = intsAV true b ∧ E 3 = strsAV true N ∧ E 10 = .box 0 0 ∧ E 15 = .box 1 0 ∧ E 17 = .v (.int .i64 1)) ?_ ?_
  · repeat' first
    | with_reducible refine reg_a ?_
    | simp [z0, z1, z2, z3, z10, z15, z17, z18]
  rintro E ⟨z0, z1, z2, z3, z10, z15, z17⟩
  refine seq_step ⟨[[.v (.int .i64 k), .v (.int .i64 0), .sl true []], [.v (.int .i64 k), .v (.int .i64 0), .sl false []], [.v (.int .i64 k), .v (.int .i64 0), .sl false []]], noArrs ver⟩ (fun E => E 10 = .box 0 0 ∧ E 15 = .box 1 0 ∧ E 17 = .v (.int .i64 1) ∧ E 19 = .box 2 0) ?_ ?_
  · repeat' first
    | with_reducible refine reg_a ?_
    | with_reducible refine call_p (t_pks true l hl) (by simp) ?_
    | with_reducible refine call_p (t_ints true a ha) (by simp) ?_
    | with_reducible refine call_p (t_ints true b hb) (by simp) ?_
    | with_reducible refine call_p (t_strs true N hN) (by simp) ?_
    | with_reducible refine call_p (hQ) (by simp) ?_
    | simp [z0, z1, z2, z3, z10, z15, z17]
  rintro E ⟨z10, z15, z17, z19⟩
  refine if_skip ⟨[[.v (.int .i64 k), .v (.int .i64 0), .sl true []], [.v (.int .i64 k), .v (.int .i64 0), .sl false []], [.v (.int .i64 k), .v (.int .i64 0), .sl false []]], noArrs ver⟩ (fun E => E 15 = .box 1 0 ∧ E 17 = .v (.int .i64 1)) ?_ ?_
  · repeat' first
    | with_reducible refine reg_a ?_
    | with_reducible refine call_p (hE _ _) (by simp) ?_
    | simp [z10, z15, z17, z19]
  rintro E ⟨z15, z17⟩
  refine seq_step ⟨[[.v (.int .i64 k), .v (.int .i64 0), .sl true []], [.v (.int .i64 k), .v (.int .i64 0), .sl false []], [.v (.int .i64 k), .v (.int .i64 0), .sl false []]], noArrs ver⟩ (fun E => E 15 = .box 1 0 ∧ E 17 = .v (.int .i64 1) ∧ E 18 = .v (.int .i64 1)) ?_ ?_
  · repeat' first
    | with_reducible refine reg_a ?_
    | simp [z15, z17]
  rintro E ⟨z15, z17, z18⟩
  refine seq_step ⟨[[.v (.int .i64 k), .v (.int .i64 0), .sl true []], [.v (.int .i64 k), .v (.int .i64 0), .sl false []], [.v (.int .i64 k), .v (.int .i64 0), .sl false []]], noArrs ver⟩ (fun E => E 17 = .v (.int .i64 1) ∧ E 18 = .v (.int .i64 1)) ?_ ?_
  · repeat' first
    | with_reducible refine reg_a ?_
    | with_reducible refine call_p (p_heldSet0 _ 1 k 0 (by omega) (by omega)) (by simp) ?_
    | simp [z15, z17, z18]
  rintro E ⟨z17, z18⟩
  refine if_skip ⟨[[.v (.int .i64 k), .v (.int .i64 0), .sl true []], [.v (.int .i64 k), .v (.int .i64 0), .sl false []], [.v (.int .i64 k), .v (.int .i64 0), .sl false []]], noArrs ver⟩ (fun E => E 17 = .v (.int .i64 1) ∧ E 18 = .v (.int .i64 1)) ?_ ?_
  · repeat' first
    | with_reducible refine reg_a ?_
    | simp [z17, z18, hq1]
  rintro E ⟨z17, z18⟩
  refine if_skip ⟨[[.v (.int .i64 k), .v (.int .i64 0), .sl true []], [.v (.int .i64 k), .v (.int .i64 0), .sl false []], [.v (.int .i64 k), .v (.int .i64 0), .sl false []]], noArrs ver⟩ (fun _ => True) ?_ ?_
  · repeat' first
    | with_reducible refine reg_a ?_
    | simp [z17, z18]
  rintro E _
  refine seq_step ⟨[[.v (.int .i64 k), .v (.int .i64 0), .sl true []], [.v (.int .i64 k), .v (.int .i64 0), .sl false []], [.v (.int .i64 k), .v (.int .i64 0), .sl false []]], noArrs ver⟩ (fun E => E 8 = .v (.bool true)) ?_ ?_
  · repeat' first
    | with_reducible refine reg_a ?_
    | simp []
  rintro E z8
  simp [z8]

set_option maxHeartbeats 16000000 in
set_option maxRecDepth 10000 in
theorem l_mvpsB (l : List Pk) (hl : BigP l) (hls : StrP l) (a : List Int) (ha : BigI a) (b : List Int) (hb : BigI b) (N : List ByteArray) (hN : BigS N) (hNs : StrS N) (g0 : ¬ (1048576 : Int) < (a.length : Int)) (g1 : ¬ (1048576 : Int) < (b.length : Int)) (g2 : ¬ sz_pks l 1048576 < 0) (g3 : ¬ sz_strs N (sz_pks l 1048576) < 0) (h : ¬ (mvC l a b N ≠ 0 ∨ (a = [] ∧ b.filter (isN l N) = []))) :
    Pure Tryz.prog 7 [pksAV true true l, intsAV true a, intsAV true b, strsAV true N] (.v (.bool true)) := by
  obtain ⟨hl1, hl2⟩ := hl.len
  have ha3 : a.length ≤ 4611686018427387904 := by unfold BigI at ha; omega
  have hb3 : b.length ≤ 4611686018427387904 := by unfold BigI at hb; omega
  have hN3 : N.length ≤ 4611686018427387904 := by unfold BigS at hN; omega
  have hmk := (sz_pks_le hl hls (by decide) (by decide) g2).1
  have hsz := (sz_pks_le hl hls (by decide) (by decide) g2).2
  have hst := (sz_strs_le hN hNs hsz (by omega) g3).1
  have hst2 := (sz_strs_le hN hNs hsz (by omega) g3).2
  have hq : ¬ 1 + (mkPs l : Int) + (a.length : Int) + (b.length : Int) + (N.length : Int) < 0 := by omega
  have hP := p_movePacks false false false false l hl1 hl2 a b ha3 hb3 N hN3
  have hQ := q_movePacksB false false false false l hl1 hl2 a b ha3 hb3 N hN3 (Classical.not_not.1 fun e => h (.inl e)) fun e => h (.inr e)
  have hc0 : mvC l a b N = 0 := Classical.not_not.1 fun e => h (.inl e)
  rw [mvR, if_pos hc0, hc0] at hP
  simp only [setRes] at hP hQ
  have hln : (mvF l a b N).length ≤ 24 := by
    have h1 := (mv_facts hc0).1
    have h2 := mvF_len l a b N
    omega
  obtain ⟨F, hF⟩ : ∃ F, F = mvF l a b N := ⟨_, rfl⟩
  rw [← hF] at hP hQ hln
  have htk : List.take F.length (List.map intCells (mlist 1 F.length)) = List.map intCells (mlist 1 F.length) := List.take_of_length_le (by simp)
  have hQ2 : Pure Tryz.prog 42 [pksAV false false l, intsAV false a, intsAV false b, strsAV false N] (.agg [.v (.int .i64 0), .v (.int .i64 0), intsAV false F]) := by
    have := OCall.pure hQ (by simp) (by simp)
    simpa using this
  have hq2 : ¬ 1 + (F.length : Int) < 0 := by omega
  clear h hF
  refine top_of_code (G := Gt) verst mixed0 Tryz.func7 rfl (by decide) (by simp [Tryz.f7]) (by simp) fun ver => ?_
  simp only [Tryz.f7, Gt]
  refine seq_step ⟨[], noArrs ver⟩ (fun E => E 0 = pksAV true true l ∧ E 1 = intsAV true a ∧ E 2 = intsAV true b ∧ E 3 = strsAV true N) ?_ ?_
  · repeat' first
    | with_reducible refine reg_a ?_
    | simp []
  rintro E ⟨z0, z1, z2, z3⟩
  refine if_skip ⟨[], noArrs ver⟩ (fun E => E 0 = pksAV true true l ∧ E 1 = intsAV true a ∧ E 2 = intsAV true b ∧ E 3 = strsAV true N) ?_ ?_
  · repeat' first
    | with_reducible refine reg_a ?_
    | simp [z0, z1, z2, z3, g0]
  rintro E ⟨z0, z1, z2, z3⟩
  refine if_skip ⟨[], noArrs ver⟩ (fun E => E 0 = pksAV true true l ∧ E 1 = intsAV true a ∧ E 2 = intsAV true b ∧ E 3 = strsAV true N) ?_ ?_
  · repeat' first
    | with_reducible refine reg_a ?_
    | simp [z0, z1, z2, z3, g1]
  rintro E ⟨z0, z1, z2, z3⟩
  refine seq_step ⟨[], noArrs ver⟩ (fun E => E 0 = pksAV true true l ∧ E 1 = intsAV true a ∧ E 2 = intsAV true b ∧ E 3 = strsAV true N ∧ E 9 = .v (.int .i64 1048576)) ?_ ?_
  · repeat' first
    | with_reducible refine reg_a ?_
    | simp [z0, z1, z2, z3]
  rintro E ⟨z0, z1, z2, z3, z9⟩
  refine seq_step ⟨[], noArrs ver⟩ (fun E => E 0 = pksAV true true l ∧ E 1 = intsAV true a ∧ E 2 = intsAV true b ∧ E 3 = strsAV true N ∧ E 9 = .v (.int .i64 (sz_pks l 1048576))) ?_ ?_
  · repeat' first
    | with_reducible refine reg_a ?_
    | with_reducible refine call_p (z_pks true l hl _) (by simp) ?_
    | simp [z0, z1, z2, z3, z9]
  rintro E ⟨z0, z1, z2, z3, z9⟩
  refine if_skip ⟨[], noArrs ver⟩ (fun E => E 0 = pksAV true true l ∧ E 1 = intsAV true a ∧ E 2 = intsAV true b ∧ E 3 = strsAV true N ∧ E 9 = .v (.int .i64 (sz_pks l 1048576))) ?_ ?_
  · repeat' first
    | with_reducible refine reg_a ?_
    | simp [z0, z1, z2, z3, z9, g2]
  rintro E ⟨z0, z1, z2, z3, z9⟩
  refine seq_step ⟨[], noArrs ver⟩ (fun E => E 0 = pksAV true true l ∧ E 1 = intsAV true a ∧ E 2 = intsAV true b ∧ E 3 = strsAV true N ∧ E 9 = .v (.int .i64 (sz_strs N (sz_pks l 1048576)))) ?_ ?_
  · repeat' first
    | with_reducible refine reg_a ?_
    | with_reducible refine call_p (z_strs true N hN _) (by simp) ?_
    | simp [z0, z1, z2, z3, z9]
  rintro E ⟨z0, z1, z2, z3, z9⟩
  refine if_skip ⟨[], noArrs ver⟩ (fun E => E 0 = pksAV true true l ∧ E 1 = intsAV true a ∧ E 2 = intsAV true b ∧ E 3 = strsAV true N) ?_ ?_
  · repeat' first
    | with_reducible refine reg_a ?_
    | simp [z0, z1, z2, z3, z9, g3]
  rintro E ⟨z0, z1, z2, z3⟩
  refine seq_step ⟨[[.v (.int .i64 0), .v (.int .i64 0), intsAV false F]], noArrs ver⟩ (fun E => E 0 = pksAV true true l ∧ E 1 = intsAV true a ∧ E 2 = intsAV true b ∧ E 3 = strsAV true N ∧ E 10 = .box 0 0) ?_ ?_
  · repeat' first
    | with_reducible refine reg_a ?_
    | with_reducible refine call_p (t_pks true l hl) (by simp) ?_
    | with_reducible refine call_p (t_ints true a ha) (by simp) ?_
    | with_reducible refine call_p (t_ints true b hb) (by simp) ?_
    | with_reducible refine call_p (t_strs true N hN) (by simp) ?_
    | with_reducible refine call_p (hP) (by simp) ?_
    | simp [z0, z1, z2, z3]
  rintro E ⟨z0, z1, z2, z3, z10⟩
  refine seq_step ⟨[[.v (.int .i64 0), .v (.int .i64 0), intsAV true F]], noArrs ver⟩ (fun E => E 0 = pksAV true true l ∧ E 1 = intsAV true a ∧ E 2 = intsAV true b ∧ E 3 = strsAV true N ∧ E 10 = .box 0 0 ∧ E 11 = pksAV false false l) ?_ ?_
  · simp [z0, z1, z2, z3, z10]
    refine reg_ok 0 [(0, pksAV true true l), (1, intsAV true a), (2, intsAV true b), (3, strsAV true N), (10, .box 0 0)] [[.v (.int .i64 0), .v (.int .i64 0), intsAV false F]] [[.v (.int .i64 0), .v (.int .i64 0), intsAV true F]] (by simp) (by intro i; simp) (by simp) (by simp [OldsK_cons, OldsK_nil, z0, z1, z2, z3, z10]) (by simp [OldsB, OldsR]) ?_
    repeat' first
    | with_reducible refine call_p (t_pks true l hl) (by simp) ?_
    | simp [z0, z1, z2, z3, z10]
  rintro E ⟨z0, z1, z2, z3, z10, z11⟩
  refine seq_step ⟨[[.v (.int .i64 0), .v (.int .i64 0), intsAV true F]], noArrs ver⟩ (fun E => E 0 = pksAV true true l ∧ E 1 = intsAV true a ∧ E 2 = intsAV true b ∧ E 3 = strsAV true N ∧ E 10 = .box 0 0 ∧ E 11 = pksAV false false l ∧ E 12 = intsAV false a) ?_ ?_
  · repeat' first
    | with_reducible refine reg_a ?_
    | with_reducible refine call_p (t_ints true a ha) (by simp) ?_
    | simp [z0, z1, z2, z3, z10, z11]
  rintro E ⟨z0, z1, z2, z3, z10, z11, z12⟩
  refine seq_step ⟨[[.v (.int .i64 0), .v (.int .i64 0), intsAV true F]], noArrs ver⟩ (fun E => E 0 = pksAV true true l ∧ E 1 = intsAV true a ∧ E 2 = intsAV true b ∧ E 3 = strsAV true N ∧ E 10 = .box 0 0 ∧ E 11 = pksAV false false l ∧ E 12 = intsAV false a ∧ E 13 = intsAV false b) ?_ ?_
  · repeat' first
    | with_reducible refine reg_a ?_
    | with_reducible refine call_p (t_ints true b hb) (by simp) ?_
    | simp [z0, z1, z2, z3, z10, z11, z12]
  rintro E ⟨z0, z1, z2, z3, z10, z11, z12, z13⟩
  refine seq_step ⟨[[.v (.int .i64 0), .v (.int .i64 0), intsAV true F]], noArrs ver⟩ (fun E => E 0 = pksAV true true l ∧ E 1 = intsAV true a ∧ E 2 = intsAV true b ∧ E 3 = strsAV true N ∧ E 10 = .box 0 0 ∧ E 11 = pksAV false false l ∧ E 12 = intsAV false a ∧ E 13 = intsAV false b ∧ E 14 = strsAV false N) ?_ ?_
  · repeat' first
    | with_reducible refine reg_a ?_
    | with_reducible refine call_p (t_strs true N hN) (by simp) ?_
    | simp [z0, z1, z2, z3, z10, z11, z12, z13]
  rintro E ⟨z0, z1, z2, z3, z10, z11, z12, z13, z14⟩
  refine seq_step ⟨[[.v (.int .i64 0), .v (.int .i64 0), intsAV true F], [.v (.int .i64 0), .v (.int .i64 0), .arr 57 (ver 57 + 1) 0 F.length]], arrW 57 (ver 57 + 1) 2 (F.map intCells) ver⟩ (fun E => E 0 = pksAV true true l ∧ E 1 = intsAV true a ∧ E 2 = intsAV true b ∧ E 3 = strsAV true N ∧ E 10 = .box 0 0 ∧ E 11 = pksAV false false l ∧ E 12 = intsAV false a ∧ E 13 = intsAV false b ∧ E 14 = strsAV false N ∧ E 15 = .box 1 0) ?_ ?_
  · repeat' first
    | with_reducible refine reg_a ?_
    | with_reducible refine call_n 57 hQ (by simp) ?_
    | simp [z0, z1, z2, z3, z10, z11, z12, z13, z14, noArrs_put]
  rintro E ⟨z0, z1, z2, z3, z10, z11, z12, z13, z14, z15⟩
  refine if_skip ⟨[[.v (.int .i64 0), .v (.int .i64 0), intsAV true F], [.v (.int .i64 0), .v (.int .i64 0), .arr 57 (ver 57 + 1) 0 F.length]], arrW 57 (ver 57 + 1) 2 (F.map intCells) ver⟩ (fun E => E 0 = pksAV true true l ∧ E 1 = intsAV true a ∧ E 2 = intsAV true b ∧ E 3 = strsAV true N ∧ E 10 = .box 0 0 ∧ E 11 = pksAV false false l ∧ E 12 = intsAV false a ∧ E 13 = intsAV false b ∧ E 14 = strsAV false N ∧ E 15 = .box 1 0) ?_ ?_
  · repeat' first
    | with_reducible refine reg_a ?_
    | with_reducible refine call_p (e_set true true F (by omega) 0 0) (by simp) ?_
    | with_reducible refine call_p (e_set false true F (by omega) 0 0) (by simp) ?_
    | simp [z0, z1, z2, z3, z10, z11, z12, z13, z14, z15]
  rintro E ⟨z0, z1, z2, z3, z10, z11, z12, z13, z14, z15⟩
  refine if_skip ⟨[[.v (.int .i64 0), .v (.int .i64 0), intsAV true F], [.v (.int .i64 0), .v (.int .i64 0), .arr 57 (ver 57 + 1) 0 F.length]], arrW 57 (ver 57 + 1) 2 (F.map intCells) ver⟩ (fun E => E 0 = pksAV true true l ∧ E 1 = intsAV true a ∧ E 2 = intsAV true b ∧ E 3 = strsAV true N ∧ E 10 = .box 0 0 ∧ E 11 = pksAV false false l ∧ E 12 = intsAV false a ∧ E 13 = intsAV false b ∧ E 14 = strsAV false N ∧ E 15 = .box 1 0) ?_ ?_
  · repeat' first
    | with_reducible refine reg_a ?_
    | with_reducible refine call_p (t_pks true l hl) (by simp) ?_
    | with_reducible refine call_p (e_pks false false l hl1 hl2) (by simp) ?_
    | simp [z0, z1, z2, z3, z10, z11, z12, z13, z14, z15]
  rintro E ⟨z0, z1, z2, z3, z10, z11, z12, z13, z14, z15⟩
  refine if_skip ⟨[[.v (.int .i64 0), .v (.int .i64 0), intsAV true F], [.v (.int .i64 0), .v (.int .i64 0), .arr 57 (ver 57 + 1) 0 F.length]], arrW 57 (ver 57 + 1) 2 (F.map intCells) ver⟩ (fun E => E 0 = pksAV true true l ∧ E 1 = intsAV true a ∧ E 2 = intsAV true b ∧ E 3 = strsAV true N ∧ E 10 = .box 0 0 ∧ E 11 = pksAV false false l ∧ E 12 = intsAV false a ∧ E 13 = intsAV false b ∧ E 14 = strsAV false N ∧ E 15 = .box 1 0) ?_ ?_
  · repeat' first
    | with_reducible refine reg_a ?_
    | with_reducible refine call_p (t_ints true a ha) (by simp) ?_
    | with_reducible refine call_p (e_ints false false a ha3) (by simp) ?_
    | with_reducible refine call_p (e_ints false false b hb3) (by simp) ?_
    | simp [z0, z1, z2, z3, z10, z11, z12, z13, z14, z15]
  rintro E ⟨z0, z1, z2, z3, z10, z11, z12, z13, z14, z15⟩
  refine if_skip ⟨[[.v (.int .i64 0), .v (.int .i64 0), intsAV true F], [.v (.int .i64 0), .v (.int .i64 0), .arr 57 (ver 57 + 1) 0 F.length]], arrW 57 (ver 57 + 1) 2 (F.map intCells) ver⟩ (fun E => E 0 = pksAV true true l ∧ E 1 = intsAV true a ∧ E 2 = intsAV true b ∧ E 3 = strsAV true N ∧ E 10 = .box 0 0 ∧ E 11 = pksAV false false l ∧ E 12 = intsAV false a ∧ E 13 = intsAV false b ∧ E 14 = strsAV false N ∧ E 15 = .box 1 0) ?_ ?_
  · repeat' first
    | with_reducible refine reg_a ?_
    | with_reducible refine call_p (t_ints true b hb) (by simp) ?_
    | with_reducible refine call_p (e_ints false false a ha3) (by simp) ?_
    | with_reducible refine call_p (e_ints false false b hb3) (by simp) ?_
    | simp [z0, z1, z2, z3, z10, z11, z12, z13, z14, z15]
  rintro E ⟨z0, z1, z2, z3, z10, z11, z12, z13, z14, z15⟩
  refine if_skip ⟨[[.v (.int .i64 0), .v (.int .i64 0), intsAV true F], [.v (.int .i64 0), .v (.int .i64 0), .arr 57 (ver 57 + 1) 0 F.length]], arrW 57 (ver 57 + 1) 2 (F.map intCells) ver⟩ (fun E => E 0 = pksAV true true l ∧ E 1 = intsAV true a ∧ E 2 = intsAV true b ∧ E 3 = strsAV true N ∧ E 10 = .box 0 0 ∧ E 11 = pksAV false false l ∧ E 12 = intsAV false a ∧ E 13 = intsAV false b ∧ E 14 = strsAV false N ∧ E 15 = .box 1 0) ?_ ?_
  · repeat' first
    | with_reducible refine reg_a ?_
    | with_reducible refine call_p (t_strs true N hN) (by simp) ?_
    | with_reducible refine call_p (e_strs false false N hN3) (by simp) ?_
    | simp [z0, z1, z2, z3, z10, z11, z12, z13, z14, z15]
  rintro E ⟨z0, z1, z2, z3, z10, z11, z12, z13, z14, z15⟩
  refine seq_step ⟨[[.v (.int .i64 0), .v (.int .i64 0), intsAV true F], [.v (.int .i64 0), .v (.int .i64 0), .arr 57 (ver 57 + 1) 0 F.length]], arrW 57 (ver 57 + 1) 2 (F.map intCells) ver⟩ (fun E => E 0 = pksAV true true l ∧ E 1 = intsAV true a ∧ E 2 = intsAV true b ∧ E 3 = strsAV true N ∧ E 10 = .box 0 0 ∧ E 11 = pksAV false false l ∧ E 12 = intsAV false a ∧ E 13 = intsAV false b ∧ E 14 = strsAV false N ∧ E 15 = .box 1 0 ∧ E 16 = .v (.int .i64 1)) ?_ ?_
  · repeat' first
    | with_reducible refine reg_a ?_
    | simp [z0, z1, z2, z3, z10, z11, z12, z13, z14, z15]
  rintro E ⟨z0, z1, z2, z3, z10, z11, z12, z13, z14, z15, z16⟩
  refine seq_step ⟨[[.v (.int .i64 0), .v (.int .i64 0), intsAV true F], [.v (.int .i64 0), .v (.int .i64 0), .arr 57 (ver 57 + 1) 0 F.length]], arrW 57 (ver 57 + 1) 2 (F.map intCells) ver⟩ (fun E => E 0 = pksAV true true l ∧ E 1 = intsAV true a ∧ E 2 = intsAV true b ∧ E 3 = strsAV true N ∧ E 10 = .box 0 0 ∧ E 12 = wintsAV a ∧ E 13 = wintsAV b ∧ E 14 = wstrsAV N ∧ E 15 = .box 1 0 ∧ E 16 = .v (.int .i64 (1 + (mkPs l : Int)))) ?_ ?_
  · simp [z0, z1, z2, z3, z10, z11, z12, z13, z14, z15, z16]
    refine reg_k 2 ?_
    simp [z0, z1, z2, z3, z10, z11, z12, z13, z14, z15, z16]
    refine mark_b 0 [(0, pksAV true true l), (1, intsAV true a), (2, intsAV true b), (3, strsAV true N), (10, .box 0 0), (12, wintsAV a), (13, wintsAV b), (14, wstrsAV N), (15, .box 1 0)] [[.v (.int .i64 0), .v (.int .i64 0), intsAV true F], [.v (.int .i64 0), .v (.int .i64 0), .arr 57 (ver 57 + 1) 0 F.length]] [[.v (.int .i64 0), .v (.int .i64 0), intsAV true F], [.v (.int .i64 0), .v (.int .i64 0), .arr 57 (ver 57 + 1) 0 F.length]] (by simp) (w_pks l hl2 hl1 (1) (by omega) (by omega)) (by simp [WArgL]) (by simp) (by simp [StayB, StayR]) (arrW_stay (stayr_map F stayc_int)) (by simp) (by simp [WKeep_cons, WKeep_nil, z0, z1, z2, z3, z10, z11, z12, z13, z14, z15, z16]) ?_
    repeat' first
    | simp [z0, z1, z2, z3, z10, z11, z12, z13, z14, z15, z16]
  rintro E ⟨z0, z1, z2, z3, z10, z12, z13, z14, z15, z16⟩
  refine seq_step ⟨[[.v (.int .i64 0), .v (.int .i64 0), intsAV true F], [.v (.int .i64 0), .v (.int .i64 0), .arr 57 (ver 57 + 1) 0 F.length]], arrW 57 (ver 57 + 1) 2 (F.map intCells) ver⟩ (fun E => E 0 = pksAV true true l ∧ E 1 = intsAV true a ∧ E 2 = intsAV true b ∧ E 3 = strsAV true N ∧ E 10 = .box 0 0 ∧ E 13 = wintsAV b ∧ E 14 = wstrsAV N ∧ E 15 = .box 1 0 ∧ E 16 = .v (.int .i64 (1 + (mkPs l : Int) + (a.length : Int)))) ?_ ?_
  · simp [z0, z1, z2, z3, z10, z12, z13, z14, z15, z16]
    refine reg_k 2 ?_
    simp [z0, z1, z2, z3, z10, z12, z13, z14, z15, z16]
    refine mark_b 0 [(0, pksAV true true l), (1, intsAV true a), (2, intsAV true b), (3, strsAV true N), (10, .box 0 0), (13, wintsAV b), (14, wstrsAV N), (15, .box 1 0)] [[.v (.int .i64 0), .v (.int .i64 0), intsAV true F], [.v (.int .i64 0), .v (.int .i64 0), .arr 57 (ver 57 + 1) 0 F.length]] [[.v (.int .i64 0), .v (.int .i64 0), intsAV true F], [.v (.int .i64 0), .v (.int .i64 0), .arr 57 (ver 57 + 1) 0 F.length]] (by simp) (w_ints a (1 + (mkPs l : Int)) (by omega) (by omega)) (by simp [WArgL]) (by simp) (by simp [StayB, StayR]) (arrW_stay (stayr_map F stayc_int)) (by simp) (by simp [WKeep_cons, WKeep_nil, z0, z1, z2, z3, z10, z12, z13, z14, z15, z16]) ?_
    repeat' first
    | simp [z0, z1, z2, z3, z10, z12, z13, z14, z15, z16]
  rintro E ⟨z0, z1, z2, z3, z10, z13, z14, z15, z16⟩
  refine seq_step ⟨[[.v (.int .i64 0), .v (.int .i64 0), intsAV true F], [.v (.int .i64 0), .v (.int .i64 0), .arr 57 (ver 57 + 1) 0 F.length]], arrW 57 (ver 57 + 1) 2 (F.map intCells) ver⟩ (fun E => E 0 = pksAV true true l ∧ E 1 = intsAV true a ∧ E 2 = intsAV true b ∧ E 3 = strsAV true N ∧ E 10 = .box 0 0 ∧ E 14 = wstrsAV N ∧ E 15 = .box 1 0 ∧ E 16 = .v (.int .i64 (1 + (mkPs l : Int) + (a.length : Int) + (b.length : Int)))) ?_ ?_
  · simp [z0, z1, z2, z3, z10, z13, z14, z15, z16]
    refine reg_k 2 ?_
    simp [z0, z1, z2, z3, z10, z13, z14, z15, z16]
    refine mark_b 0 [(0, pksAV true true l), (1, intsAV true a), (2, intsAV true b), (3, strsAV true N), (10, .box 0 0), (14, wstrsAV N), (15, .box 1 0)] [[.v (.int .i64 0), .v (.int .i64 0), intsAV true F], [.v (.int .i64 0), .v (.int .i64 0), .arr 57 (ver 57 + 1) 0 F.length]] [[.v (.int .i64 0), .v (.int .i64 0), intsAV true F], [.v (.int .i64 0), .v (.int .i64 0), .arr 57 (ver 57 + 1) 0 F.length]] (by simp) (w_ints b (1 + (mkPs l : Int) + (a.length : Int)) (by omega) (by omega)) (by simp [WArgL]) (by simp) (by simp [StayB, StayR]) (arrW_stay (stayr_map F stayc_int)) (by simp) (by simp [WKeep_cons, WKeep_nil, z0, z1, z2, z3, z10, z13, z14, z15, z16]) ?_
    repeat' first
    | simp [z0, z1, z2, z3, z10, z13, z14, z15, z16]
  rintro E ⟨z0, z1, z2, z3, z10, z14, z15, z16⟩
  refine seq_step ⟨[[.v (.int .i64 0), .v (.int .i64 0), intsAV true F], [.v (.int .i64 0), .v (.int .i64 0), .arr 57 (ver 57 + 1) 0 F.length]], arrW 57 (ver 57 + 1) 2 (F.map intCells) ver⟩ (fun E => E 0 = pksAV true true l ∧ E 1 = intsAV true a ∧ E 2 = intsAV true b ∧ E 3 = strsAV true N ∧ E 10 = .box 0 0 ∧ E 15 = .box 1 0 ∧ E 16 = .v (.int .i64 (1 + (mkPs l : Int) + (a.length : Int) + (b.length : Int) + (N.length : Int)))) ?_ ?_
  · simp [z0, z1, z2, z3, z10, z14, z15, z16]
    refine reg_k 2 ?_
    simp [z0, z1, z2, z3, z10, z14, z15, z16]
    refine mark_b 0 [(0, pksAV true true l), (1, intsAV true a), (2, intsAV true b), (3, strsAV true N), (10, .box 0 0), (15, .box 1 0)] [[.v (.int .i64 0), .v (.int .i64 0), intsAV true F], [.v (.int .i64 0), .v (.int .i64 0), .arr 57 (ver 57 + 1) 0 F.length]] [[.v (.int .i64 0), .v (.int .i64 0), intsAV true F], [.v (.int .i64 0), .v (.int .i64 0), .arr 57 (ver 57 + 1) 0 F.length]] (by simp) (w_strs N (1 + (mkPs l : Int) + (a.length : Int) + (b.length : Int)) (by omega) (by omega)) (by simp [WArgL]) (by simp) (by simp [StayB, StayR]) (arrW_stay (stayr_map F stayc_int)) (by simp) (by simp [WKeep_cons, WKeep_nil, z0, z1, z2, z3, z10, z14, z15, z16]) ?_
    repeat' first
    | simp [z0, z1, z2, z3, z10, z14, z15, z16]
  rintro E ⟨z0, z1, z2, z3, z10, z15, z16⟩
  refine if_skip ⟨[[.v (.int .i64 0), .v (.int .i64 0), intsAV true F], [.v (.int .i64 0), .v (.int .i64 0), .arr 57 (ver 57 + 1) 0 F.length]], arrW 57 (ver 57 + 1) 2 (F.map intCells) ver⟩ (fun E => E 0 = pksAV true true l ∧ E 1 = intsAV true a ∧ E 2 = intsAV true b ∧ E 3 = strsAV true N ∧ E 10 = .box 0 0 ∧ E 15 = .box 1 0) ?_ ?_
  · repeat' first
    | with_reducible refine reg_a ?_
    | with_reducible refine call_p (e_set true true F (by omega) 0 0) (by simp) ?_
    | with_reducible refine call_p (e_set false true F (by omega) 0 0) (by simp) ?_
    | simp [z0, z1, z2, z3, z10, z15, z16, hq]
  rintro E ⟨z0, z1, z2, z3, z10, z15⟩
  refine seq_step ⟨[[.v (.int .i64 0), .v (.int .i64 0), intsAV true F], [.v (.int .i64 0), .v (.int .i64 0), .arr 57 (ver 57 + 1) 0 F.length]], arrW 57 (ver 57 + 1) 2 (F.map intCells) ver⟩ (fun E => E 0 = pksAV true true l ∧ E 1 = intsAV true a ∧ E 2 = intsAV true b ∧ E 3 = strsAV true N ∧ E 10 = .box 0 0 ∧ E 15 = .box 1 0 ∧ E 17 = .v (.int .i64 1)) ?_ ?_
  · repeat' first
    | with_reducible refine reg_a ?_
    | simp [z0, z1, z2, z3, z10, z15]
  rintro E ⟨z0, z1, z2, z3, z10, z15, z17⟩
  refine seq_step ⟨[[.v (.int .i64 0), .v (.int .i64 0), intsAV true F], [.v (.int .i64 0), .v (.int .i64 0), .arr 57 (ver 57 + 1) 0 F.length]], arrW 57 (ver 57 + 1) 2 ((mlist 1 F.length).map intCells) ver⟩ (fun E => E 0 = pksAV true true l ∧ E 1 = intsAV true a ∧ E 2 = intsAV true b ∧ E 3 = strsAV true N ∧ E 10 = .box 0 0 ∧ E 15 = .box 1 0 ∧ E 17 = .v (.int .i64 (1 + (F.length : Int)))) ?_ ?_
  · repeat' first
    | with_reducible refine reg_a ?_
    | with_reducible refine call_s 57 (ver 57 + 1) 2 (F.map intCells) (by simp) (o_markSet F 1 0 0 (by omega) (by omega)) (by simp) (by simp) (fr_int _) ?_
    | simp [z0, z1, z2, z3, z10, z15, z17, arrW_put]
  rintro E ⟨z0, z1, z2, z3, z10, z15, z17⟩
  refine seq_step ⟨[[.v (.int .i64 0), .v (.int .i64 0), intsAV true F], [.v (.int .i64 0), .v (.int .i64 0), .arr 57 (ver 57 + 1) 0 F.length]], arrW 57 (ver 57 + 1) 2 ((mlist 1 F.length).map intCells) ver⟩ (fun E => E 0 = pksAV true true l ∧ E 1 = intsAV true a ∧ E 2 = intsAV true b ∧ E 3 = strsAV true N ∧ E 10 = .box 0 0 ∧ E 15 = .box 1 0 ∧ E 17 = .v (.int .i64 (1 + (F.length : Int))) ∧ E 18 = .v (.int .i64 1)) ?_ ?_
  · repeat' first
    | with_reducible refine reg_a ?_
    | simp [z0, z1, z2, z3, z10, z15, z17]
  rintro E ⟨z0, z1, z2, z3, z10, z15, z17, z18⟩
  refine seq_step ⟨[[.v (.int .i64 0), .v (.int .i64 0), intsAV true F], [.v (.int .i64 0), .v (.int .i64 0), .arr 57 (ver 57 + 1) 0 F.length]], arrW 57 (ver 57 + 1) 2 ((mlist 1 F.length).map intCells) ver⟩ (fun E => E 0 = pksAV true true l ∧ E 1 = intsAV true a ∧ E 2 = intsAV true b ∧ E 3 = strsAV true N ∧ E 10 = .box 0 0 ∧ E 15 = .box 1 0 ∧ E 17 = .v (.int .i64 (1 + (F.length : Int))) ∧ E 18 = .v (.int .i64 (1 + (F.length : Int)))) ?_ ?_
  · repeat' first
    | with_reducible refine reg_a ?_
    | with_reducible refine call_p (p_heldSet true F.length 1 0 0 (by omega) (by omega)) (by simp) ?_
    | simp [z0, z1, z2, z3, z10, z15, z17, z18, htk]
  rintro E ⟨z0, z1, z2, z3, z10, z15, z17, z18⟩
  refine if_skip ⟨[[.v (.int .i64 0), .v (.int .i64 0), intsAV true F], [.v (.int .i64 0), .v (.int .i64 0), .arr 57 (ver 57 + 1) 0 F.length]], arrW 57 (ver 57 + 1) 2 ((mlist 1 F.length).map intCells) ver⟩ (fun E => E 0 = pksAV true true l ∧ E 1 = intsAV true a ∧ E 2 = intsAV true b ∧ E 3 = strsAV true N ∧ E 10 = .box 0 0 ∧ E 15 = .box 1 0 ∧ E 17 = .v (.int .i64 (1 + (F.length : Int))) ∧ E 18 = .v (.int .i64 (1 + (F.length : Int)))) ?_ ?_
  · repeat' first
    | with_reducible refine reg_a ?_
    | simp [z0, z1, z2, z3, z10, z15, z17, z18, hq2]
  rintro E ⟨z0, z1, z2, z3, z10, z15, z17, z18⟩
  refine if_skip ⟨[[.v (.int .i64 0), .v (.int .i64 0), intsAV true F], [.v (.int .i64 0), .v (.int .i64 0), .arr 57 (ver 57 + 1) 0 F.length]], arrW 57 (ver 57 + 1) 2 ((mlist 1 F.length).map intCells) ver⟩ (fun E => E 0 = pksAV true true l ∧ E 1 = intsAV true a ∧ E 2 = intsAV true b ∧ E 3 = strsAV true N ∧ E 10 = .box 0 0 ∧ E 15 = .box 1 0 ∧ E 17 = .v (.int .i64 (1 + (F.length : Int)))) ?_ ?_
  · repeat' first
    | with_reducible refine reg_a ?_
    | simp [z0, z1, z2, z3, z10, z15, z17, z18]
  rintro E ⟨z0, z1, z2, z3, z10, z15, z17⟩
  refine seq_step ⟨[[.v (.int .i64 0), .v (.int .i64 0), intsAV true F], [.v (.int .i64 0), .v (.int .i64 0), .arr 57 (ver 57 + 1) 0 F.length], [.v (.int .i64 0), .v (.int .i64 0), intsAV false F]], arrW 57 (ver 57 + 1) 2 ((mlist 1 F.length).map intCells) ver⟩ (fun E => E 10 = .box 0 0 ∧ E 15 = .box 1 0 ∧ E 17 = .v (.int .i64 (1 + (F.length : Int))) ∧ E 19 = .box 2 0) ?_ ?_
  · repeat' first
    | with_reducible refine reg_a ?_
    | with_reducible refine call_p (t_pks true l hl) (by simp) ?_
    | with_reducible refine call_p (t_ints true a ha) (by simp) ?_
    | with_reducible refine call_p (t_ints true b hb) (by simp) ?_
    | with_reducible refine call_p (t_strs true N hN) (by simp) ?_
    | with_reducible refine call_p (hQ2) (by simp) ?_
    | simp [z0, z1, z2, z3, z10, z15, z17]
  rintro E ⟨z10, z15, z17, z19⟩
  refine if_skip ⟨[[.v (.int .i64 0), .v (.int .i64 0), intsAV true F], [.v (.int .i64 0), .v (.int .i64 0), .arr 57 (ver 57 + 1) 0 F.length], [.v (.int .i64 0), .v (.int .i64 0), intsAV false F]], arrW 57 (ver 57 + 1) 2 ((mlist 1 F.length).map intCells) ver⟩ (fun E => E 15 = .box 1 0 ∧ E 17 = .v (.int .i64 (1 + (F.length : Int)))) ?_ ?_
  · repeat' first
    | with_reducible refine reg_a ?_
    | with_reducible refine call_p (e_set true true F (by omega) 0 0) (by simp) ?_
    | with_reducible refine call_p (e_set false true F (by omega) 0 0) (by simp) ?_
    | simp [z10, z15, z17, z19]
  rintro E ⟨z15, z17⟩
  refine seq_step ⟨[[.v (.int .i64 0), .v (.int .i64 0), intsAV true F], [.v (.int .i64 0), .v (.int .i64 0), .arr 57 (ver 57 + 1) 0 F.length], [.v (.int .i64 0), .v (.int .i64 0), intsAV false F]], arrW 57 (ver 57 + 1) 2 ((mlist 1 F.length).map intCells) ver⟩ (fun E => E 15 = .box 1 0 ∧ E 17 = .v (.int .i64 (1 + (F.length : Int))) ∧ E 18 = .v (.int .i64 1)) ?_ ?_
  · repeat' first
    | with_reducible refine reg_a ?_
    | simp [z15, z17]
  rintro E ⟨z15, z17, z18⟩
  refine seq_step ⟨[[.v (.int .i64 0), .v (.int .i64 0), intsAV true F], [.v (.int .i64 0), .v (.int .i64 0), .arr 57 (ver 57 + 1) 0 F.length], [.v (.int .i64 0), .v (.int .i64 0), intsAV false F]], arrW 57 (ver 57 + 1) 2 ((mlist 1 F.length).map intCells) ver⟩ (fun E => E 17 = .v (.int .i64 (1 + (F.length : Int))) ∧ E 18 = .v (.int .i64 (1 + (F.length : Int)))) ?_ ?_
  · repeat' first
    | with_reducible refine reg_a ?_
    | with_reducible refine call_p (p_heldSet true F.length 1 0 0 (by omega) (by omega)) (by simp) ?_
    | simp [z15, z17, z18, htk]
  rintro E ⟨z17, z18⟩
  refine if_skip ⟨[[.v (.int .i64 0), .v (.int .i64 0), intsAV true F], [.v (.int .i64 0), .v (.int .i64 0), .arr 57 (ver 57 + 1) 0 F.length], [.v (.int .i64 0), .v (.int .i64 0), intsAV false F]], arrW 57 (ver 57 + 1) 2 ((mlist 1 F.length).map intCells) ver⟩ (fun E => E 17 = .v (.int .i64 (1 + (F.length : Int))) ∧ E 18 = .v (.int .i64 (1 + (F.length : Int)))) ?_ ?_
  · repeat' first
    | with_reducible refine reg_a ?_
    | simp [z17, z18, hq2]
  rintro E ⟨z17, z18⟩
  refine if_skip ⟨[[.v (.int .i64 0), .v (.int .i64 0), intsAV true F], [.v (.int .i64 0), .v (.int .i64 0), .arr 57 (ver 57 + 1) 0 F.length], [.v (.int .i64 0), .v (.int .i64 0), intsAV false F]], arrW 57 (ver 57 + 1) 2 ((mlist 1 F.length).map intCells) ver⟩ (fun _ => True) ?_ ?_
  · repeat' first
    | with_reducible refine reg_a ?_
    | simp [z17, z18]
  rintro E _
  refine seq_step ⟨[[.v (.int .i64 0), .v (.int .i64 0), intsAV true F], [.v (.int .i64 0), .v (.int .i64 0), .arr 57 (ver 57 + 1) 0 F.length], [.v (.int .i64 0), .v (.int .i64 0), intsAV false F]], arrW 57 (ver 57 + 1) 2 ((mlist 1 F.length).map intCells) ver⟩ (fun E => E 8 = .v (.bool true)) ?_ ?_
  · repeat' first
    | with_reducible refine reg_a ?_
    | simp []
  rintro E z8
  simp [z8]

theorem l_mvps (l : List Pk) (hl : BigP l) (hls : StrP l) (a : List Int) (ha : BigI a) (b : List Int) (hb : BigI b) (N : List ByteArray) (hN : BigS N) (hNs : StrS N) :
    Pure Tryz.prog 7 [pksAV true true l, intsAV true a, intsAV true b, strsAV true N] (.v (.bool true)) := by
  by_cases g0 : (1048576 : Int) < (a.length : Int)
  · exact l_mvps0 l hl hls a ha b hb N hN hNs g0
  by_cases g1 : (1048576 : Int) < (b.length : Int)
  · exact l_mvps1 l hl hls a ha b hb N hN hNs g0 g1
  by_cases g2 : sz_pks l 1048576 < 0
  · exact l_mvps2 l hl hls a ha b hb N hN hNs g0 g1 g2
  by_cases g3 : sz_strs N (sz_pks l 1048576) < 0
  · exact l_mvps3 l hl hls a ha b hb N hN hNs g0 g1 g2 g3
  by_cases h : mvC l a b N ≠ 0 ∨ (a = [] ∧ b.filter (isN l N) = [])
  · exact l_mvpsA l hl hls a ha b hb N hN hNs g0 g1 g2 g3 h
  · exact l_mvpsB l hl hls a ha b hb N hN hNs g0 g1 g2 g3 h

end Go.Proofs.YtokhnmchnfkiiaaGreat.Am
