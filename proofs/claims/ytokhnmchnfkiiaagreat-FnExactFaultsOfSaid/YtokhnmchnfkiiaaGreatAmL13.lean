/- The law about the faults of a set: what is to be shown of the row's function. No conditions. -/
import Derived.Test.YtokhnmchnfkiiaaGreatAmC33
import Derived.Test.YtokhnmchnfkiiaaGreatAmC32
namespace Go.Proofs.YtokhnmchnfkiiaaGreat.Am
open Go Go.RowKit Go.Proofs
set_option linter.unusedSimpArgs false
set_option linter.unusedVariables false

set_option maxHeartbeats 16000000 in
set_option maxRecDepth 10000 in
theorem l_faults0 (l : List Pk) (hl : BigP l) (hls : StrP l) (s : List Int) (hs : BigI s) (g0 : (1048576 : Int) < (s.length : Int)) :
    Pure Tryz.prog 4 [pksAV true true l, intsAV true s] (.v (.bool true)) := by
  obtain ⟨hl1, hl2⟩ := hl.len
  have hs3 : s.length ≤ 4611686018427387904 := by unfold BigI at hs; omega
  refine top_of_code (G := Gt) verst mixed0 Tryz.func4 rfl (by decide) (by simp [Tryz.f4]) (by simp) fun ver => ?_
  simp only [Tryz.f4, Gt]
  refine seq_step ⟨[], noArrs ver⟩ (fun E => E 0 = pksAV true true l ∧ E 1 = intsAV true s) ?_ ?_
  · repeat' first
    | with_reducible refine reg_a ?_
    | simp []
  rintro E ⟨z0, z1⟩
  refine if_take ⟨[], noArrs ver⟩ (fun E => E 0 = pksAV true true l ∧ E 1 = intsAV true s) ?_ ?_
  · repeat' first
    | with_reducible refine reg_a ?_
    | simp [z0, z1, g0]
  rintro E ⟨z0, z1⟩
  repeat' first
    | with_reducible refine reg_a ?_
    | simp [z0, z1]

set_option maxHeartbeats 16000000 in
set_option maxRecDepth 10000 in
theorem l_faults1 (l : List Pk) (hl : BigP l) (hls : StrP l) (s : List Int) (hs : BigI s) (g0 : ¬ (1048576 : Int) < (s.length : Int)) (g1 : sz_pks l 1048576 < 0) :
    Pure Tryz.prog 4 [pksAV true true l, intsAV true s] (.v (.bool true)) := by
  obtain ⟨hl1, hl2⟩ := hl.len
  have hs3 : s.length ≤ 4611686018427387904 := by unfold BigI at hs; omega
  refine top_of_code (G := Gt) verst mixed0 Tryz.func4 rfl (by decide) (by simp [Tryz.f4]) (by simp) fun ver => ?_
  simp only [Tryz.f4, Gt]
  refine seq_step ⟨[], noArrs ver⟩ (fun E => E 0 = pksAV true true l ∧ E 1 = intsAV true s) ?_ ?_
  · repeat' first
    | with_reducible refine reg_a ?_
    | simp []
  rintro E ⟨z0, z1⟩
  refine if_skip ⟨[], noArrs ver⟩ (fun E => E 0 = pksAV true true l ∧ E 1 = intsAV true s) ?_ ?_
  · repeat' first
    | with_reducible refine reg_a ?_
    | simp [z0, z1, g0]
  rintro E ⟨z0, z1⟩
  refine seq_step ⟨[], noArrs ver⟩ (fun E => E 0 = pksAV true true l ∧ E 1 = intsAV true s ∧ E 5 = .v (.int .i64 1048576)) ?_ ?_
  · repeat' first
    | with_reducible refine reg_a ?_
    | simp [z0, z1]
  rintro E ⟨z0, z1, z5⟩
  refine seq_step ⟨[], noArrs ver⟩ (fun E => E 0 = pksAV true true l ∧ E 1 = intsAV true s ∧ E 5 = .v (.int .i64 (sz_pks l 1048576))) ?_ ?_
  · repeat' first
    | with_reducible refine reg_a ?_
    | with_reducible refine call_p (z_pks true l hl _) (by simp) ?_
    | simp [z0, z1, z5]
  rintro E ⟨z0, z1, z5⟩
  refine if_take ⟨[], noArrs ver⟩ (fun E => E 0 = pksAV true true l ∧ E 1 = intsAV true s) ?_ ?_
  · repeat' first
    | with_reducible refine reg_a ?_
    | simp [z0, z1, z5, g1]
  rintro E ⟨z0, z1⟩
  repeat' first
    | with_reducible refine reg_a ?_
    | simp [z0, z1]

set_option maxHeartbeats 16000000 in
set_option maxRecDepth 10000 in
theorem l_faultsA (l : List Pk) (hl : BigP l) (hls : StrP l) (s : List Int) (hs : BigI s) (g0 : ¬ (1048576 : Int) < (s.length : Int)) (g1 : ¬ sz_pks l 1048576 < 0) (h : setF l s ≠ 0) :
    Pure Tryz.prog 4 [pksAV true true l, intsAV true s] (.v (.bool true)) := by
  obtain ⟨hl1, hl2⟩ := hl.len
  have hs3 : s.length ≤ 4611686018427387904 := by unfold BigI at hs; omega
  have hmk := (sz_pks_le hl hls (by decide) (by decide) g1).1
  have hsz := (sz_pks_le hl hls (by decide) (by decide) g1).2
  have hq : ¬ 1 + (mkPs l : Int) + (s.length : Int) < 0 := by omega
  have hP := p_faultsOf false false false l hl1 hl2 s hs3
  have hQ := q_faultsOfA false false false l hl1 hl2 s hs3 h
  rw [show faultsF l s = [] by simp [faultsF, h]] at hP
  obtain ⟨k, hk⟩ : ∃ k, k = setF l s := ⟨_, rfl⟩
  rw [← hk] at hP hQ
  clear hk h
  simp only [fltsAV, List.map_nil] at hP
  have hE : ∀ c d : Bool, Pure Tryz.prog 32 [.agg [.v (.int .i64 k), .sl c []], .agg [.v (.int .i64 k), .sl d []]] (.v (.bool true)) := fun c d => by simpa using e_fltsRes c d [] (by simp) k
  have hq1 : ¬ (1 : Int) < 0 := by omega
  refine top_of_code (G := Gt) verst mixed0 Tryz.func4 rfl (by decide) (by simp [Tryz.f4]) (by simp) fun ver => ?_
  simp only [Tryz.f4, Gt]
  refine seq_step ⟨[], noArrs ver⟩ (fun E => E 0 = pksAV true true l ∧ E 1 = intsAV true s) ?_ ?_
  · repeat' first
    | with_reducible refine reg_a ?_
    | simp []
  rintro E ⟨z0, z1⟩
  refine if_skip ⟨[], noArrs ver⟩ (fun E => E 0 = pksAV true true l ∧ E 1 = intsAV true s) ?_ ?_
  · repeat' first
    | with_reducible refine reg_a ?_
    | simp [z0, z1, g0]
  rintro E ⟨z0, z1⟩
  refine seq_step ⟨[], noArrs ver⟩ (fun E => E 0 = pksAV true true l ∧ E 1 = intsAV true s ∧ E 5 = .v (.int .i64 1048576)) ?_ ?_
  · repeat' first
    | with_reducible refine reg_a ?_
    | simp [z0, z1]
  rintro E ⟨z0, z1, z5⟩
  refine seq_step ⟨[], noArrs ver⟩ (fun E => E 0 = pksAV true true l ∧ E 1 = intsAV true s ∧ E 5 = .v (.int .i64 (sz_pks l 1048576))) ?_ ?_
  · repeat' first
    | with_reducible refine reg_a ?_
    | with_reducible refine call_p (z_pks true l hl _) (by simp) ?_
    | simp [z0, z1, z5]
  rintro E ⟨z0, z1, z5⟩
  refine if_skip ⟨[], noArrs ver⟩ (fun E => E 0 = pksAV true true l ∧ E 1 = intsAV true s) ?_ ?_
  · repeat' first
    | with_reducible refine reg_a ?_
    | simp [z0, z1, z5, g1]
  rintro E ⟨z0, z1⟩
  refine seq_step ⟨[[.v (.int .i64 k), .sl false []]], noArrs ver⟩ (fun E => E 0 = pksAV true true l ∧ E 1 = intsAV true s ∧ E 6 = .box 0 0) ?_ ?_
  · repeat' first
    | with_reducible refine reg_a ?_
    | with_reducible refine call_p (t_pks true l hl) (by simp) ?_
    | with_reducible refine call_p (t_ints true s hs) (by simp) ?_
    | with_reducible refine call_p (hP) (by simp) ?_
    | simp [z0, z1]
  rintro E ⟨z0, z1, z6⟩
  refine seq_step ⟨[[.v (.int .i64 k), .sl true []]], noArrs ver⟩ (fun E => E 0 = pksAV true true l ∧ E 1 = intsAV true s ∧ E 6 = .box 0 0 ∧ E 7 = pksAV false false l) ?_ ?_
  · simp [z0, z1, z6]
    refine reg_ok 0 [(0, pksAV true true l), (1, intsAV true s), (6, .box 0 0)] [[.v (.int .i64 k), .sl false []]] [[.v (.int .i64 k), .sl true []]] (by simp) (by intro i; simp) (by simp) (by simp [OldsK_cons, OldsK_nil, z0, z1, z6]) (by simp [OldsB, OldsR]) ?_
    repeat' first
    | with_reducible refine call_p (t_pks true l hl) (by simp) ?_
    | simp [z0, z1, z6]
  rintro E ⟨z0, z1, z6, z7⟩
  refine seq_step ⟨[[.v (.int .i64 k), .sl true []]], noArrs ver⟩ (fun E => E 0 = pksAV true true l ∧ E 1 = intsAV true s ∧ E 6 = .box 0 0 ∧ E 7 = pksAV false false l ∧ E 8 = intsAV false s) ?_ ?_
  · repeat' first
    | with_reducible refine reg_a ?_
    | with_reducible refine call_p (t_ints true s hs) (by simp) ?_
    | simp [z0, z1, z6, z7]
  rintro E ⟨z0, z1, z6, z7, z8⟩
  refine seq_step ⟨[[.v (.int .i64 k), .sl true []], [.v (.int .i64 k), .sl false []]], noArrs ver⟩ (fun E => E 0 = pksAV true true l ∧ E 1 = intsAV true s ∧ E 6 = .box 0 0 ∧ E 7 = pksAV false false l ∧ E 8 = intsAV false s ∧ E 9 = .box 1 0) ?_ ?_
  · repeat' first
    | with_reducible refine reg_a ?_
    | with_reducible refine call_p (hQ) (by simp) ?_
    | simp [z0, z1, z6, z7, z8]
  rintro E ⟨z0, z1, z6, z7, z8, z9⟩
  refine if_skip ⟨[[.v (.int .i64 k), .sl true []], [.v (.int .i64 k), .sl false []]], noArrs ver⟩ (fun E => E 0 = pksAV true true l ∧ E 1 = intsAV true s ∧ E 6 = .box 0 0 ∧ E 7 = pksAV false false l ∧ E 8 = intsAV false s ∧ E 9 = .box 1 0) ?_ ?_
  · repeat' first
    | with_reducible refine reg_a ?_
    | with_reducible refine call_p (hE _ _) (by simp) ?_
    | simp [z0, z1, z6, z7, z8, z9]
  rintro E ⟨z0, z1, z6, z7, z8, z9⟩
  refine if_skip ⟨[[.v (.int .i64 k), .sl true []], [.v (.int .i64 k), .sl false []]], noArrs ver⟩ (fun E => E 0 = pksAV true true l ∧ E 1 = intsAV true s ∧ E 6 = .box 0 0 ∧ E 7 = pksAV false false l ∧ E 8 = intsAV false s ∧ E 9 = .box 1 0) ?_ ?_
  · repeat' first
    | with_reducible refine reg_a ?_
    | with_reducible refine call_p (t_pks true l hl) (by simp) ?_
    | with_reducible refine call_p (e_pks false false l hl1 hl2) (by simp) ?_
    | simp [z0, z1, z6, z7, z8, z9]
  rintro E ⟨z0, z1, z6, z7, z8, z9⟩
  refine if_skip ⟨[[.v (.int .i64 k), .sl true []], [.v (.int .i64 k), .sl false []]], noArrs ver⟩ (fun E => E 0 = pksAV true true l ∧ E 1 = intsAV true s ∧ E 6 = .box 0 0 ∧ E 7 = pksAV false false l ∧ E 8 = intsAV false s ∧ E 9 = .box 1 0) ?_ ?_
  · repeat' first
    | with_reducible refine reg_a ?_
    | with_reducible refine call_p (t_ints true s hs) (by simp) ?_
    | with_reducible refine call_p (e_ints false false s hs3) (by simp) ?_
    | simp [z0, z1, z6, z7, z8, z9]
  rintro E ⟨z0, z1, z6, z7, z8, z9⟩
  refine seq_step ⟨[[.v (.int .i64 k), .sl true []], [.v (.int .i64 k), .sl false []]], noArrs ver⟩ (fun E => E 0 = pksAV true true l ∧ E 1 = intsAV true s ∧ E 6 = .box 0 0 ∧ E 7 = pksAV false false l ∧ E 8 = intsAV false s ∧ E 9 = .box 1 0 ∧ E 10 = .v (.int .i64 1)) ?_ ?_
  · repeat' first
    | with_reducible refine reg_a ?_
    | simp [z0, z1, z6, z7, z8, z9]
  rintro E ⟨z0, z1, z6, z7, z8, z9, z10⟩
  refine seq_step ⟨[[.v (.int .i64 k), .sl true []], [.v (.int .i64 k), .sl false []]], noArrs ver⟩ (fun E => E 0 = pksAV true true l ∧ E 1 = intsAV true s ∧ E 6 = .box 0 0 ∧ E 8 = wintsAV s ∧ E 9 = .box 1 0 ∧ E 10 = .v (.int .i64 (1 + (mkPs l : Int)))) ?_ ?_
  · simp [z0, z1, z6, z7, z8, z9, z10]
    refine reg_k 2 ?_
    simp [z0, z1, z6, z7, z8, z9, z10]
    refine mark_b 0 [(0, pksAV true true l), (1, intsAV true s), (6, .box 0 0), (8, wintsAV s), (9, .box 1 0)] [[.v (.int .i64 k), .sl true []], [.v (.int .i64 k), .sl false []]] [[.v (.int .i64 k), .sl true []], [.v (.int .i64 k), .sl false []]] (by simp) (w_pks l hl2 hl1 (1) (by omega) (by omega)) (by simp [WArgL]) (by simp) (by simp [StayB, StayR]) (by intro i; simp) (by simp) (by simp [WKeep_cons, WKeep_nil, z0, z1, z6, z7, z8, z9, z10]) ?_
    repeat' first
    | simp [z0, z1, z6, z7, z8, z9, z10]
  rintro E ⟨z0, z1, z6, z8, z9, z10⟩
  refine seq_step ⟨[[.v (.int .i64 k), .sl true []], [.v (.int .i64 k), .sl false []]], noArrs ver⟩ (fun E => E 0 = pksAV true true l ∧ E 1 = intsAV true s ∧ E 6 = .box 0 0 ∧ E 9 = .box 1 0 ∧ E 10 = .v (.int .i64 (1 + (mkPs l : Int) + (s.length : Int)))) ?_ ?_
  · simp [z0, z1, z6, z8, z9, z10]
    refine reg_k 2 ?_
    simp [z0, z1, z6, z8, z9, z10]
    refine mark_b 0 [(0, pksAV true true l), (1, intsAV true s), (6, .box 0 0), (9, .box 1 0)] [[.v (.int .i64 k), .sl true []], [.v (.int .i64 k), .sl false []]] [[.v (.int .i64 k), .sl true []], [.v (.int .i64 k), .sl false []]] (by simp) (w_ints s (1 + (mkPs l : Int)) (by omega) (by omega)) (by simp [WArgL]) (by simp) (by simp [StayB, StayR]) (by intro i; simp) (by simp) (by simp [WKeep_cons, WKeep_nil, z0, z1, z6, z8, z9, z10]) ?_
    repeat' first
    | simp [z0, z1, z6, z8, z9, z10]
  rintro E ⟨z0, z1, z6, z9, z10⟩
  refine if_skip ⟨[[.v (.int .i64 k), .sl true []], [.v (.int .i64 k), .sl false []]], noArrs ver⟩ (fun E => E 0 = pksAV true true l ∧ E 1 = intsAV true s ∧ E 6 = .box 0 0 ∧ E 9 = .box 1 0) ?_ ?_
  · repeat' first
    | with_reducible refine reg_a ?_
    | with_reducible refine call_p (hE _ _) (by simp) ?_
    | simp [z0, z1, z6, z9, z10, hq]
  rintro E ⟨z0, z1, z6, z9⟩
  refine seq_step ⟨[[.v (.int .i64 k), .sl true []], [.v (.int .i64 k), .sl false []]], noArrs ver⟩ (fun E => E 0 = pksAV true true l ∧ E 1 = intsAV true s ∧ E 6 = .box 0 0 ∧ E 9 = .box 1 0 ∧ E 11 = .v (.int .i64 1)) ?_ ?_
  · repeat' first
    | with_reducible refine reg_a ?_
    | simp [z0, z1, z6, z9]
  rintro E ⟨z0, z1, z6, z9, z11⟩
  refine seq_step ⟨[[.v (.int .i64 k), .sl true []], [.v (.int .i64 k), .sl false []]], noArrs ver⟩ (fun E => E 0 = pksAV true true l ∧ E 1 = intsAV true s ∧ E 6 = .box 0 0 ∧ E 9 = .box 1 0 ∧ E 11 = .v (.int .i64 1)) ?_ ?_
  · repeat' first
    | with_reducible refine reg_a ?_
    | with_reducible refine call_p (p_markFltsRes0 false 1 k) (by simp) ?_
    | simp [z0, z1, z6, z9, z11]
  rintro E ⟨z0, z1, z6, z9, z11⟩
  refine seq_step ⟨[[.v (.int .i64 k), .sl true []], [.v (.int .i64 k), .sl false []]], noArrs ver⟩ (fun E => E 0 = pksAV true true l ∧ E 1 = intsAV true s ∧ E 6 = .box 0 0 ∧ E 9 = .box 1 0 ∧ E 11 = .v (.int .i64 1) ∧ E 12 = .v (.int .i64 1)) ?_ ?_
  · repeat' first
    | with_reducible refine reg_a ?_
    | simp [z0, z1, z6, z9, z11]
  rintro E ⟨z0, z1, z6, z9, z11, z12⟩
  refine seq_step ⟨[[.v (.int .i64 k), .sl true []], [.v (.int .i64 k), .sl false []]], noArrs ver⟩ (fun E => E 0 = pksAV true true l ∧ E 1 = intsAV true s ∧ E 6 = .box 0 0 ∧ E 9 = .box 1 0 ∧ E 11 = .v (.int .i64 1) ∧ E 12 = .v (.int .i64 1)) ?_ ?_
  · repeat' first
    | with_reducible refine reg_a ?_
    | with_reducible refine call_p (p_heldFltsRes0 _ 1 k (by omega) (by omega)) (by simp) ?_
    | simp [z0, z1, z6, z9, z11, z12]
  rintro E ⟨z0, z1, z6, z9, z11, z12⟩
  refine if_skip ⟨[[.v (.int .i64 k), .sl true []], [.v (.int .i64 k), .sl false []]], noArrs ver⟩ (fun E => E 0 = pksAV true true l ∧ E 1 = intsAV true s ∧ E 6 = .box 0 0 ∧ E 9 = .box 1 0 ∧ E 11 = .v (.int .i64 1) ∧ E 12 = .v (.int .i64 1)) ?_ ?_
  · repeat' first
    | with_reducible refine reg_a ?_
    | simp [z0, z1, z6, z9, z11, z12, hq1]
  rintro E ⟨z0, z1, z6, z9, z11, z12⟩
  refine if_skip ⟨[[.v (.int .i64 k), .sl true []], [.v (.int .i64 k), .sl false []]], noArrs ver⟩ (fun E => E 0 = pksAV true true l ∧ E 1 = intsAV true s ∧ E 6 = .box 0 0 ∧ E 9 = .box 1 0 ∧ E 11 = .v (.int .i64 1)) ?_ ?_
  · repeat' first
    | with_reducible refine reg_a ?_
    | simp [z0, z1, z6, z9, z11, z12]
  rintro E ⟨z0, z1, z6, z9, z11⟩
  refine seq_step ⟨[[.v (.int .i64 k), .sl true []], [.v (.int .i64 k), .sl false []], [.v (.int .i64 k), .sl false []]], noArrs ver⟩ (fun E => E 6 = .box 0 0 ∧ E 9 = .box 1 0 ∧ E 11 = .v (.int .i64 1) ∧ E 13 = .box 2 0) ?_ ?_
  · repeat' first
    | with_reducible refine reg_a ?_
    | with_reducible refine call_p (t_pks true l hl) (by simp) ?_
    | with_reducible refine call_p (t_ints true s hs) (by simp) ?_
    | with_reducible refine call_p (hQ) (by simp) ?_
    | simp [z0, z1, z6, z9, z11]
  rintro E ⟨z6, z9, z11, z13⟩
  refine if_skip ⟨[[.v (.int .i64 k), .sl true []], [.v (.int .i64 k), .sl false []], [.v (.int .i64 k), .sl false []]], noArrs ver⟩ (fun E => E 9 = .box 1 0 ∧ E 11 = .v (.int .i64 1)) ?_ ?_
  · repeat' first
    | with_reducible refine reg_a ?_
    | with_reducible refine call_p (hE _ _) (by simp) ?_
    | simp [z6, z9, z11, z13]
  rintro E ⟨z9, z11⟩
  refine seq_step ⟨[[.v (.int .i64 k), .sl true []], [.v (.int .i64 k), .sl false []], [.v (.int .i64 k), .sl false []]], noArrs ver⟩ (fun E => E 9 = .box 1 0 ∧ E 11 = .v (.int .i64 1) ∧ E 12 = .v (.int .i64 1)) ?_ ?_
  · repeat' first
    | with_reducible refine reg_a ?_
    | simp [z9, z11]
  rintro E ⟨z9, z11, z12⟩
  refine seq_step ⟨[[.v (.int .i64 k), .sl true []], [.v (.int .i64 k), .sl false []], [.v (.int .i64 k), .sl false []]], noArrs ver⟩ (fun E => E 11 = .v (.int .i64 1) ∧ E 12 = .v (.int .i64 1)) ?_ ?_
  · repeat' first
    | with_reducible refine reg_a ?_
    | with_reducible refine call_p (p_heldFltsRes0 _ 1 k (by omega) (by omega)) (by simp) ?_
    | simp [z9, z11, z12]
  rintro E ⟨z11, z12⟩
  refine if_skip ⟨[[.v (.int .i64 k), .sl true []], [.v (.int .i64 k), .sl false []], [.v (.int .i64 k), .sl false []]], noArrs ver⟩ (fun E => E 11 = .v (.int .i64 1) ∧ E 12 = .v (.int .i64 1)) ?_ ?_
  · repeat' first
    | with_reducible refine reg_a ?_
    | simp [z11, z12, hq1]
  rintro E ⟨z11, z12⟩
  refine if_skip ⟨[[.v (.int .i64 k), .sl true []], [.v (.int .i64 k), .sl false []], [.v (.int .i64 k), .sl false []]], noArrs ver⟩ (fun _ => True) ?_ ?_
  · repeat' first
    | with_reducible refine reg_a ?_
    | simp [z11, z12]
  rintro E _
  refine seq_step ⟨[[.v (.int .i64 k), .sl true []], [.v (.int .i64 k), .sl false []], [.v (.int .i64 k), .sl false []]], noArrs ver⟩ (fun E => E 4 = .v (.bool true)) ?_ ?_
  · repeat' first
    | with_reducible refine reg_a ?_
    | simp []
  rintro E z4
  simp [z4]

set_option maxHeartbeats 16000000 in
set_option maxRecDepth 10000 in
theorem l_faultsB (l : List Pk) (hl : BigP l) (hls : StrP l) (s : List Int) (hs : BigI s) (g0 : ¬ (1048576 : Int) < (s.length : Int)) (g1 : ¬ sz_pks l 1048576 < 0) (h : setF l s = 0) :
    Pure Tryz.prog 4 [pksAV true true l, intsAV true s] (.v (.bool true)) := by
  obtain ⟨hl1, hl2⟩ := hl.len
  have hs3 : s.length ≤ 4611686018427387904 := by unfold BigI at hs; omega
  have hmk := (sz_pks_le hl hls (by decide) (by decide) g1).1
  have hsz := (sz_pks_le hl hls (by decide) (by decide) g1).2
  have hq : ¬ 1 + (mkPs l : Int) + (s.length : Int) < 0 := by omega
  have hP := p_faultsOf false false false l hl1 hl2 s hs3
  have hQ := q_faultsOfB false false false l hl1 hl2 s hs3 h
  rw [show faultsF l s = faultsR l s [] s by simp [faultsF, h], h] at hP
  have hln : (faultsR l s [] s).length ≤ 9 * s.length := by
    obtain ⟨e1, e2, e3, e4⟩ := setF_facts h
    exact faults_len e1 s s [] fun k hk => e2 k hk
  obtain ⟨F, hF⟩ : ∃ F, F = faultsR l s [] s := ⟨_, rfl⟩
  rw [← hF] at hP hQ hln
  have htk : List.take F.length (List.map fltCells (mflts 1 F.length)) = List.map fltCells (mflts 1 F.length) := List.take_of_length_le (by simp)
  have hQ2 : Pure Tryz.prog 31 [pksAV false false l, intsAV false s] (.agg [.v (.int .i64 0), .sl false (F.map fltCells)]) := by
    have := OCall.pure hQ (by simp) (by simp)
    simpa using this
  have hq2 : ¬ 1 + 3 * (F.length : Int) < 0 := by omega
  clear h hF
  refine top_of_code (G := Gt) verst mixed0 Tryz.func4 rfl (by decide) (by simp [Tryz.f4]) (by simp) fun ver => ?_
  simp only [Tryz.f4, Gt]
  refine seq_step ⟨[], noArrs ver⟩ (fun E => E 0 = pksAV true true l ∧ E 1 = intsAV true s) ?_ ?_
  · repeat' first
    | with_reducible refine reg_a ?_
    | simp []
  rintro E ⟨z0, z1⟩
  refine if_skip ⟨[], noArrs ver⟩ (fun E => E 0 = pksAV true true l ∧ E 1 = intsAV true s) ?_ ?_
  · repeat' first
    | with_reducible refine reg_a ?_
    | simp [z0, z1, g0]
  rintro E ⟨z0, z1⟩
  refine seq_step ⟨[], noArrs ver⟩ (fun E => E 0 = pksAV true true l ∧ E 1 = intsAV true s ∧ E 5 = .v (.int .i64 1048576)) ?_ ?_
  · repeat' first
    | with_reducible refine reg_a ?_
    | simp [z0, z1]
  rintro E ⟨z0, z1, z5⟩
  refine seq_step ⟨[], noArrs ver⟩ (fun E => E 0 = pksAV true true l ∧ E 1 = intsAV true s ∧ E 5 = .v (.int .i64 (sz_pks l 1048576))) ?_ ?_
  · repeat' first
    | with_reducible refine reg_a ?_
    | with_reducible refine call_p (z_pks true l hl _) (by simp) ?_
    | simp [z0, z1, z5]
  rintro E ⟨z0, z1, z5⟩
  refine if_skip ⟨[], noArrs ver⟩ (fun E => E 0 = pksAV true true l ∧ E 1 = intsAV true s) ?_ ?_
  · repeat' first
    | with_reducible refine reg_a ?_
    | simp [z0, z1, z5, g1]
  rintro E ⟨z0, z1⟩
  refine seq_step ⟨[[.v (.int .i64 0), .sl false (F.map fltCells)]], noArrs ver⟩ (fun E => E 0 = pksAV true true l ∧ E 1 = intsAV true s ∧ E 6 = .box 0 0) ?_ ?_
  · repeat' first
    | with_reducible refine reg_a ?_
    | with_reducible refine call_p (t_pks true l hl) (by simp) ?_
    | with_reducible refine call_p (t_ints true s hs) (by simp) ?_
    | with_reducible refine call_p (hP) (by simp) ?_
    | simp [z0, z1]
  rintro E ⟨z0, z1, z6⟩
  refine seq_step ⟨[[.v (.int .i64 0), .sl true (F.map fltCells)]], noArrs ver⟩ (fun E => E 0 = pksAV true true l ∧ E 1 = intsAV true s ∧ E 6 = .box 0 0 ∧ E 7 = pksAV false false l) ?_ ?_
  · simp [z0, z1, z6]
    refine reg_ok 0 [(0, pksAV true true l), (1, intsAV true s), (6, .box 0 0)] [[.v (.int .i64 0), .sl false (F.map fltCells)]] [[.v (.int .i64 0), .sl true (F.map fltCells)]] (by simp) (by intro i; simp) (by simp) (by simp [OldsK_cons, OldsK_nil, z0, z1, z6]) (by simp [OldsB, OldsR]) ?_
    repeat' first
    | with_reducible refine call_p (t_pks true l hl) (by simp) ?_
    | simp [z0, z1, z6]
  rintro E ⟨z0, z1, z6, z7⟩
  refine seq_step ⟨[[.v (.int .i64 0), .sl true (F.map fltCells)]], noArrs ver⟩ (fun E => E 0 = pksAV true true l ∧ E 1 = intsAV true s ∧ E 6 = .box 0 0 ∧ E 7 = pksAV false false l ∧ E 8 = intsAV false s) ?_ ?_
  · repeat' first
    | with_reducible refine reg_a ?_
    | with_reducible refine call_p (t_ints true s hs) (by simp) ?_
    | simp [z0, z1, z6, z7]
  rintro E ⟨z0, z1, z6, z7, z8⟩
  refine seq_step ⟨[[.v (.int .i64 0), .sl true (F.map fltCells)], [.v (.int .i64 0), .arr 33 (ver 33 + 1) 0 F.length]], arrW 33 (ver 33 + 1) 159 (F.map fltCells) ver⟩ (fun E => E 0 = pksAV true true l ∧ E 1 = intsAV true s ∧ E 6 = .box 0 0 ∧ E 7 = pksAV false false l ∧ E 8 = intsAV false s ∧ E 9 = .box 1 0) ?_ ?_
  · repeat' first
    | with_reducible refine reg_a ?_
    | with_reducible refine call_n 33 hQ (by simp) ?_
    | simp [z0, z1, z6, z7, z8, noArrs_put]
  rintro E ⟨z0, z1, z6, z7, z8, z9⟩
  refine if_skip ⟨[[.v (.int .i64 0), .sl true (F.map fltCells)], [.v (.int .i64 0), .arr 33 (ver 33 + 1) 0 F.length]], arrW 33 (ver 33 + 1) 159 (F.map fltCells) ver⟩ (fun E => E 0 = pksAV true true l ∧ E 1 = intsAV true s ∧ E 6 = .box 0 0 ∧ E 7 = pksAV false false l ∧ E 8 = intsAV false s ∧ E 9 = .box 1 0) ?_ ?_
  · repeat' first
    | with_reducible refine reg_a ?_
    | with_reducible refine call_p (e_fltsRes true true F (by omega) 0) (by simp) ?_
    | with_reducible refine call_p (e_fltsRes false true F (by omega) 0) (by simp) ?_
    | simp [z0, z1, z6, z7, z8, z9]
  rintro E ⟨z0, z1, z6, z7, z8, z9⟩
  refine if_skip ⟨[[.v (.int .i64 0), .sl true (F.map fltCells)], [.v (.int .i64 0), .arr 33 (ver 33 + 1) 0 F.length]], arrW 33 (ver 33 + 1) 159 (F.map fltCells) ver⟩ (fun E => E 0 = pksAV true true l ∧ E 1 = intsAV true s ∧ E 6 = .box 0 0 ∧ E 7 = pksAV false false l ∧ E 8 = intsAV false s ∧ E 9 = .box 1 0) ?_ ?_
  · repeat' first
    | with_reducible refine reg_a ?_
    | with_reducible refine call_p (t_pks true l hl) (by simp) ?_
    | with_reducible refine call_p (e_pks false false l hl1 hl2) (by simp) ?_
    | simp [z0, z1, z6, z7, z8, z9]
  rintro E ⟨z0, z1, z6, z7, z8, z9⟩
  refine if_skip ⟨[[.v (.int .i64 0), .sl true (F.map fltCells)], [.v (.int .i64 0), .arr 33 (ver 33 + 1) 0 F.length]], arrW 33 (ver 33 + 1) 159 (F.map fltCells) ver⟩ (fun E => E 0 = pksAV true true l ∧ E 1 = intsAV true s ∧ E 6 = .box 0 0 ∧ E 7 = pksAV false false l ∧ E 8 = intsAV false s ∧ E 9 = .box 1 0) ?_ ?_
  · repeat' first
    | with_reducible refine reg_a ?_
    | with_reducible refine call_p (t_ints true s hs) (by simp) ?_
    | with_reducible refine call_p (e_ints false false s hs3) (by simp) ?_
    | simp [z0, z1, z6, z7, z8, z9]
  rintro E ⟨z0, z1, z6, z7, z8, z9⟩
  refine seq_step ⟨[[.v (.int .i64 0), .sl true (F.map fltCells)], [.v (.int .i64 0), .arr 33 (ver 33 + 1) 0 F.length]], arrW 33 (ver 33 + 1) 159 (F.map fltCells) ver⟩ (fun E => E 0 = pksAV true true l ∧ E 1 = intsAV true s ∧ E 6 = .box 0 0 ∧ E 7 = pksAV false false l ∧ E 8 = intsAV false s ∧ E 9 = .box 1 0 ∧ E 10 = .v (.int .i64 1)) ?_ ?_
  · repeat' first
    | with_reducible refine reg_a ?_
    | simp [z0, z1, z6, z7, z8, z9]
  rintro E ⟨z0, z1, z6, z7, z8, z9, z10⟩
  refine seq_step ⟨[[.v (.int .i64 0), .sl true (F.map fltCells)], [.v (.int .i64 0), .arr 33 (ver 33 + 1) 0 F.length]], arrW 33 (ver 33 + 1) 159 (F.map fltCells) ver⟩ (fun E => E 0 = pksAV true true l ∧ E 1 = intsAV true s ∧ E 6 = .box 0 0 ∧ E 8 = wintsAV s ∧ E 9 = .box 1 0 ∧ E 10 = .v (.int .i64 (1 + (mkPs l : Int)))) ?_ ?_
  · simp [z0, z1, z6, z7, z8, z9, z10]
    refine reg_k 2 ?_
    simp [z0, z1, z6, z7, z8, z9, z10]
    refine mark_b 0 [(0, pksAV true true l), (1, intsAV true s), (6, .box 0 0), (8, wintsAV s), (9, .box 1 0)] [[.v (.int .i64 0), .sl true (F.map fltCells)], [.v (.int .i64 0), .arr 33 (ver 33 + 1) 0 F.length]] [[.v (.int .i64 0), .sl true (F.map fltCells)], [.v (.int .i64 0), .arr 33 (ver 33 + 1) 0 F.length]] (by simp) (w_pks l hl2 hl1 (1) (by omega) (by omega)) (by simp [WArgL]) (by simp) (by simp [StayB, StayR]) (arrW_stay (stayr_map F stayc_flt)) (by simp) (by simp [WKeep_cons, WKeep_nil, z0, z1, z6, z7, z8, z9, z10]) ?_
    repeat' first
    | simp [z0, z1, z6, z7, z8, z9, z10]
  rintro E ⟨z0, z1, z6, z8, z9, z10⟩
  refine seq_step ⟨[[.v (.int .i64 0), .sl true (F.map fltCells)], [.v (.int .i64 0), .arr 33 (ver 33 + 1) 0 F.length]], arrW 33 (ver 33 + 1) 159 (F.map fltCells) ver⟩ (fun E => E 0 = pksAV true true l ∧ E 1 = intsAV true s ∧ E 6 = .box 0 0 ∧ E 9 = .box 1 0 ∧ E 10 = .v (.int .i64 (1 + (mkPs l : Int) + (s.length : Int)))) ?_ ?_
  · simp [z0, z1, z6, z8, z9, z10]
    refine reg_k 2 ?_
    simp [z0, z1, z6, z8, z9, z10]
    refine mark_b 0 [(0, pksAV true true l), (1, intsAV true s), (6, .box 0 0), (9, .box 1 0)] [[.v (.int .i64 0), .sl true (F.map fltCells)], [.v (.int .i64 0), .arr 33 (ver 33 + 1) 0 F.length]] [[.v (.int .i64 0), .sl true (F.map fltCells)], [.v (.int .i64 0), .arr 33 (ver 33 + 1) 0 F.length]] (by simp) (w_ints s (1 + (mkPs l : Int)) (by omega) (by omega)) (by simp [WArgL]) (by simp) (by simp [StayB, StayR]) (arrW_stay (stayr_map F stayc_flt)) (by simp) (by simp [WKeep_cons, WKeep_nil, z0, z1, z6, z8, z9, z10]) ?_
    repeat' first
    | simp [z0, z1, z6, z8, z9, z10]
  rintro E ⟨z0, z1, z6, z9, z10⟩
  refine if_skip ⟨[[.v (.int .i64 0), .sl true (F.map fltCells)], [.v (.int .i64 0), .arr 33 (ver 33 + 1) 0 F.length]], arrW 33 (ver 33 + 1) 159 (F.map fltCells) ver⟩ (fun E => E 0 = pksAV true true l ∧ E 1 = intsAV true s ∧ E 6 = .box 0 0 ∧ E 9 = .box 1 0) ?_ ?_
  · repeat' first
    | with_reducible refine reg_a ?_
    | with_reducible refine call_p (e_fltsRes true true F (by omega) 0) (by simp) ?_
    | with_reducible refine call_p (e_fltsRes false true F (by omega) 0) (by simp) ?_
    | simp [z0, z1, z6, z9, z10, hq]
  rintro E ⟨z0, z1, z6, z9⟩
  refine seq_step ⟨[[.v (.int .i64 0), .sl true (F.map fltCells)], [.v (.int .i64 0), .arr 33 (ver 33 + 1) 0 F.length]], arrW 33 (ver 33 + 1) 159 (F.map fltCells) ver⟩ (fun E => E 0 = pksAV true true l ∧ E 1 = intsAV true s ∧ E 6 = .box 0 0 ∧ E 9 = .box 1 0 ∧ E 11 = .v (.int .i64 1)) ?_ ?_
  · repeat' first
    | with_reducible refine reg_a ?_
    | simp [z0, z1, z6, z9]
  rintro E ⟨z0, z1, z6, z9, z11⟩
  refine seq_step ⟨[[.v (.int .i64 0), .sl true (F.map fltCells)], [.v (.int .i64 0), .arr 33 (ver 33 + 1) 0 F.length]], arrW 33 (ver 33 + 1) 159 ((mflts 1 F.length).map fltCells) ver⟩ (fun E => E 0 = pksAV true true l ∧ E 1 = intsAV true s ∧ E 6 = .box 0 0 ∧ E 9 = .box 1 0 ∧ E 11 = .v (.int .i64 (1 + 3 * (F.length : Int)))) ?_ ?_
  · repeat' first
    | with_reducible refine reg_a ?_
    | with_reducible refine call_s 33 (ver 33 + 1) 159 (F.map fltCells) (by simp) (o_markFltsRes F 1 0 (by omega) (by omega)) (by simp) (by simp) (fr_flt _) ?_
    | simp [z0, z1, z6, z9, z11, arrW_put]
  rintro E ⟨z0, z1, z6, z9, z11⟩
  refine seq_step ⟨[[.v (.int .i64 0), .sl true (F.map fltCells)], [.v (.int .i64 0), .arr 33 (ver 33 + 1) 0 F.length]], arrW 33 (ver 33 + 1) 159 ((mflts 1 F.length).map fltCells) ver⟩ (fun E => E 0 = pksAV true true l ∧ E 1 = intsAV true s ∧ E 6 = .box 0 0 ∧ E 9 = .box 1 0 ∧ E 11 = .v (.int .i64 (1 + 3 * (F.length : Int))) ∧ E 12 = .v (.int .i64 1)) ?_ ?_
  · repeat' first
    | with_reducible refine reg_a ?_
    | simp [z0, z1, z6, z9, z11]
  rintro E ⟨z0, z1, z6, z9, z11, z12⟩
  refine seq_step ⟨[[.v (.int .i64 0), .sl true (F.map fltCells)], [.v (.int .i64 0), .arr 33 (ver 33 + 1) 0 F.length]], arrW 33 (ver 33 + 1) 159 ((mflts 1 F.length).map fltCells) ver⟩ (fun E => E 0 = pksAV true true l ∧ E 1 = intsAV true s ∧ E 6 = .box 0 0 ∧ E 9 = .box 1 0 ∧ E 11 = .v (.int .i64 (1 + 3 * (F.length : Int))) ∧ E 12 = .v (.int .i64 (1 + 3 * (F.length : Int)))) ?_ ?_
  · repeat' first
    | with_reducible refine reg_a ?_
    | with_reducible refine call_p (p_heldFltsRes true F.length 1 0 (by omega) (by omega)) (by simp) ?_
    | simp [z0, z1, z6, z9, z11, z12, htk]
  rintro E ⟨z0, z1, z6, z9, z11, z12⟩
  refine if_skip ⟨[[.v (.int .i64 0), .sl true (F.map fltCells)], [.v (.int .i64 0), .arr 33 (ver 33 + 1) 0 F.length]], arrW 33 (ver 33 + 1) 159 ((mflts 1 F.length).map fltCells) ver⟩ (fun E => E 0 = pksAV true true l ∧ E 1 = intsAV true s ∧ E 6 = .box 0 0 ∧ E 9 = .box 1 0 ∧ E 11 = .v (.int .i64 (1 + 3 * (F.length : Int))) ∧ E 12 = .v (.int .i64 (1 + 3 * (F.length : Int)))) ?_ ?_
  · repeat' first
    | with_reducible refine reg_a ?_
    | simp [z0, z1, z6, z9, z11, z12, hq2]
  rintro E ⟨z0, z1, z6, z9, z11, z12⟩
  refine if_skip ⟨[[.v (.int .i64 0), .sl true (F.map fltCells)], [.v (.int .i64 0), .arr 33 (ver 33 + 1) 0 F.length]], arrW 33 (ver 33 + 1) 159 ((mflts 1 F.length).map fltCells) ver⟩ (fun E => E 0 = pksAV true true l ∧ E 1 = intsAV true s ∧ E 6 = .box 0 0 ∧ E 9 = .box 1 0 ∧ E 11 = .v (.int .i64 (1 + 3 * (F.length : Int)))) ?_ ?_
  · repeat' first
    | with_reducible refine reg_a ?_
    | simp [z0, z1, z6, z9, z11, z12]
  rintro E ⟨z0, z1, z6, z9, z11⟩
  refine seq_step ⟨[[.v (.int .i64 0), .sl true (F.map fltCells)], [.v (.int .i64 0), .arr 33 (ver 33 + 1) 0 F.length], [.v (.int .i64 0), .sl false (F.map fltCells)]], arrW 33 (ver 33 + 1) 159 ((mflts 1 F.length).map fltCells) ver⟩ (fun E => E 6 = .box 0 0 ∧ E 9 = .box 1 0 ∧ E 11 = .v (.int .i64 (1 + 3 * (F.length : Int))) ∧ E 13 = .box 2 0) ?_ ?_
  · repeat' first
    | with_reducible refine reg_a ?_
    | with_reducible refine call_p (t_pks true l hl) (by simp) ?_
    | with_reducible refine call_p (t_ints true s hs) (by simp) ?_
    | with_reducible refine call_p (hQ2) (by simp) ?_
    | simp [z0, z1, z6, z9, z11]
  rintro E ⟨z6, z9, z11, z13⟩
  refine if_skip ⟨[[.v (.int .i64 0), .sl true (F.map fltCells)], [.v (.int .i64 0), .arr 33 (ver 33 + 1) 0 F.length], [.v (.int .i64 0), .sl false (F.map fltCells)]], arrW 33 (ver 33 + 1) 159 ((mflts 1 F.length).map fltCells) ver⟩ (fun E => E 9 = .box 1 0 ∧ E 11 = .v (.int .i64 (1 + 3 * (F.length : Int)))) ?_ ?_
  · repeat' first
    | with_reducible refine reg_a ?_
    | with_reducible refine call_p (e_fltsRes true true F (by omega) 0) (by simp) ?_
    | with_reducible refine call_p (e_fltsRes false true F (by omega) 0) (by simp) ?_
    | simp [z6, z9, z11, z13]
  rintro E ⟨z9, z11⟩
  refine seq_step ⟨[[.v (.int .i64 0), .sl true (F.map fltCells)], [.v (.int .i64 0), .arr 33 (ver 33 + 1) 0 F.length], [.v (.int .i64 0), .sl false (F.map fltCells)]], arrW 33 (ver 33 + 1) 159 ((mflts 1 F.length).map fltCells) ver⟩ (fun E => E 9 = .box 1 0 ∧ E 11 = .v (.int .i64 (1 + 3 * (F.length : Int))) ∧ E 12 = .v (.int .i64 1)) ?_ ?_
  · repeat' first
    | with_reducible refine reg_a ?_
    | simp [z9, z11]
  rintro E ⟨z9, z11, z12⟩
  refine seq_step ⟨[[.v (.int .i64 0), .sl true (F.map fltCells)], [.v (.int .i64 0), .arr 33 (ver 33 + 1) 0 F.length], [.v (.int .i64 0), .sl false (F.map fltCells)]], arrW 33 (ver 33 + 1) 159 ((mflts 1 F.length).map fltCells) ver⟩ (fun E => E 11 = .v (.int .i64 (1 + 3 * (F.length : Int))) ∧ E 12 = .v (.int .i64 (1 + 3 * (F.length : Int)))) ?_ ?_
  · repeat' first
    | with_reducible refine reg_a ?_
    | with_reducible refine call_p (p_heldFltsRes true F.length 1 0 (by omega) (by omega)) (by simp) ?_
    | simp [z9, z11, z12, htk]
  rintro E ⟨z11, z12⟩
  refine if_skip ⟨[[.v (.int .i64 0), .sl true (F.map fltCells)], [.v (.int .i64 0), .arr 33 (ver 33 + 1) 0 F.length], [.v (.int .i64 0), .sl false (F.map fltCells)]], arrW 33 (ver 33 + 1) 159 ((mflts 1 F.length).map fltCells) ver⟩ (fun E => E 11 = .v (.int .i64 (1 + 3 * (F.length : Int))) ∧ E 12 = .v (.int .i64 (1 + 3 * (F.length : Int)))) ?_ ?_
  · repeat' first
    | with_reducible refine reg_a ?_
    | simp [z11, z12, hq2]
  rintro E ⟨z11, z12⟩
  refine if_skip ⟨[[.v (.int .i64 0), .sl true (F.map fltCells)], [.v (.int .i64 0), .arr 33 (ver 33 + 1) 0 F.length], [.v (.int .i64 0), .sl false (F.map fltCells)]], arrW 33 (ver 33 + 1) 159 ((mflts 1 F.length).map fltCells) ver⟩ (fun _ => True) ?_ ?_
  · repeat' first
    | with_reducible refine reg_a ?_
    | simp [z11, z12]
  rintro E _
  refine seq_step ⟨[[.v (.int .i64 0), .sl true (F.map fltCells)], [.v (.int .i64 0), .arr 33 (ver 33 + 1) 0 F.length], [.v (.int .i64 0), .sl false (F.map fltCells)]], arrW 33 (ver 33 + 1) 159 ((mflts 1 F.length).map fltCells) ver⟩ (fun E => E 4 = .v (.bool true)) ?_ ?_
  · repeat' first
    | with_reducible refine reg_a ?_
    | simp []
  rintro E z4
  simp [z4]

theorem l_faults (l : List Pk) (hl : BigP l) (hls : StrP l) (s : List Int) (hs : BigI s) :
    Pure Tryz.prog 4 [pksAV true true l, intsAV true s] (.v (.bool true)) := by
  by_cases g0 : (1048576 : Int) < (s.length : Int)
  · exact l_faults0 l hl hls s hs g0
  by_cases g1 : sz_pks l 1048576 < 0
  · exact l_faults1 l hl hls s hs g0 g1
  by_cases h : setF l s = 0
  · exact l_faultsB l hl hls s hs g0 g1 h
  · exact l_faultsA l hl hls s hs g0 g1 h

end Go.Proofs.YtokhnmchnfkiiaaGreat.Am
