/- The law about the search for a set: what is to be shown of the row's function. No conditions. -/
import Derived.Test.YtokhnmchnfkiiaaGreatAmCg20
import Derived.Test.YtokhnmchnfkiiaaGreatAmCg8
namespace Go.Proofs.YtokhnmchnfkiiaaGreat.Am
open Go Go.RowKit Go.Proofs
set_option linter.unusedSimpArgs false
set_option linter.unusedVariables false

set_option maxHeartbeats 16000000 in
set_option maxRecDepth 10000 in
theorem l_slv0 (l : List Pk) (hl : BigP l) (hls : StrP l) (t : List Trm) (ht : BigT t) (hts : StrT t) (a : List Int) (ha : BigI a) (n : Int) (hn : IntKind.i64.wrap n = n) (g0 : (1048576 : Int) < (a.length : Int)) :
    Pure Tryz.prog 3 [pksAV true true l, trmsAV true t, intsAV true a, .v (.int .i64 (n))] (.v (.bool true)) := by
  obtain ⟨hl1, hl2⟩ := hl.len
  have ht4 : t.length ≤ 4611686018427387904 := by unfold BigT at ht; omega
  have ha3 : a.length ≤ 4611686018427387904 := by unfold BigI at ha; omega
  refine top_of_code (G := Gt) verst mixed0 Tryz.func3 rfl (by decide) (by simp [Tryz.f3]) (by simp) fun ver => ?_
  simp only [Tryz.f3, Gt]
  refine seq_step ⟨[], noArrs ver⟩ (fun E => E 0 = pksAV true true l ∧ E 1 = trmsAV true t ∧ E 2 = intsAV true a ∧ E 3 = .v (.int .i64 (n))) ?_ ?_
  · repeat' first
    | with_reducible refine reg_a ?_
    | simp []
  rintro E ⟨z0, z1, z2, z3⟩
  refine if_take ⟨[], noArrs ver⟩ (fun E => E 0 = pksAV true true l ∧ E 1 = trmsAV true t ∧ E 2 = intsAV true a ∧ E 3 = .v (.int .i64 (n))) ?_ ?_
  · repeat' first
    | with_reducible refine reg_a ?_
    | simp [z0, z1, z2, z3, g0]
  rintro E ⟨z0, z1, z2, z3⟩
  repeat' first
    | with_reducible refine reg_a ?_
    | simp [z0, z1, z2, z3]

set_option maxHeartbeats 16000000 in
set_option maxRecDepth 10000 in
theorem l_slv1 (l : List Pk) (hl : BigP l) (hls : StrP l) (t : List Trm) (ht : BigT t) (hts : StrT t) (a : List Int) (ha : BigI a) (n : Int) (hn : IntKind.i64.wrap n = n) (g0 : ¬ (1048576 : Int) < (a.length : Int)) (g1 : sz_pks l 1048576 < 0) :
    Pure Tryz.prog 3 [pksAV true true l, trmsAV true t, intsAV true a, .v (.int .i64 (n))] (.v (.bool true)) := by
  obtain ⟨hl1, hl2⟩ := hl.len
  have ht4 : t.length ≤ 4611686018427387904 := by unfold BigT at ht; omega
  have ha3 : a.length ≤ 4611686018427387904 := by unfold BigI at ha; omega
  refine top_of_code (G := Gt) verst mixed0 Tryz.func3 rfl (by decide) (by simp [Tryz.f3]) (by simp) fun ver => ?_
  simp only [Tryz.f3, Gt]
  refine seq_step ⟨[], noArrs ver⟩ (fun E => E 0 = pksAV true true l ∧ E 1 = trmsAV true t ∧ E 2 = intsAV true a ∧ E 3 = .v (.int .i64 (n))) ?_ ?_
  · repeat' first
    | with_reducible refine reg_a ?_
    | simp []
  rintro E ⟨z0, z1, z2, z3⟩
  refine if_skip ⟨[], noArrs ver⟩ (fun E => E 0 = pksAV true true l ∧ E 1 = trmsAV true t ∧ E 2 = intsAV true a ∧ E 3 = .v (.int .i64 (n))) ?_ ?_
  · repeat' first
    | with_reducible refine reg_a ?_
    | simp [z0, z1, z2, z3, g0]
  rintro E ⟨z0, z1, z2, z3⟩
  refine seq_step ⟨[], noArrs ver⟩ (fun E => E 0 = pksAV true true l ∧ E 1 = trmsAV true t ∧ E 2 = intsAV true a ∧ E 3 = .v (.int .i64 (n)) ∧ E 9 = .v (.int .i64 1048576)) ?_ ?_
  · repeat' first
    | with_reducible refine reg_a ?_
    | simp [z0, z1, z2, z3]
  rintro E ⟨z0, z1, z2, z3, z9⟩
  refine seq_step ⟨[], noArrs ver⟩ (fun E => E 0 = pksAV true true l ∧ E 1 = trmsAV true t ∧ E 2 = intsAV true a ∧ E 3 = .v (.int .i64 (n)) ∧ E 9 = .v (.int .i64 (sz_pks l 1048576))) ?_ ?_
  · repeat' first
    | with_reducible refine reg_a ?_
    | with_reducible refine call_p (z_pks true l hl _) (by simp) ?_
    | simp [z0, z1, z2, z3, z9]
  rintro E ⟨z0, z1, z2, z3, z9⟩
  refine if_take ⟨[], noArrs ver⟩ (fun E => E 0 = pksAV true true l ∧ E 1 = trmsAV true t ∧ E 2 = intsAV true a ∧ E 3 = .v (.int .i64 (n)) ∧ E 9 = .v (.int .i64 (sz_pks l 1048576))) ?_ ?_
  · repeat' first
    | with_reducible refine reg_a ?_
    | simp [z0, z1, z2, z3, z9, g1]
  rintro E ⟨z0, z1, z2, z3, z9⟩
  repeat' first
    | with_reducible refine reg_a ?_
    | simp [z0, z1, z2, z3, z9]

set_option maxHeartbeats 16000000 in
set_option maxRecDepth 10000 in
theorem l_slv2 (l : List Pk) (hl : BigP l) (hls : StrP l) (t : List Trm) (ht : BigT t) (hts : StrT t) (a : List Int) (ha : BigI a) (n : Int) (hn : IntKind.i64.wrap n = n) (g0 : ¬ (1048576 : Int) < (a.length : Int)) (g1 : ¬ sz_pks l 1048576 < 0) (g2 : sz_trms t (sz_pks l 1048576) < 0) :
    Pure Tryz.prog 3 [pksAV true true l, trmsAV true t, intsAV true a, .v (.int .i64 (n))] (.v (.bool true)) := by
  obtain ⟨hl1, hl2⟩ := hl.len
  have ht4 : t.length ≤ 4611686018427387904 := by unfold BigT at ht; omega
  have ha3 : a.length ≤ 4611686018427387904 := by unfold BigI at ha; omega
  refine top_of_code (G := Gt) verst mixed0 Tryz.func3 rfl (by decide) (by simp [Tryz.f3]) (by simp) fun ver => ?_
  simp only [Tryz.f3, Gt]
  refine seq_step ⟨[], noArrs ver⟩ (fun E => E 0 = pksAV true true l ∧ E 1 = trmsAV true t ∧ E 2 = intsAV true a ∧ E 3 = .v (.int .i64 (n))) ?_ ?_
  · repeat' first
    | with_reducible refine reg_a ?_
    | simp []
  rintro E ⟨z0, z1, z2, z3⟩
  refine if_skip ⟨[], noArrs ver⟩ (fun E => E 0 = pksAV true true l ∧ E 1 = trmsAV true t ∧ E 2 = intsAV true a ∧ E 3 = .v (.int .i64 (n))) ?_ ?_
  · repeat' first
    | with_reducible refine reg_a ?_
    | simp [z0, z1, z2, z3, g0]
  rintro E ⟨z0, z1, z2, z3⟩
  refine seq_step ⟨[], noArrs ver⟩ (fun E => E 0 = pksAV true true l ∧ E 1 = trmsAV true t ∧ E 2 = intsAV true a ∧ E 3 = .v (.int .i64 (n)) ∧ E 9 = .v (.int .i64 1048576)) ?_ ?_
  · repeat' first
    | with_reducible refine reg_a ?_
    | simp [z0, z1, z2, z3]
  rintro E ⟨z0, z1, z2, z3, z9⟩
  refine seq_step ⟨[], noArrs ver⟩ (fun E => E 0 = pksAV true true l ∧ E 1 = trmsAV true t ∧ E 2 = intsAV true a ∧ E 3 = .v (.int .i64 (n)) ∧ E 9 = .v (.int .i64 (sz_pks l 1048576))) ?_ ?_
  · repeat' first
    | with_reducible refine reg_a ?_
    | with_reducible refine call_p (z_pks true l hl _) (by simp) ?_
    | simp [z0, z1, z2, z3, z9]
  rintro E ⟨z0, z1, z2, z3, z9⟩
  refine if_skip ⟨[], noArrs ver⟩ (fun E => E 0 = pksAV true true l ∧ E 1 = trmsAV true t ∧ E 2 = intsAV true a ∧ E 3 = .v (.int .i64 (n)) ∧ E 9 = .v (.int .i64 (sz_pks l 1048576))) ?_ ?_
  · repeat' first
    | with_reducible refine reg_a ?_
    | simp [z0, z1, z2, z3, z9, g1]
  rintro E ⟨z0, z1, z2, z3, z9⟩
  refine seq_step ⟨[], noArrs ver⟩ (fun E => E 0 = pksAV true true l ∧ E 1 = trmsAV true t ∧ E 2 = intsAV true a ∧ E 3 = .v (.int .i64 (n)) ∧ E 9 = .v (.int .i64 (sz_trms t (sz_pks l 1048576)))) ?_ ?_
  · repeat' first
    | with_reducible refine reg_a ?_
    | with_reducible refine call_p (z_trms true t ht _) (by simp) ?_
    | simp [z0, z1, z2, z3, z9]
  rintro E ⟨z0, z1, z2, z3, z9⟩
  refine if_take ⟨[], noArrs ver⟩ (fun E => E 0 = pksAV true true l ∧ E 1 = trmsAV true t ∧ E 2 = intsAV true a ∧ E 3 = .v (.int .i64 (n))) ?_ ?_
  · repeat' first
    | with_reducible refine reg_a ?_
    | simp [z0, z1, z2, z3, z9, g2]
  rintro E ⟨z0, z1, z2, z3⟩
  repeat' first
    | with_reducible refine reg_a ?_
    | simp [z0, z1, z2, z3]

set_option maxHeartbeats 16000000 in
set_option maxRecDepth 10000 in
theorem l_slvA (l : List Pk) (hl : BigP l) (hls : StrP l) (t : List Trm) (ht : BigT t) (hts : StrT t) (a : List Int) (ha : BigI a) (n : Int) (hn : IntKind.i64.wrap n = n) (g0 : ¬ (1048576 : Int) < (a.length : Int)) (g1 : ¬ sz_pks l 1048576 < 0) (g2 : ¬ sz_trms t (sz_pks l 1048576) < 0) (h : (solO l t a n).1 ≠ 0) :
    Pure Tryz.prog 3 [pksAV true true l, trmsAV true t, intsAV true a, .v (.int .i64 (n))] (.v (.bool true)) := by
  obtain ⟨hl1, hl2⟩ := hl.len
  have ht4 : t.length ≤ 4611686018427387904 := by unfold BigT at ht; omega
  have ha3 : a.length ≤ 4611686018427387904 := by unfold BigI at ha; omega
  have hmk := (sz_pks_le hl hls (by decide) (by decide) g1).1
  have hsz := (sz_pks_le hl hls (by decide) (by decide) g1).2
  have hst := (sz_trms_le ht hts hsz (by omega) g2).1
  have hst2 := (sz_trms_le ht hts hsz (by omega) g2).2
  have hmt : mkT t = 7 * t.length := rfl
  have hq : ¬ 1 + (mkPs l : Int) + (mkT t : Int) + (a.length : Int) < 0 := by omega
  have hP := p_solve l hl1 hl2 t ht4 a ha3 n
  have hQ := q_solveA l hl1 hl2 t (by omega) a ha3 n h
  rw [solO_nil h] at hP
  obtain ⟨k, hk⟩ : ∃ k, k = (solO l t a n).1 := ⟨_, rfl⟩
  obtain ⟨m, hm⟩ : ∃ m, m = (solO l t a n).2.1 := ⟨_, rfl⟩
  rw [← hk, ← hm] at hP hQ
  clear hk hm h
  simp only [intsAV, List.map_nil] at hP
  have hE : ∀ c d : Bool, Pure Tryz.prog 21 [.agg [.v (.int .i64 k), .v (.int .i64 m), .sl c []], .agg [.v (.int .i64 k), .v (.int .i64 m), .sl d []]] (.v (.bool true)) := fun c d => by simpa using e_sol c d [] (by simp) k m
  have hq1 : ¬ (1 : Int) < 0 := by omega
  refine top_of_code (G := Gt) verst mixed0 Tryz.func3 rfl (by decide) (by simp [Tryz.f3]) (by simp) fun ver => ?_
  simp only [Tryz.f3, Gt]
  refine seq_step ⟨[], noArrs ver⟩ (fun E => E 0 = pksAV true true l ∧ E 1 = trmsAV true t ∧ E 2 = intsAV true a ∧ E 3 = .v (.int .i64 (n))) ?_ ?_
  · repeat' first
    | with_reducible refine reg_a ?_
    | simp []
  rintro E ⟨z0, z1, z2, z3⟩
  refine if_skip ⟨[], noArrs ver⟩ (fun E => E 0 = pksAV true true l ∧ E 1 = trmsAV true t ∧ E 2 = intsAV true a ∧ E 3 = .v (.int .i64 (n))) ?_ ?_
  · repeat' first
    | with_reducible refine reg_a ?_
    | simp [z0, z1, z2, z3, g0]
  rintro E ⟨z0, z1, z2, z3⟩
  refine seq_step ⟨[], noArrs ver⟩ (fun E => E 0 = pksAV true true l ∧ E 1 = trmsAV true t ∧ E 2 = intsAV true a ∧ E 3 = .v (.int .i64 (n)) ∧ E 9 = .v (.int .i64 1048576)) ?_ ?_
  · repeat' first
    | with_reducible refine reg_a ?_
    | simp [z0, z1, z2, z3]
  rintro E ⟨z0, z1, z2, z3, z9⟩
  refine seq_step ⟨[], noArrs ver⟩ (fun E => E 0 = pksAV true true l ∧ E 1 = trmsAV true t ∧ E 2 = intsAV true a ∧ E 3 = .v (.int .i64 (n)) ∧ E 9 = .v (.int .i64 (sz_pks l 1048576))) ?_ ?_
  · repeat' first
    | with_reducible refine reg_a ?_
    | with_reducible refine call_p (z_pks true l hl _) (by simp) ?_
    | simp [z0, z1, z2, z3, z9]
  rintro E ⟨z0, z1, z2, z3, z9⟩
  refine if_skip ⟨[], noArrs ver⟩ (fun E => E 0 = pksAV true true l ∧ E 1 = trmsAV true t ∧ E 2 = intsAV true a ∧ E 3 = .v (.int .i64 (n)) ∧ E 9 = .v (.int .i64 (sz_pks l 1048576))) ?_ ?_
  · repeat' first
    | with_reducible refine reg_a ?_
    | simp [z0, z1, z2, z3, z9, g1]
  rintro E ⟨z0, z1, z2, z3, z9⟩
  refine seq_step ⟨[], noArrs ver⟩ (fun E => E 0 = pksAV true true l ∧ E 1 = trmsAV true t ∧ E 2 = intsAV true a ∧ E 3 = .v (.int .i64 (n)) ∧ E 9 = .v (.int .i64 (sz_trms t (sz_pks l 1048576)))) ?_ ?_
  · repeat' first
    | with_reducible refine reg_a ?_
    | with_reducible refine call_p (z_trms true t ht _) (by simp) ?_
    | simp [z0, z1, z2, z3, z9]
  rintro E ⟨z0, z1, z2, z3, z9⟩
  refine if_skip ⟨[], noArrs ver⟩ (fun E => E 0 = pksAV true true l ∧ E 1 = trmsAV true t ∧ E 2 = intsAV true a ∧ E 3 = .v (.int .i64 (n))) ?_ ?_
  · repeat' first
    | with_reducible refine reg_a ?_
    | simp [z0, z1, z2, z3, z9, g2]
  rintro E ⟨z0, z1, z2, z3⟩
  refine seq_step ⟨[[.v (.int .i64 k), .v (.int .i64 m), .sl false []]], noArrs ver⟩ (fun E => E 0 = pksAV true true l ∧ E 1 = trmsAV true t ∧ E 2 = intsAV true a ∧ E 3 = .v (.int .i64 (n)) ∧ E 10 = .box 0 0) ?_ ?_
  · repeat' first
    | with_reducible refine reg_a ?_
    | with_reducible refine call_p (t_pks true l hl) (by simp) ?_
    | with_reducible refine call_p (t_trms true t ht) (by simp) ?_
    | with_reducible refine call_p (t_ints true a ha) (by simp) ?_
    | with_reducible refine call_p (hP) (by simp) ?_
    | simp [z0, z1, z2, z3]
  rintro E ⟨z0, z1, z2, z3, z10⟩
  refine seq_step ⟨[[.v (.int .i64 k), .v (.int .i64 m), .sl true []]], noArrs ver⟩ (fun E => E 0 = pksAV true true l ∧ E 1 = trmsAV true t ∧ E 2 = intsAV true a ∧ E 3 = .v (.int .i64 (n)) ∧ E 10 = .box 0 0 ∧ E 11 = pksAV false false l) ?_ ?_
  · simp [z0, z1, z2, z3, z10]
    refine reg_ok 0 [(0, pksAV true true l), (1, trmsAV true t), (2, intsAV true a), (3, .v (.int .i64 (n))), (10, .box 0 0)] [[.v (.int .i64 k), .v (.int .i64 m), .sl false []]] [[.v (.int .i64 k), .v (.int .i64 m), .sl true []]] (by simp) (by intro i; simp) (by simp) (by simp [OldsK_cons, OldsK_nil, z0, z1, z2, z3, z10]) (by simp [OldsB, OldsR]) ?_
    repeat' first
    | with_reducible refine call_p (t_pks true l hl) (by simp) ?_
    | simp [z0, z1, z2, z3, z10]
  rintro E ⟨z0, z1, z2, z3, z10, z11⟩
  refine seq_step ⟨[[.v (.int .i64 k), .v (.int .i64 m), .sl true []]], noArrs ver⟩ (fun E => E 0 = pksAV true true l ∧ E 1 = trmsAV true t ∧ E 2 = intsAV true a ∧ E 3 = .v (.int .i64 (n)) ∧ E 10 = .box 0 0 ∧ E 11 = pksAV false false l ∧ E 12 = trmsAV false t) ?_ ?_
  · repeat' first
    | with_reducible refine reg_a ?_
    | with_reducible refine call_p (t_trms true t ht) (by simp) ?_
    | simp [z0, z1, z2, z3, z10, z11]
  rintro E ⟨z0, z1, z2, z3, z10, z11, z12⟩
  refine seq_step ⟨[[.v (.int .i64 k), .v (.int .i64 m), .sl true []]], noArrs ver⟩ (fun E => E 0 = pksAV true true l ∧ E 1 = trmsAV true t ∧ E 2 = intsAV true a ∧ E 3 = .v (.int .i64 (n)) ∧ E 10 = .box 0 0 ∧ E 11 = pksAV false false l ∧ E 12 = trmsAV false t ∧ E 13 = intsAV false a) ?_ ?_
  · repeat' first
    | with_reducible refine reg_a ?_
    | with_reducible refine call_p (t_ints true a ha) (by simp) ?_
    | simp [z0, z1, z2, z3, z10, z11, z12]
  rintro E ⟨z0, z1, z2, z3, z10, z11, z12, z13⟩
  refine seq_step ⟨[[.v (.int .i64 k), .v (.int .i64 m), .sl true []], [.v (.int .i64 k), .v (.int .i64 m), .sl false []]], noArrs ver⟩ (fun E => E 0 = pksAV true true l ∧ E 1 = trmsAV true t ∧ E 2 = intsAV true a ∧ E 3 = .v (.int .i64 (n)) ∧ E 10 = .box 0 0 ∧ E 11 = pksAV false false l ∧ E 12 = trmsAV false t ∧ E 13 = intsAV false a ∧ E 14 = .box 1 0) ?_ ?_
  · repeat' first
    | with_reducible refine reg_a ?_
    | with_reducible refine call_p (hQ) (by simp) ?_
    | simp [z0, z1, z2, z3, z10, z11, z12, z13]
  rintro E ⟨z0, z1, z2, z3, z10, z11, z12, z13, z14⟩
  refine if_skip ⟨[[.v (.int .i64 k), .v (.int .i64 m), .sl true []], [.v (.int .i64 k), .v (.int .i64 m), .sl false []]], noArrs ver⟩ (fun E => E 0 = pksAV true true l ∧ E 1 = trmsAV true t ∧ E 2 = intsAV true a ∧ E 3 = .v (.int .i64 (n)) ∧ E 10 = .box 0 0 ∧ E 11 = pksAV false false l ∧ E 12 = trmsAV false t ∧ E 13 = intsAV false a ∧ E 14 = .box 1 0) ?_ ?_
  · repeat' first
    | with_reducible refine reg_a ?_
    | with_reducible refine call_p (hE _ _) (by simp) ?_
    | simp [z0, z1, z2, z3, z10, z11, z12, z13, z14]
  rintro E ⟨z0, z1, z2, z3, z10, z11, z12, z13, z14⟩
  refine if_skip ⟨[[.v (.int .i64 k), .v (.int .i64 m), .sl true []], [.v (.int .i64 k), .v (.int .i64 m), .sl false []]], noArrs ver⟩ (fun E => E 0 = pksAV true true l ∧ E 1 = trmsAV true t ∧ E 2 = intsAV true a ∧ E 3 = .v (.int .i64 (n)) ∧ E 10 = .box 0 0 ∧ E 11 = pksAV false false l ∧ E 12 = trmsAV false t ∧ E 13 = intsAV false a ∧ E 14 = .box 1 0) ?_ ?_
  · repeat' first
    | with_reducible refine reg_a ?_
    | with_reducible refine call_p (t_pks true l hl) (by simp) ?_
    | with_reducible refine call_p (e_pks false false l hl1 hl2) (by simp) ?_
    | simp [z0, z1, z2, z3, z10, z11, z12, z13, z14]
  rintro E ⟨z0, z1, z2, z3, z10, z11, z12, z13, z14⟩
  refine if_skip ⟨[[.v (.int .i64 k), .v (.int .i64 m), .sl true []], [.v (.int .i64 k), .v (.int .i64 m), .sl false []]], noArrs ver⟩ (fun E => E 0 = pksAV true true l ∧ E 1 = trmsAV true t ∧ E 2 = intsAV true a ∧ E 3 = .v (.int .i64 (n)) ∧ E 10 = .box 0 0 ∧ E 11 = pksAV false false l ∧ E 12 = trmsAV false t ∧ E 13 = intsAV false a ∧ E 14 = .box 1 0) ?_ ?_
  · repeat' first
    | with_reducible refine reg_a ?_
    | with_reducible refine call_p (t_trms true t ht) (by simp) ?_
    | with_reducible refine call_p (e_trms false false t ht4) (by simp) ?_
    | simp [z0, z1, z2, z3, z10, z11, z12, z13, z14]
  rintro E ⟨z0, z1, z2, z3, z10, z11, z12, z13, z14⟩
  refine if_skip ⟨[[.v (.int .i64 k), .v (.int .i64 m), .sl true []], [.v (.int .i64 k), .v (.int .i64 m), .sl false []]], noArrs ver⟩ (fun E => E 0 = pksAV true true l ∧ E 1 = trmsAV true t ∧ E 2 = intsAV true a ∧ E 3 = .v (.int .i64 (n)) ∧ E 10 = .box 0 0 ∧ E 11 = pksAV false false l ∧ E 12 = trmsAV false t ∧ E 13 = intsAV false a ∧ E 14 = .box 1 0) ?_ ?_
  · repeat' first
    | with_reducible refine reg_a ?_
    | with_reducible refine call_p (t_ints true a ha) (by simp) ?_
    | with_reducible refine call_p (e_ints false false a ha3) (by simp) ?_
    | simp [z0, z1, z2, z3, z10, z11, z12, z13, z14]
  rintro E ⟨z0, z1, z2, z3, z10, z11, z12, z13, z14⟩
  refine seq_step ⟨[[.v (.int .i64 k), .v (.int .i64 m), .sl true []], [.v (.int .i64 k), .v (.int .i64 m), .sl false []]], noArrs ver⟩ (fun E => E 0 = pksAV true true l ∧ E 1 = trmsAV true t ∧ E 2 = intsAV true a ∧ E 3 = .v (.int .i64 (n)) ∧ E 10 = .box 0 0 ∧ E 11 = pksAV false false l ∧ E 12 = trmsAV false t ∧ E 13 = intsAV false a ∧ E 14 = .box 1 0 ∧ E 15 = .v (.int .i64 1)) ?_ ?_
  · repeat' first
    | with_reducible refine reg_a ?_
    | simp [z0, z1, z2, z3, z10, z11, z12, z13, z14]
  rintro E ⟨z0, z1, z2, z3, z10, z11, z12, z13, z14, z15⟩
  refine seq_step ⟨[[.v (.int .i64 k), .v (.int .i64 m), .sl true []], [.v (.int .i64 k), .v (.int .i64 m), .sl false []]], noArrs ver⟩ (fun E => E 0 = pksAV true true l ∧ E 1 = trmsAV true t ∧ E 2 = intsAV true a ∧ E 3 = .v (.int .i64 (n)) ∧ E 10 = .box 0 0 ∧ E 12 = wtrmsAV t ∧ E 13 = wintsAV a ∧ E 14 = .box 1 0 ∧ E 15 = .v (.int .i64 (1 + (mkPs l : Int)))) ?_ ?_
  · simp [z0, z1, z2, z3, z10, z11, z12, z13, z14, z15]
    refine reg_k 2 ?_
    simp [z0, z1, z2, z3, z10, z11, z12, z13, z14, z15]
    refine mark_b 0 [(0, pksAV true true l), (1, trmsAV true t), (2, intsAV true a), (3, .v (.int .i64 (n))), (10, .box 0 0), (12, wtrmsAV t), (13, wintsAV a), (14, .box 1 0)] [[.v (.int .i64 k), .v (.int .i64 m), .sl true []], [.v (.int .i64 k), .v (.int .i64 m), .sl false []]] [[.v (.int .i64 k), .v (.int .i64 m), .sl true []], [.v (.int .i64 k), .v (.int .i64 m), .sl false []]] (by simp) (w_pks l hl2 hl1 (1) (by omega) (by omega)) (by simp [WArgL]) (by simp) (by simp [StayB, StayR]) (by intro i; simp) (by simp) (by simp [WKeep_cons, WKeep_nil, z0, z1, z2, z3, z10, z11, z12, z13, z14, z15]) ?_
    repeat' first
    | simp [z0, z1, z2, z3, z10, z11, z12, z13, z14, z15]
  rintro E ⟨z0, z1, z2, z3, z10, z12, z13, z14, z15⟩
  refine seq_step ⟨[[.v (.int .i64 k), .v (.int .i64 m), .sl true []], [.v (.int .i64 k), .v (.int .i64 m), .sl false []]], noArrs ver⟩ (fun E => E 0 = pksAV true true l ∧ E 1 = trmsAV true t ∧ E 2 = intsAV true a ∧ E 3 = .v (.int .i64 (n)) ∧ E 10 = .box 0 0 ∧ E 13 = wintsAV a ∧ E 14 = .box 1 0 ∧ E 15 = .v (.int .i64 (1 + (mkPs l : Int) + (mkT t : Int)))) ?_ ?_
  · simp [z0, z1, z2, z3, z10, z12, z13, z14, z15]
    refine reg_k 2 ?_
    simp [z0, z1, z2, z3, z10, z12, z13, z14, z15]
    refine mark_b 0 [(0, pksAV true true l), (1, trmsAV true t), (2, intsAV true a), (3, .v (.int .i64 (n))), (10, .box 0 0), (13, wintsAV a), (14, .box 1 0)] [[.v (.int .i64 k), .v (.int .i64 m), .sl true []], [.v (.int .i64 k), .v (.int .i64 m), .sl false []]] [[.v (.int .i64 k), .v (.int .i64 m), .sl true []], [.v (.int .i64 k), .v (.int .i64 m), .sl false []]] (by simp) (w_trms t (1 + (mkPs l : Int)) (by omega) (by omega)) (by simp [WArgL]) (by simp) (by simp [StayB, StayR]) (by intro i; simp) (by simp) (by simp [WKeep_cons, WKeep_nil, z0, z1, z2, z3, z10, z12, z13, z14, z15]) ?_
    repeat' first
    | simp [z0, z1, z2, z3, z10, z12, z13, z14, z15]
  rintro E ⟨z0, z1, z2, z3, z10, z13, z14, z15⟩
  refine seq_step ⟨[[.v (.int .i64 k), .v (.int .i64 m), .sl true []], [.v (.int .i64 k), .v (.int .i64 m), .sl false []]], noArrs ver⟩ (fun E => E 0 = pksAV true true l ∧ E 1 = trmsAV true t ∧ E 2 = intsAV true a ∧ E 3 = .v (.int .i64 (n)) ∧ E 10 = .box 0 0 ∧ E 14 = .box 1 0 ∧ E 15 = .v (.int .i64 (1 + (mkPs l : Int) + (mkT t : Int) + (a.length : Int)))) ?_ ?_
  · simp [z0, z1, z2, z3, z10, z13, z14, z15]
    refine reg_k 2 ?_
    simp [z0, z1, z2, z3, z10, z13, z14, z15]
    refine mark_b 0 [(0, pksAV true true l), (1, trmsAV true t), (2, intsAV true a), (3, .v (.int .i64 (n))), (10, .box 0 0), (14, .box 1 0)] [[.v (.int .i64 k), .v (.int .i64 m), .sl true []], [.v (.int .i64 k), .v (.int .i64 m), .sl false []]] [[.v (.int .i64 k), .v (.int .i64 m), .sl true []], [.v (.int .i64 k), .v (.int .i64 m), .sl false []]] (by simp) (w_ints a (1 + (mkPs l : Int) + (mkT t : Int)) (by omega) (by omega)) (by simp [WArgL]) (by simp) (by simp [StayB, StayR]) (by intro i; simp) (by simp) (by simp [WKeep_cons, WKeep_nil, z0, z1, z2, z3, z10, z13, z14, z15]) ?_
    repeat' first
    | simp [z0, z1, z2, z3, z10, z13, z14, z15]
  rintro E ⟨z0, z1, z2, z3, z10, z14, z15⟩
  refine if_skip ⟨[[.v (.int .i64 k), .v (.int .i64 m), .sl true []], [.v (.int .i64 k), .v (.int .i64 m), .sl false []]], noArrs ver⟩ (fun E => E 0 = pksAV true true l ∧ E 1 = trmsAV true t ∧ E 2 = intsAV true a ∧ E 3 = .v (.int .i64 (n)) ∧ E 10 = .box 0 0 ∧ E 14 = .box 1 0) ?_ ?_
  · repeat' first
    | with_reducible refine reg_a ?_
    | with_reducible refine call_p (hE _ _) (by simp) ?_
    | simp [z0, z1, z2, z3, z10, z14, z15, hq]
  rintro E ⟨z0, z1, z2, z3, z10, z14⟩
  refine seq_step ⟨[[.v (.int .i64 k), .v (.int .i64 m), .sl true []], [.v (.int .i64 k), .v (.int .i64 m), .sl false []]], noArrs ver⟩ (fun E => E 0 = pksAV true true l ∧ E 1 = trmsAV true t ∧ E 2 = intsAV true a ∧ E 3 = .v (.int .i64 (n)) ∧ E 10 = .box 0 0 ∧ E 14 = .box 1 0 ∧ E 16 = .v (.int .i64 1)) ?_ ?_
  · repeat' first
    | with_reducible refine reg_a ?_
    | simp [z0, z1, z2, z3, z10, z14]
  rintro E ⟨z0, z1, z2, z3, z10, z14, z16⟩
  refine seq_step ⟨[[.v (.int .i64 k), .v (.int .i64 m), .sl true []], [.v (.int .i64 k), .v (.int .i64 m), .sl false []]], noArrs ver⟩ (fun E => E 0 = pksAV true true l ∧ E 1 = trmsAV true t ∧ E 2 = intsAV true a ∧ E 3 = .v (.int .i64 (n)) ∧ E 10 = .box 0 0 ∧ E 14 = .box 1 0 ∧ E 16 = .v (.int .i64 1)) ?_ ?_
  · repeat' first
    | with_reducible refine reg_a ?_
    | with_reducible refine call_p (p_markSol0 false 1 k m) (by simp) ?_
    | simp [z0, z1, z2, z3, z10, z14, z16]
  rintro E ⟨z0, z1, z2, z3, z10, z14, z16⟩
  refine seq_step ⟨[[.v (.int .i64 k), .v (.int .i64 m), .sl true []], [.v (.int .i64 k), .v (.int .i64 m), .sl false []]], noArrs ver⟩ (fun E => E 0 = pksAV true true l ∧ E 1 = trmsAV true t ∧ E 2 = intsAV true a ∧ E 3 = .v (.int .i64 (n)) ∧ E 10 = .box 0 0 ∧ E 14 = .box 1 0 ∧ E 16 = .v (.int .i64 1) ∧ E 17 = .v (.int .i64 1)) ?_ ?_
  · repeat' first
    | with_reducible refine reg_a ?_
    | simp [z0, z1, z2, z3, z10, z14, z16]
  rintro E ⟨z0, z1, z2, z3, z10, z14, z16, z17⟩
  refine seq_step ⟨[[.v (.int .i64 k), .v (.int .i64 m), .sl true []], [.v (.int .i64 k), .v (.int .i64 m), .sl false []]], noArrs ver⟩ (fun E => E 0 = pksAV true true l ∧ E 1 = trmsAV true t ∧ E 2 = intsAV true a ∧ E 3 = .v (.int .i64 (n)) ∧ E 10 = .box 0 0 ∧ E 14 = .box 1 0 ∧ E 16 = .v (.int .i64 1) ∧ E 17 = .v (.int .i64 1)) ?_ ?_
  · repeat' first
    | with_reducible refine reg_a ?_
    | with_reducible refine call_p (p_heldSol0 _ 1 k m (by omega) (by omega)) (by simp) ?_
    | simp [z0, z1, z2, z3, z10, z14, z16, z17]
  rintro E ⟨z0, z1, z2, z3, z10, z14, z16, z17⟩
  refine if_skip ⟨[[.v (.int .i64 k), .v (.int .i64 m), .sl true []], [.v (.int .i64 k), .v (.int .i64 m), .sl false []]], noArrs ver⟩ (fun E => E 0 = pksAV true true l ∧ E 1 = trmsAV true t ∧ E 2 = intsAV true a ∧ E 3 = .v (.int .i64 (n)) ∧ E 10 = .box 0 0 ∧ E 14 = .box 1 0 ∧ E 16 = .v (.int .i64 1) ∧ E 17 = .v (.int .i64 1)) ?_ ?_
  · repeat' first
    | with_reducible refine reg_a ?_
    | simp [z0, z1, z2, z3, z10, z14, z16, z17, hq1]
  rintro E ⟨z0, z1, z2, z3, z10, z14, z16, z17⟩
  refine if_skip ⟨[[.v (.int .i64 k), .v (.int .i64 m), .sl true []], [.v (.int .i64 k), .v (.int .i64 m), .sl false []]], noArrs ver⟩ (fun E => E 0 = pksAV true true l ∧ E 1 = trmsAV true t ∧ E 2 = intsAV true a ∧ E 3 = .v (.int .i64 (n)) ∧ E 10 = .box 0 0 ∧ E 14 = .box 1 0 ∧ E 16 = .v (.int .i64 1)) ?_ ?_
  · repeat' first
    | with_reducible refine reg_a ?_
    | simp [z0, z1, z2, z3, z10, z14, z16, z17]
  rintro E ⟨z0, z1, z2, z3, z10, z14, z16⟩
  refine seq_step ⟨[[.v (.int .i64 k), .v (.int .i64 m), .sl true []], [.v (.int .i64 k), .v (.int .i64 m), .sl false []], [.v (.int .i64 k), .v (.int .i64 m), .sl false []]], noArrs ver⟩ (fun E => E 10 = .box 0 0 ∧ E 14 = .box 1 0 ∧ E 16 = .v (.int .i64 1) ∧ E 18 = .box 2 0) ?_ ?_
  · repeat' first
    | with_reducible refine reg_a ?_
    | with_reducible refine call_p (t_pks true l hl) (by simp) ?_
    | with_reducible refine call_p (t_trms true t ht) (by simp) ?_
    | with_reducible refine call_p (t_ints true a ha) (by simp) ?_
    | with_reducible refine call_p (hQ) (by simp) ?_
    | simp [z0, z1, z2, z3, z10, z14, z16]
  rintro E ⟨z10, z14, z16, z18⟩
  refine if_skip ⟨[[.v (.int .i64 k), .v (.int .i64 m), .sl true []], [.v (.int .i64 k), .v (.int .i64 m), .sl false []], [.v (.int .i64 k), .v (.int .i64 m), .sl false []]], noArrs ver⟩ (fun E => E 14 = .box 1 0 ∧ E 16 = .v (.int .i64 1)) ?_ ?_
  · repeat' first
    | with_reducible refine reg_a ?_
    | with_reducible refine call_p (hE _ _) (by simp) ?_
    | simp [z10, z14, z16, z18]
  rintro E ⟨z14, z16⟩
  refine seq_step ⟨[[.v (.int .i64 k), .v (.int .i64 m), .sl true []], [.v (.int .i64 k), .v (.int .i64 m), .sl false []], [.v (.int .i64 k), .v (.int .i64 m), .sl false []]], noArrs ver⟩ (fun E => E 14 = .box 1 0 ∧ E 16 = .v (.int .i64 1) ∧ E 17 = .v (.int .i64 1)) ?_ ?_
  · repeat' first
    | with_reducible refine reg_a ?_
    | simp [z14, z16]
  rintro E ⟨z14, z16, z17⟩
  refine seq_step ⟨[[.v (.int .i64 k), .v (.int .i64 m), .sl true []], [.v (.int .i64 k), .v (.int .i64 m), .sl false []], [.v (.int .i64 k), .v (.int .i64 m), .sl false []]], noArrs ver⟩ (fun E => E 16 = .v (.int .i64 1) ∧ E 17 = .v (.int .i64 1)) ?_ ?_
  · repeat' first
    | with_reducible refine reg_a ?_
    | with_reducible refine call_p (p_heldSol0 _ 1 k m (by omega) (by omega)) (by simp) ?_
    | simp [z14, z16, z17]
  rintro E ⟨z16, z17⟩
  refine if_skip ⟨[[.v (.int .i64 k), .v (.int .i64 m), .sl true []], [.v (.int .i64 k), .v (.int .i64 m), .sl false []], [.v (.int .i64 k), .v (.int .i64 m), .sl false []]], noArrs ver⟩ (fun E => E 16 = .v (.int .i64 1) ∧ E 17 = .v (.int .i64 1)) ?_ ?_
  · repeat' first
    | with_reducible refine reg_a ?_
    | simp [z16, z17, hq1]
  rintro E ⟨z16, z17⟩
  refine if_skip ⟨[[.v (.int .i64 k), .v (.int .i64 m), .sl true []], [.v (.int .i64 k), .v (.int .i64 m), .sl false []], [.v (.int .i64 k), .v (.int .i64 m), .sl false []]], noArrs ver⟩ (fun _ => True) ?_ ?_
  · repeat' first
    | with_reducible refine reg_a ?_
    | simp [z16, z17]
  rintro E _
  refine seq_step ⟨[[.v (.int .i64 k), .v (.int .i64 m), .sl true []], [.v (.int .i64 k), .v (.int .i64 m), .sl false []], [.v (.int .i64 k), .v (.int .i64 m), .sl false []]], noArrs ver⟩ (fun E => E 8 = .v (.bool true)) ?_ ?_
  · repeat' first
    | with_reducible refine reg_a ?_
    | simp []
  rintro E z8
  simp [z8]

set_option maxHeartbeats 16000000 in
set_option maxRecDepth 10000 in
theorem l_slvB (l : List Pk) (hl : BigP l) (hls : StrP l) (t : List Trm) (ht : BigT t) (hts : StrT t) (a : List Int) (ha : BigI a) (n : Int) (hn : IntKind.i64.wrap n = n) (g0 : ¬ (1048576 : Int) < (a.length : Int)) (g1 : ¬ sz_pks l 1048576 < 0) (g2 : ¬ sz_trms t (sz_pks l 1048576) < 0) (h : (solO l t a n).1 = 0) :
    Pure Tryz.prog 3 [pksAV true true l, trmsAV true t, intsAV true a, .v (.int .i64 (n))] (.v (.bool true)) := by
  obtain ⟨hl1, hl2⟩ := hl.len
  have ht4 : t.length ≤ 4611686018427387904 := by unfold BigT at ht; omega
  have ha3 : a.length ≤ 4611686018427387904 := by unfold BigI at ha; omega
  have hmk := (sz_pks_le hl hls (by decide) (by decide) g1).1
  have hsz := (sz_pks_le hl hls (by decide) (by decide) g1).2
  have hst := (sz_trms_le ht hts hsz (by omega) g2).1
  have hst2 := (sz_trms_le ht hts hsz (by omega) g2).2
  have hmt : mkT t = 7 * t.length := rfl
  have hq : ¬ 1 + (mkPs l : Int) + (mkT t : Int) + (a.length : Int) < 0 := by omega
  have hP := p_solve l hl1 hl2 t ht4 a ha3 n
  have hQ := q_solveB l hl1 hl2 t (by omega) a ha3 n h
  have hln := solO_len h
  rw [h] at hP
  obtain ⟨F, hF⟩ : ∃ F, F = (solO l t a n).2.2 := ⟨_, rfl⟩
  obtain ⟨m, hm⟩ : ∃ m, m = (solO l t a n).2.1 := ⟨_, rfl⟩
  rw [← hF, ← hm] at hP hQ
  rw [← hF] at hln
  have htk : List.take F.length (List.map intCells (mlist 1 F.length)) = List.map intCells (mlist 1 F.length) := List.take_of_length_le (by simp)
  have hQ2 : Pure Tryz.prog 20 [pksAV false false l, trmsAV false t, intsAV false a, .v (.int .i64 n)] (.agg [.v (.int .i64 0), .v (.int .i64 m), intsAV false F]) := by
    have := OCall.pure hQ (by simp) (by simp)
    simpa using this
  have hq2 : ¬ 1 + (F.length : Int) < 0 := by omega
  clear h hF hm
  refine top_of_code (G := Gt) verst mixed0 Tryz.func3 rfl (by decide) (by simp [Tryz.f3]) (by simp) fun ver => ?_
  simp only [Tryz.f3, Gt]
  refine seq_step ⟨[], noArrs ver⟩ (fun E => E 0 = pksAV true true l ∧ E 1 = trmsAV true t ∧ E 2 = intsAV true a ∧ E 3 = .v (.int .i64 (n))) ?_ ?_
  · repeat' first
    | with_reducible refine reg_a ?_
    | simp []
  rintro E ⟨z0, z1, z2, z3⟩
  refine if_skip ⟨[], noArrs ver⟩ (fun E => E 0 = pksAV true true l ∧ E 1 = trmsAV true t ∧ E 2 = intsAV true a ∧ E 3 = .v (.int .i64 (n))) ?_ ?_
  · repeat' first
    | with_reducible refine reg_a ?_
    | simp [z0, z1, z2, z3, g0]
  rintro E ⟨z0, z1, z2, z3⟩
  refine seq_step ⟨[], noArrs ver⟩ (fun E => E 0 = pksAV true true l ∧ E 1 = trmsAV true t ∧ E 2 = intsAV true a ∧ E 3 = .v (.int .i64 (n)) ∧ E 9 = .v (.int .i64 1048576)) ?_ ?_
  · repeat' first
    | with_reducible refine reg_a ?_
    | simp [z0, z1, z2, z3]
  rintro E ⟨z0, z1, z2, z3, z9⟩
  refine seq_step ⟨[], noArrs ver⟩ (fun E => E 0 = pksAV true true l ∧ E 1 = trmsAV true t ∧ E 2 = intsAV true a ∧ E 3 = .v (.int .i64 (n)) ∧ E 9 = .v (.int .i64 (sz_pks l 1048576))) ?_ ?_
  · repeat' first
    | with_reducible refine reg_a ?_
    | with_reducible refine call_p (z_pks true l hl _) (by simp) ?_
    | simp [z0, z1, z2, z3, z9]
  rintro E ⟨z0, z1, z2, z3, z9⟩
  refine if_skip ⟨[], noArrs ver⟩ (fun E => E 0 = pksAV true true l ∧ E 1 = trmsAV true t ∧ E 2 = intsAV true a ∧ E 3 = .v (.int .i64 (n)) ∧ E 9 = .v (.int .i64 (sz_pks l 1048576))) ?_ ?_
  · repeat' first
    | with_reducible refine reg_a ?_
    | simp [z0, z1, z2, z3, z9, g1]
  rintro E ⟨z0, z1, z2, z3, z9⟩
  refine seq_step ⟨[], noArrs ver⟩ (fun E => E 0 = pksAV true true l ∧ E 1 = trmsAV true t ∧ E 2 = intsAV true a ∧ E 3 = .v (.int .i64 (n)) ∧ E 9 = .v (.int .i64 (sz_trms t (sz_pks l 1048576)))) ?_ ?_
  · repeat' first
    | with_reducible refine reg_a ?_
    | with_reducible refine call_p (z_trms true t ht _) (by simp) ?_
    | simp [z0, z1, z2, z3, z9]
  rintro E ⟨z0, z1, z2, z3, z9⟩
  refine if_skip ⟨[], noArrs ver⟩ (fun E => E 0 = pksAV true true l ∧ E 1 = trmsAV true t ∧ E 2 = intsAV true a ∧ E 3 = .v (.int .i64 (n))) ?_ ?_
  · repeat' first
    | with_reducible refine reg_a ?_
    | simp [z0, z1, z2, z3, z9, g2]
  rintro E ⟨z0, z1, z2, z3⟩
  refine seq_step ⟨[[.v (.int .i64 0), .v (.int .i64 m), intsAV false F]], noArrs ver⟩ (fun E => E 0 = pksAV true true l ∧ E 1 = trmsAV true t ∧ E 2 = intsAV true a ∧ E 3 = .v (.int .i64 (n)) ∧ E 10 = .box 0 0) ?_ ?_
  · repeat' first
    | with_reducible refine reg_a ?_
    | with_reducible refine call_p (t_pks true l hl) (by simp) ?_
    | with_reducible refine call_p (t_trms true t ht) (by simp) ?_
    | with_reducible refine call_p (t_ints true a ha) (by simp) ?_
    | with_reducible refine call_p (hP) (by simp) ?_
    | simp [z0, z1, z2, z3]
  rintro E ⟨z0, z1, z2, z3, z10⟩
  refine seq_step ⟨[[.v (.int .i64 0), .v (.int .i64 m), intsAV true F]], noArrs ver⟩ (fun E => E 0 = pksAV true true l ∧ E 1 = trmsAV true t ∧ E 2 = intsAV true a ∧ E 3 = .v (.int .i64 (n)) ∧ E 10 = .box 0 0 ∧ E 11 = pksAV false false l) ?_ ?_
  · simp [z0, z1, z2, z3, z10]
    refine reg_ok 0 [(0, pksAV true true l), (1, trmsAV true t), (2, intsAV true a), (3, .v (.int .i64 (n))), (10, .box 0 0)] [[.v (.int .i64 0), .v (.int .i64 m), intsAV false F]] [[.v (.int .i64 0), .v (.int .i64 m), intsAV true F]] (by simp) (by intro i; simp) (by simp) (by simp [OldsK_cons, OldsK_nil, z0, z1, z2, z3, z10]) (by simp [OldsB, OldsR]) ?_
    repeat' first
    | with_reducible refine call_p (t_pks true l hl) (by simp) ?_
    | simp [z0, z1, z2, z3, z10]
  rintro E ⟨z0, z1, z2, z3, z10, z11⟩
  refine seq_step ⟨[[.v (.int .i64 0), .v (.int .i64 m), intsAV true F]], noArrs ver⟩ (fun E => E 0 = pksAV true true l ∧ E 1 = trmsAV true t ∧ E 2 = intsAV true a ∧ E 3 = .v (.int .i64 (n)) ∧ E 10 = .box 0 0 ∧ E 11 = pksAV false false l ∧ E 12 = trmsAV false t) ?_ ?_
  · repeat' first
    | with_reducible refine reg_a ?_
    | with_reducible refine call_p (t_trms true t ht) (by simp) ?_
    | simp [z0, z1, z2, z3, z10, z11]
  rintro E ⟨z0, z1, z2, z3, z10, z11, z12⟩
  refine seq_step ⟨[[.v (.int .i64 0), .v (.int .i64 m), intsAV true F]], noArrs ver⟩ (fun E => E 0 = pksAV true true l ∧ E 1 = trmsAV true t ∧ E 2 = intsAV true a ∧ E 3 = .v (.int .i64 (n)) ∧ E 10 = .box 0 0 ∧ E 11 = pksAV false false l ∧ E 12 = trmsAV false t ∧ E 13 = intsAV false a) ?_ ?_
  · repeat' first
    | with_reducible refine reg_a ?_
    | with_reducible refine call_p (t_ints true a ha) (by simp) ?_
    | simp [z0, z1, z2, z3, z10, z11, z12]
  rintro E ⟨z0, z1, z2, z3, z10, z11, z12, z13⟩
  refine seq_step ⟨[[.v (.int .i64 0), .v (.int .i64 m), intsAV true F], [.v (.int .i64 0), .v (.int .i64 m), .arr 50 (ver 50 + 1) 0 F.length]], arrW 50 (ver 50 + 1) 2 (F.map intCells) ver⟩ (fun E => E 0 = pksAV true true l ∧ E 1 = trmsAV true t ∧ E 2 = intsAV true a ∧ E 3 = .v (.int .i64 (n)) ∧ E 10 = .box 0 0 ∧ E 11 = pksAV false false l ∧ E 12 = trmsAV false t ∧ E 13 = intsAV false a ∧ E 14 = .box 1 0) ?_ ?_
  · repeat' first
    | with_reducible refine reg_a ?_
    | with_reducible refine call_n 50 hQ (by simp) ?_
    | simp [z0, z1, z2, z3, z10, z11, z12, z13, noArrs_put]
  rintro E ⟨z0, z1, z2, z3, z10, z11, z12, z13, z14⟩
  refine if_skip ⟨[[.v (.int .i64 0), .v (.int .i64 m), intsAV true F], [.v (.int .i64 0), .v (.int .i64 m), .arr 50 (ver 50 + 1) 0 F.length]], arrW 50 (ver 50 + 1) 2 (F.map intCells) ver⟩ (fun E => E 0 = pksAV true true l ∧ E 1 = trmsAV true t ∧ E 2 = intsAV true a ∧ E 3 = .v (.int .i64 (n)) ∧ E 10 = .box 0 0 ∧ E 11 = pksAV false false l ∧ E 12 = trmsAV false t ∧ E 13 = intsAV false a ∧ E 14 = .box 1 0) ?_ ?_
  · repeat' first
    | with_reducible refine reg_a ?_
    | with_reducible refine call_p (e_sol true true F (by omega) 0 m) (by simp) ?_
    | with_reducible refine call_p (e_sol false true F (by omega) 0 m) (by simp) ?_
    | simp [z0, z1, z2, z3, z10, z11, z12, z13, z14]
  rintro E ⟨z0, z1, z2, z3, z10, z11, z12, z13, z14⟩
  refine if_skip ⟨[[.v (.int .i64 0), .v (.int .i64 m), intsAV true F], [.v (.int .i64 0), .v (.int .i64 m), .arr 50 (ver 50 + 1) 0 F.length]], arrW 50 (ver 50 + 1) 2 (F.map intCells) ver⟩ (fun E => E 0 = pksAV true true l ∧ E 1 = trmsAV true t ∧ E 2 = intsAV true a ∧ E 3 = .v (.int .i64 (n)) ∧ E 10 = .box 0 0 ∧ E 11 = pksAV false false l ∧ E 12 = trmsAV false t ∧ E 13 = intsAV false a ∧ E 14 = .box 1 0) ?_ ?_
  · repeat' first
    | with_reducible refine reg_a ?_
    | with_reducible refine call_p (t_pks true l hl) (by simp) ?_
    | with_reducible refine call_p (e_pks false false l hl1 hl2) (by simp) ?_
    | simp [z0, z1, z2, z3, z10, z11, z12, z13, z14]
  rintro E ⟨z0, z1, z2, z3, z10, z11, z12, z13, z14⟩
  refine if_skip ⟨[[.v (.int .i64 0), .v (.int .i64 m), intsAV true F], [.v (.int .i64 0), .v (.int .i64 m), .arr 50 (ver 50 + 1) 0 F.length]], arrW 50 (ver 50 + 1) 2 (F.map intCells) ver⟩ (fun E => E 0 = pksAV true true l ∧ E 1 = trmsAV true t ∧ E 2 = intsAV true a ∧ E 3 = .v (.int .i64 (n)) ∧ E 10 = .box 0 0 ∧ E 11 = pksAV false false l ∧ E 12 = trmsAV false t ∧ E 13 = intsAV false a ∧ E 14 = .box 1 0) ?_ ?_
  · repeat' first
    | with_reducible refine reg_a ?_
    | with_reducible refine call_p (t_trms true t ht) (by simp) ?_
    | with_reducible refine call_p (e_trms false false t ht4) (by simp) ?_
    | simp [z0, z1, z2, z3, z10, z11, z12, z13, z14]
  rintro E ⟨z0, z1, z2, z3, z10, z11, z12, z13, z14⟩
  refine if_skip ⟨[[.v (.int .i64 0), .v (.int .i64 m), intsAV true F], [.v (.int .i64 0), .v (.int .i64 m), .arr 50 (ver 50 + 1) 0 F.length]], arrW 50 (ver 50 + 1) 2 (F.map intCells) ver⟩ (fun E => E 0 = pksAV true true l ∧ E 1 = trmsAV true t ∧ E 2 = intsAV true a ∧ E 3 = .v (.int .i64 (n)) ∧ E 10 = .box 0 0 ∧ E 11 = pksAV false false l ∧ E 12 = trmsAV false t ∧ E 13 = intsAV false a ∧ E 14 = .box 1 0) ?_ ?_
  · repeat' first
    | with_reducible refine reg_a ?_
    | with_reducible refine call_p (t_ints true a ha) (by simp) ?_
    | with_reducible refine call_p (e_ints false false a ha3) (by simp) ?_
    | simp [z0, z1, z2, z3, z10, z11, z12, z13, z14]
  rintro E ⟨z0, z1, z2, z3, z10, z11, z12, z13, z14⟩
  refine seq_step ⟨[[.v (.int .i64 0), .v (.int .i64 m), intsAV true F], [.v (.int .i64 0), .v (.int .i64 m), .arr 50 (ver 50 + 1) 0 F.length]], arrW 50 (ver 50 + 1) 2 (F.map intCells) ver⟩ (fun E => E 0 = pksAV true true l ∧ E 1 = trmsAV true t ∧ E 2 = intsAV true a ∧ E 3 = .v (.int .i64 (n)) ∧ E 10 = .box 0 0 ∧ E 11 = pksAV false false l ∧ E 12 = trmsAV false t ∧ E 13 = intsAV false a ∧ E 14 = .box 1 0 ∧ E 15 = .v (.int .i64 1)) ?_ ?_
  · repeat' first
    | with_reducible refine reg_a ?_
    | simp [z0, z1, z2, z3, z10, z11, z12, z13, z14]
  rintro E ⟨z0, z1, z2, z3, z10, z11, z12, z13, z14, z15⟩
  refine seq_step ⟨[[.v (.int .i64 0), .v (.int .i64 m), intsAV true F], [.v (.int .i64 0), .v (.int .i64 m), .arr 50 (ver 50 + 1) 0 F.length]], arrW 50 (ver 50 + 1) 2 (F.map intCells) ver⟩ (fun E => E 0 = pksAV true true l ∧ E 1 = trmsAV true t ∧ E 2 = intsAV true a ∧ E 3 = .v (.int .i64 (n)) ∧ E 10 = .box 0 0 ∧ E 12 = wtrmsAV t ∧ E 13 = wintsAV a ∧ E 14 = .box 1 0 ∧ E 15 = .v (.int .i64 (1 + (mkPs l : Int)))) ?_ ?_
  · simp [z0, z1, z2, z3, z10, z11, z12, z13, z14, z15]
    refine reg_k 2 ?_
    simp [z0, z1, z2, z3, z10, z11, z12, z13, z14, z15]
    refine mark_b 0 [(0, pksAV true true l), (1, trmsAV true t), (2, intsAV true a), (3, .v (.int .i64 (n))), (10, .box 0 0), (12, wtrmsAV t), (13, wintsAV a), (14, .box 1 0)] [[.v (.int .i64 0), .v (.int .i64 m), intsAV true F], [.v (.int .i64 0), .v (.int .i64 m), .arr 50 (ver 50 + 1) 0 F.length]] [[.v (.int .i64 0), .v (.int .i64 m), intsAV true F], [.v (.int .i64 0), .v (.int .i64 m), .arr 50 (ver 50 + 1) 0 F.length]] (by simp) (w_pks l hl2 hl1 (1) (by omega) (by omega)) (by simp [WArgL]) (by simp) (by simp [StayB, StayR]) (arrW_stay (stayr_map F stayc_int)) (by simp) (by simp [WKeep_cons, WKeep_nil, z0, z1, z2, z3, z10, z11, z12, z13, z14, z15]) ?_
    repeat' first
    | simp [z0, z1, z2, z3, z10, z11, z12, z13, z14, z15]
  rintro E ⟨z0, z1, z2, z3, z10, z12, z13, z14, z15⟩
  refine seq_step ⟨[[.v (.int .i64 0), .v (.int .i64 m), intsAV true F], [.v (.int .i64 0), .v (.int .i64 m), .arr 50 (ver 50 + 1) 0 F.length]], arrW 50 (ver 50 + 1) 2 (F.map intCells) ver⟩ (fun E => E 0 = pksAV true true l ∧ E 1 = trmsAV true t ∧ E 2 = intsAV true a ∧ E 3 = .v (.int .i64 (n)) ∧ E 10 = .box 0 0 ∧ E 13 = wintsAV a ∧ E 14 = .box 1 0 ∧ E 15 = .v (.int .i64 (1 + (mkPs l : Int) + (mkT t : Int)))) ?_ ?_
  · simp [z0, z1, z2, z3, z10, z12, z13, z14, z15]
    refine reg_k 2 ?_
    simp [z0, z1, z2, z3, z10, z12, z13, z14, z15]
    refine mark_b 0 [(0, pksAV true true l), (1, trmsAV true t), (2, intsAV true a), (3, .v (.int .i64 (n))), (10, .box 0 0), (13, wintsAV a), (14, .box 1 0)] [[.v (.int .i64 0), .v (.int .i64 m), intsAV true F], [.v (.int .i64 0), .v (.int .i64 m), .arr 50 (ver 50 + 1) 0 F.length]] [[.v (.int .i64 0), .v (.int .i64 m), intsAV true F], [.v (.int .i64 0), .v (.int .i64 m), .arr 50 (ver 50 + 1) 0 F.length]] (by simp) (w_trms t (1 + (mkPs l : Int)) (by omega) (by omega)) (by simp [WArgL]) (by simp) (by simp [StayB, StayR]) (arrW_stay (stayr_map F stayc_int)) (by simp) (by simp [WKeep_cons, WKeep_nil, z0, z1, z2, z3, z10, z12, z13, z14, z15]) ?_
    repeat' first
    | simp [z0, z1, z2, z3, z10, z12, z13, z14, z15]
  rintro E ⟨z0, z1, z2, z3, z10, z13, z14, z15⟩
  refine seq_step ⟨[[.v (.int .i64 0), .v (.int .i64 m), intsAV true F], [.v (.int .i64 0), .v (.int .i64 m), .arr 50 (ver 50 + 1) 0 F.length]], arrW 50 (ver 50 + 1) 2 (F.map intCells) ver⟩ (fun E => E 0 = pksAV true true l ∧ E 1 = trmsAV true t ∧ E 2 = intsAV true a ∧ E 3 = .v (.int .i64 (n)) ∧ E 10 = .box 0 0 ∧ E 14 = .box 1 0 ∧ E 15 = .v (.int .i64 (1 + (mkPs l : Int) + (mkT t : Int) + (a.length : Int)))) ?_ ?_
  · simp [z0, z1, z2, z3, z10, z13, z14, z15]
    refine reg_k 2 ?_
    simp [z0, z1, z2, z3, z10, z13, z14, z15]
    refine mark_b 0 [(0, pksAV true true l), (1, trmsAV true t), (2, intsAV true a), (3, .v (.int .i64 (n))), (10, .box 0 0), (14, .box 1 0)] [[.v (.int .i64 0), .v (.int .i64 m), intsAV true F], [.v (.int .i64 0), .v (.int .i64 m), .arr 50 (ver 50 + 1) 0 F.length]] [[.v (.int .i64 0), .v (.int .i64 m), intsAV true F], [.v (.int .i64 0), .v (.int .i64 m), .arr 50 (ver 50 + 1) 0 F.length]] (by simp) (w_ints a (1 + (mkPs l : Int) + (mkT t : Int)) (by omega) (by omega)) (by simp [WArgL]) (by simp) (by simp [StayB, StayR]) (arrW_stay (stayr_map F stayc_int)) (by simp) (by simp [WKeep_cons, WKeep_nil, z0, z1, z2, z3, z10, z13, z14, z15]) ?_
    repeat' first
    | simp [z0, z1, z2, z3, z10, z13, z14, z15]
  rintro E ⟨z0, z1, z2, z3, z10, z14, z15⟩
  refine if_skip ⟨[[.v (.int .i64 0), .v (.int .i64 m), intsAV true F], [.v (.int .i64 0), .v (.int .i64 m), .arr 50 (ver 50 + 1) 0 F.length]], arrW 50 (ver 50 + 1) 2 (F.map intCells) ver⟩ (fun E => E 0 = pksAV true true l ∧ E 1 = trmsAV true t ∧ E 2 = intsAV true a ∧ E 3 = .v (.int .i64 (n)) ∧ E 10 = .box 0 0 ∧ E 14 = .box 1 0) ?_ ?_
  · repeat' first
    | with_reducible refine reg_a ?_
    | with_reducible refine call_p (e_sol true true F (by omega) 0 m) (by simp) ?_
    | with_reducible refine call_p (e_sol false true F (by omega) 0 m) (by simp) ?_
    | simp [z0, z1, z2, z3, z10, z14, z15, hq]
  rintro E ⟨z0, z1, z2, z3, z10, z14⟩
  refine seq_step ⟨[[.v (.int .i64 0), .v (.int .i64 m), intsAV true F], [.v (.int .i64 0), .v (.int .i64 m), .arr 50 (ver 50 + 1) 0 F.length]], arrW 50 (ver 50 + 1) 2 (F.map intCells) ver⟩ (fun E => E 0 = pksAV true true l ∧ E 1 = trmsAV true t ∧ E 2 = intsAV true a ∧ E 3 = .v (.int .i64 (n)) ∧ E 10 = .box 0 0 ∧ E 14 = .box 1 0 ∧ E 16 = .v (.int .i64 1)) ?_ ?_
  · repeat' first
    | with_reducible refine reg_a ?_
    | simp [z0, z1, z2, z3, z10, z14]
  rintro E ⟨z0, z1, z2, z3, z10, z14, z16⟩
  refine seq_step ⟨[[.v (.int .i64 0), .v (.int .i64 m), intsAV true F], [.v (.int .i64 0), .v (.int .i64 m), .arr 50 (ver 50 + 1) 0 F.length]], arrW 50 (ver 50 + 1) 2 ((mlist 1 F.length).map intCells) ver⟩ (fun E => E 0 = pksAV true true l ∧ E 1 = trmsAV true t ∧ E 2 = intsAV true a ∧ E 3 = .v (.int .i64 (n)) ∧ E 10 = .box 0 0 ∧ E 14 = .box 1 0 ∧ E 16 = .v (.int .i64 (1 + (F.length : Int)))) ?_ ?_
  · repeat' first
    | with_reducible refine reg_a ?_
    | with_reducible refine call_s 50 (ver 50 + 1) 2 (F.map intCells) (by simp) (o_markSol F 1 0 m (by omega) (by omega)) (by simp) (by simp) (fr_int _) ?_
    | simp [z0, z1, z2, z3, z10, z14, z16, arrW_put]
  rintro E ⟨z0, z1, z2, z3, z10, z14, z16⟩
  refine seq_step ⟨[[.v (.int .i64 0), .v (.int .i64 m), intsAV true F], [.v (.int .i64 0), .v (.int .i64 m), .arr 50 (ver 50 + 1) 0 F.length]], arrW 50 (ver 50 + 1) 2 ((mlist 1 F.length).map intCells) ver⟩ (fun E => E 0 = pksAV true true l ∧ E 1 = trmsAV true t ∧ E 2 = intsAV true a ∧ E 3 = .v (.int .i64 (n)) ∧ E 10 = .box 0 0 ∧ E 14 = .box 1 0 ∧ E 16 = .v (.int .i64 (1 + (F.length : Int))) ∧ E 17 = .v (.int .i64 1)) ?_ ?_
  · repeat' first
    | with_reducible refine reg_a ?_
    | simp [z0, z1, z2, z3, z10, z14, z16]
  rintro E ⟨z0, z1, z2, z3, z10, z14, z16, z17⟩
  refine seq_step ⟨[[.v (.int .i64 0), .v (.int .i64 m), intsAV true F], [.v (.int .i64 0), .v (.int .i64 m), .arr 50 (ver 50 + 1) 0 F.length]], arrW 50 (ver 50 + 1) 2 ((mlist 1 F.length).map intCells) ver⟩ (fun E => E 0 = pksAV true true l ∧ E 1 = trmsAV true t ∧ E 2 = intsAV true a ∧ E 3 = .v (.int .i64 (n)) ∧ E 10 = .box 0 0 ∧ E 14 = .box 1 0 ∧ E 16 = .v (.int .i64 (1 + (F.length : Int))) ∧ E 17 = .v (.int .i64 (1 + (F.length : Int)))) ?_ ?_
  · repeat' first
    | with_reducible refine reg_a ?_
    | with_reducible refine call_p (p_heldSol true F.length 1 0 m (by omega) (by omega)) (by simp) ?_
    | simp [z0, z1, z2, z3, z10, z14, z16, z17, htk]
  rintro E ⟨z0, z1, z2, z3, z10, z14, z16, z17⟩
  refine if_skip ⟨[[.v (.int .i64 0), .v (.int .i64 m), intsAV true F], [.v (.int .i64 0), .v (.int .i64 m), .arr 50 (ver 50 + 1) 0 F.length]], arrW 50 (ver 50 + 1) 2 ((mlist 1 F.length).map intCells) ver⟩ (fun E => E 0 = pksAV true true l ∧ E 1 = trmsAV true t ∧ E 2 = intsAV true a ∧ E 3 = .v (.int .i64 (n)) ∧ E 10 = .box 0 0 ∧ E 14 = .box 1 0 ∧ E 16 = .v (.int .i64 (1 + (F.length : Int))) ∧ E 17 = .v (.int .i64 (1 + (F.length : Int)))) ?_ ?_
  · repeat' first
    | with_reducible refine reg_a ?_
    | simp [z0, z1, z2, z3, z10, z14, z16, z17, hq2]
  rintro E ⟨z0, z1, z2, z3, z10, z14, z16, z17⟩
  refine if_skip ⟨[[.v (.int .i64 0), .v (.int .i64 m), intsAV true F], [.v (.int .i64 0), .v (.int .i64 m), .arr 50 (ver 50 + 1) 0 F.length]], arrW 50 (ver 50 + 1) 2 ((mlist 1 F.length).map intCells) ver⟩ (fun E => E 0 = pksAV true true l ∧ E 1 = trmsAV true t ∧ E 2 = intsAV true a ∧ E 3 = .v (.int .i64 (n)) ∧ E 10 = .box 0 0 ∧ E 14 = .box 1 0 ∧ E 16 = .v (.int .i64 (1 + (F.length : Int)))) ?_ ?_
  · repeat' first
    | with_reducible refine reg_a ?_
    | simp [z0, z1, z2, z3, z10, z14, z16, z17]
  rintro E ⟨z0, z1, z2, z3, z10, z14, z16⟩
  refine seq_step ⟨[[.v (.int .i64 0), .v (.int .i64 m), intsAV true F], [.v (.int .i64 0), .v (.int .i64 m), .arr 50 (ver 50 + 1) 0 F.length], [.v (.int .i64 0), .v (.int .i64 m), intsAV false F]], arrW 50 (ver 50 + 1) 2 ((mlist 1 F.length).map intCells) ver⟩ (fun E => E 10 = .box 0 0 ∧ E 14 = .box 1 0 ∧ E 16 = .v (.int .i64 (1 + (F.length : Int))) ∧ E 18 = .box 2 0) ?_ ?_
  · repeat' first
    | with_reducible refine reg_a ?_
    | with_reducible refine call_p (t_pks true l hl) (by simp) ?_
    | with_reducible refine call_p (t_trms true t ht) (by simp) ?_
    | with_reducible refine call_p (t_ints true a ha) (by simp) ?_
    | with_reducible refine call_p (hQ2) (by simp) ?_
    | simp [z0, z1, z2, z3, z10, z14, z16]
  rintro E ⟨z10, z14, z16, z18⟩
  refine if_skip ⟨[[.v (.int .i64 0), .v (.int .i64 m), intsAV true F], [.v (.int .i64 0), .v (.int .i64 m), .arr 50 (ver 50 + 1) 0 F.length], [.v (.int .i64 0), .v (.int .i64 m), intsAV false F]], arrW 50 (ver 50 + 1) 2 ((mlist 1 F.length).map intCells) ver⟩ (fun E => E 14 = .box 1 0 ∧ E 16 = .v (.int .i64 (1 + (F.length : Int)))) ?_ ?_
  · repeat' first
    | with_reducible refine reg_a ?_
    | with_reducible refine call_p (e_sol true true F (by omega) 0 m) (by simp) ?_
    | with_reducible refine call_p (e_sol false true F (by omega) 0 m) (by simp) ?_
    | simp [z10, z14, z16, z18]
  rintro E ⟨z14, z16⟩
  refine seq_step ⟨[[.v (.int .i64 0), .v (.int .i64 m), intsAV true F], [.v (.int .i64 0), .v (.int .i64 m), .arr 50 (ver 50 + 1) 0 F.length], [.v (.int .i64 0), .v (.int .i64 m), intsAV false F]], arrW 50 (ver 50 + 1) 2 ((mlist 1 F.length).map intCells) ver⟩ (fun E => E 14 = .box 1 0 ∧ E 16 = .v (.int .i64 (1 + (F.length : Int))) ∧ E 17 = .v (.int .i64 1)) ?_ ?_
  · repeat' first
    | with_reducible refine reg_a ?_
    | simp [z14, z16]
  rintro E ⟨z14, z16, z17⟩
  refine seq_step ⟨[[.v (.int .i64 0), .v (.int .i64 m), intsAV true F], [.v (.int .i64 0), .v (.int .i64 m), .arr 50 (ver 50 + 1) 0 F.length], [.v (.int .i64 0), .v (.int .i64 m), intsAV false F]], arrW 50 (ver 50 + 1) 2 ((mlist 1 F.length).map intCells) ver⟩ (fun E => E 16 = .v (.int .i64 (1 + (F.length : Int))) ∧ E 17 = .v (.int .i64 (1 + (F.length : Int)))) ?_ ?_
  · repeat' first
    | with_reducible refine reg_a ?_
    | with_reducible refine call_p (p_heldSol true F.length 1 0 m (by omega) (by omega)) (by simp) ?_
    | simp [z14, z16, z17, htk]
  rintro E ⟨z16, z17⟩
  refine if_skip ⟨[[.v (.int .i64 0), .v (.int .i64 m), intsAV true F], [.v (.int .i64 0), .v (.int .i64 m), .arr 50 (ver 50 + 1) 0 F.length], [.v (.int .i64 0), .v (.int .i64 m), intsAV false F]], arrW 50 (ver 50 + 1) 2 ((mlist 1 F.length).map intCells) ver⟩ (fun E => E 16 = .v (.int .i64 (1 + (F.length : Int))) ∧ E 17 = .v (.int .i64 (1 + (F.length : Int)))) ?_ ?_
  · repeat' first
    | with_reducible refine reg_a ?_
    | simp [z16, z17, hq2]
  rintro E ⟨z16, z17⟩
  refine if_skip ⟨[[.v (.int .i64 0), .v (.int .i64 m), intsAV true F], [.v (.int .i64 0), .v (.int .i64 m), .arr 50 (ver 50 + 1) 0 F.length], [.v (.int .i64 0), .v (.int .i64 m), intsAV false F]], arrW 50 (ver 50 + 1) 2 ((mlist 1 F.length).map intCells) ver⟩ (fun _ => True) ?_ ?_
  · repeat' first
    | with_reducible refine reg_a ?_
    | simp [z16, z17]
  rintro E _
  refine seq_step ⟨[[.v (.int .i64 0), .v (.int .i64 m), intsAV true F], [.v (.int .i64 0), .v (.int .i64 m), .arr 50 (ver 50 + 1) 0 F.length], [.v (.int .i64 0), .v (.int .i64 m), intsAV false F]], arrW 50 (ver 50 + 1) 2 ((mlist 1 F.length).map intCells) ver⟩ (fun E => E 8 = .v (.bool true)) ?_ ?_
  · repeat' first
    | with_reducible refine reg_a ?_
    | simp []
  rintro E z8
  simp [z8]

theorem l_slv (l : List Pk) (hl : BigP l) (hls : StrP l) (t : List Trm) (ht : BigT t) (hts : StrT t) (a : List Int) (ha : BigI a) (n : Int) (hn : IntKind.i64.wrap n = n) :
    Pure Tryz.prog 3 [pksAV true true l, trmsAV true t, intsAV true a, .v (.int .i64 (n))] (.v (.bool true)) := by
  by_cases g0 : (1048576 : Int) < (a.length : Int)
  · exact l_slv0 l hl hls t ht hts a ha n hn g0
  by_cases g1 : sz_pks l 1048576 < 0
  · exact l_slv1 l hl hls t ht hts a ha n hn g0 g1
  by_cases g2 : sz_trms t (sz_pks l 1048576) < 0
  · exact l_slv2 l hl hls t ht hts a ha n hn g0 g1 g2
  by_cases h : (solO l t a n).1 = 0
  · exact l_slvB l hl hls t ht hts a ha n hn g0 g1 g2 h
  · exact l_slvA l hl hls t ht hts a ha n hn g0 g1 g2 h

end Go.Proofs.YtokhnmchnfkiiaaGreat.Am
