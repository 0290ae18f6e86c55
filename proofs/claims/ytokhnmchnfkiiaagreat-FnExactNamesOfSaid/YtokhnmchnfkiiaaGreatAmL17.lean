/- The law about the names that go with a name: what is to be shown of the row's function. No conditions. -/
import Derived.Test.YtokhnmchnfkiiaaGreatAmCg12
import Derived.Test.YtokhnmchnfkiiaaGreatAmCg8
namespace Go.Proofs.YtokhnmchnfkiiaaGreat.Am
open Go Go.RowKit Go.Proofs
set_option linter.unusedSimpArgs false
set_option linter.unusedVariables false

set_option maxHeartbeats 16000000 in
set_option maxRecDepth 10000 in
theorem l_nmsof0 (l : List Pk) (hl : BigP l) (hls : StrP l) (a : List Int) (ha : BigI a) (b : List Int) (hb : BigI b) (n : ByteArray) (g0 : (1048576 : Int) < (a.length : Int)) :
    Pure Tryz.prog 10 [pksAV true true l, intsAV true a, intsAV true b, .v (.string n)] (.v (.bool true)) := by
  obtain ⟨hl1, hl2⟩ := hl.len
  have ha3 : a.length ≤ 4611686018427387904 := by unfold BigI at ha; omega
  have hb3 : b.length ≤ 4611686018427387904 := by unfold BigI at hb; omega
  refine top_of_code (G := Gt) verst mixed0 Tryz.func10 rfl (by decide) (by simp [Tryz.f10]) (by simp) fun ver => ?_
  simp only [Tryz.f10, Gt]
  refine seq_step ⟨[], noArrs ver⟩ (fun E => E 0 = pksAV true true l ∧ E 1 = intsAV true a ∧ E 2 = intsAV true b ∧ E 3 = .v (.string n)) ?_ ?_
  · repeat' first
    | with_reducible refine reg_a ?_
    | simp []
  rintro E ⟨z0, z1, z2, z3⟩
  refine if_take ⟨[], noArrs ver⟩ (fun E => E 0 = pksAV true true l ∧ E 1 = intsAV true a ∧ E 2 = intsAV true b ∧ E 3 = .v (.string n)) ?_ ?_
  · repeat' first
    | with_reducible refine reg_a ?_
    | simp [z0, z1, z2, z3, g0]
  rintro E ⟨z0, z1, z2, z3⟩
  repeat' first
    | with_reducible refine reg_a ?_
    | simp [z0, z1, z2, z3]

set_option maxHeartbeats 16000000 in
set_option maxRecDepth 10000 in
theorem l_nmsof1 (l : List Pk) (hl : BigP l) (hls : StrP l) (a : List Int) (ha : BigI a) (b : List Int) (hb : BigI b) (n : ByteArray) (g0 : ¬ (1048576 : Int) < (a.length : Int)) (g1 : (1048576 : Int) < (b.length : Int)) :
    Pure Tryz.prog 10 [pksAV true true l, intsAV true a, intsAV true b, .v (.string n)] (.v (.bool true)) := by
  obtain ⟨hl1, hl2⟩ := hl.len
  have ha3 : a.length ≤ 4611686018427387904 := by unfold BigI at ha; omega
  have hb3 : b.length ≤ 4611686018427387904 := by unfold BigI at hb; omega
  refine top_of_code (G := Gt) verst mixed0 Tryz.func10 rfl (by decide) (by simp [Tryz.f10]) (by simp) fun ver => ?_
  simp only [Tryz.f10, Gt]
  refine seq_step ⟨[], noArrs ver⟩ (fun E => E 0 = pksAV true true l ∧ E 1 = intsAV true a ∧ E 2 = intsAV true b ∧ E 3 = .v (.string n)) ?_ ?_
  · repeat' first
    | with_reducible refine reg_a ?_
    | simp []
  rintro E ⟨z0, z1, z2, z3⟩
  refine if_skip ⟨[], noArrs ver⟩ (fun E => E 0 = pksAV true true l ∧ E 1 = intsAV true a ∧ E 2 = intsAV true b ∧ E 3 = .v (.string n)) ?_ ?_
  · repeat' first
    | with_reducible refine reg_a ?_
    | simp [z0, z1, z2, z3, g0]
  rintro E ⟨z0, z1, z2, z3⟩
  refine if_take ⟨[], noArrs ver⟩ (fun E => E 0 = pksAV true true l ∧ E 1 = intsAV true a ∧ E 2 = intsAV true b ∧ E 3 = .v (.string n)) ?_ ?_
  · repeat' first
    | with_reducible refine reg_a ?_
    | simp [z0, z1, z2, z3, g1]
  rintro E ⟨z0, z1, z2, z3⟩
  repeat' first
    | with_reducible refine reg_a ?_
    | simp [z0, z1, z2, z3]

set_option maxHeartbeats 16000000 in
set_option maxRecDepth 10000 in
theorem l_nmsof2 (l : List Pk) (hl : BigP l) (hls : StrP l) (a : List Int) (ha : BigI a) (b : List Int) (hb : BigI b) (n : ByteArray) (g0 : ¬ (1048576 : Int) < (a.length : Int)) (g1 : ¬ (1048576 : Int) < (b.length : Int)) (g2 : (1048576 : Int) < (n.size : Int)) :
    Pure Tryz.prog 10 [pksAV true true l, intsAV true a, intsAV true b, .v (.string n)] (.v (.bool true)) := by
  obtain ⟨hl1, hl2⟩ := hl.len
  have ha3 : a.length ≤ 4611686018427387904 := by unfold BigI at ha; omega
  have hb3 : b.length ≤ 4611686018427387904 := by unfold BigI at hb; omega
  refine top_of_code (G := Gt) verst mixed0 Tryz.func10 rfl (by decide) (by simp [Tryz.f10]) (by simp) fun ver => ?_
  simp only [Tryz.f10, Gt]
  refine seq_step ⟨[], noArrs ver⟩ (fun E => E 0 = pksAV true true l ∧ E 1 = intsAV true a ∧ E 2 = intsAV true b ∧ E 3 = .v (.string n)) ?_ ?_
  · repeat' first
    | with_reducible refine reg_a ?_
    | simp []
  rintro E ⟨z0, z1, z2, z3⟩
  refine if_skip ⟨[], noArrs ver⟩ (fun E => E 0 = pksAV true true l ∧ E 1 = intsAV true a ∧ E 2 = intsAV true b ∧ E 3 = .v (.string n)) ?_ ?_
  · repeat' first
    | with_reducible refine reg_a ?_
    | simp [z0, z1, z2, z3, g0]
  rintro E ⟨z0, z1, z2, z3⟩
  refine if_skip ⟨[], noArrs ver⟩ (fun E => E 0 = pksAV true true l ∧ E 1 = intsAV true a ∧ E 2 = intsAV true b ∧ E 3 = .v (.string n)) ?_ ?_
  · repeat' first
    | with_reducible refine reg_a ?_
    | simp [z0, z1, z2, z3, g1]
  rintro E ⟨z0, z1, z2, z3⟩
  refine if_take ⟨[], noArrs ver⟩ (fun E => E 0 = pksAV true true l ∧ E 1 = intsAV true a ∧ E 2 = intsAV true b ∧ E 3 = .v (.string n)) ?_ ?_
  · repeat' first
    | with_reducible refine reg_a ?_
    | simp [z0, z1, z2, z3, g2]
  rintro E ⟨z0, z1, z2, z3⟩
  repeat' first
    | with_reducible refine reg_a ?_
    | simp [z0, z1, z2, z3]

set_option maxHeartbeats 16000000 in
set_option maxRecDepth 10000 in
theorem l_nmsof3 (l : List Pk) (hl : BigP l) (hls : StrP l) (a : List Int) (ha : BigI a) (b : List Int) (hb : BigI b) (n : ByteArray) (g0 : ¬ (1048576 : Int) < (a.length : Int)) (g1 : ¬ (1048576 : Int) < (b.length : Int)) (g2 : ¬ (1048576 : Int) < (n.size : Int)) (g3 : sz_pks l 1048576 < 0) :
    Pure Tryz.prog 10 [pksAV true true l, intsAV true a, intsAV true b, .v (.string n)] (.v (.bool true)) := by
  obtain ⟨hl1, hl2⟩ := hl.len
  have ha3 : a.length ≤ 4611686018427387904 := by unfold BigI at ha; omega
  have hb3 : b.length ≤ 4611686018427387904 := by unfold BigI at hb; omega
  refine top_of_code (G := Gt) verst mixed0 Tryz.func10 rfl (by decide) (by simp [Tryz.f10]) (by simp) fun ver => ?_
  simp only [Tryz.f10, Gt]
  refine seq_step ⟨[], noArrs ver⟩ (fun E => E 0 = pksAV true true l ∧ E 1 = intsAV true a ∧ E 2 = intsAV true b ∧ E 3 = .v (.string n)) ?_ ?_
  · repeat' first
    | with_reducible refine reg_a ?_
    | simp []
  rintro E ⟨z0, z1, z2, z3⟩
  refine if_skip ⟨[], noArrs ver⟩ (fun E => E 0 = pksAV true true l ∧ E 1 = intsAV true a ∧ E 2 = intsAV true b ∧ E 3 = .v (.string n)) ?_ ?_
  · repeat' first
    | with_reducible refine reg_a ?_
    | simp [z0, z1, z2, z3, g0]
  rintro E ⟨z0, z1, z2, z3⟩
  refine if_skip ⟨[], noArrs ver⟩ (fun E => E 0 = pksAV true true l ∧ E 1 = intsAV true a ∧ E 2 = intsAV true b ∧ E 3 = .v (.string n)) ?_ ?_
  · repeat' first
    | with_reducible refine reg_a ?_
    | simp [z0, z1, z2, z3, g1]
  rintro E ⟨z0, z1, z2, z3⟩
  refine if_skip ⟨[], noArrs ver⟩ (fun E => E 0 = pksAV true true l ∧ E 1 = intsAV true a ∧ E 2 = intsAV true b ∧ E 3 = .v (.string n)) ?_ ?_
  · repeat' first
    | with_reducible refine reg_a ?_
    | simp [z0, z1, z2, z3, g2]
  rintro E ⟨z0, z1, z2, z3⟩
  refine seq_step ⟨[], noArrs ver⟩ (fun E => E 0 = pksAV true true l ∧ E 1 = intsAV true a ∧ E 2 = intsAV true b ∧ E 3 = .v (.string n) ∧ E 9 = .v (.int .i64 1048576)) ?_ ?_
  · repeat' first
    | with_reducible refine reg_a ?_
    | simp [z0, z1, z2, z3]
  rintro E ⟨z0, z1, z2, z3, z9⟩
  refine seq_step ⟨[], noArrs ver⟩ (fun E => E 0 = pksAV true true l ∧ E 1 = intsAV true a ∧ E 2 = intsAV true b ∧ E 3 = .v (.string n) ∧ E 9 = .v (.int .i64 (sz_pks l 1048576))) ?_ ?_
  · repeat' first
    | with_reducible refine reg_a ?_
    | with_reducible refine call_p (z_pks true l hl _) (by simp) ?_
    | simp [z0, z1, z2, z3, z9]
  rintro E ⟨z0, z1, z2, z3, z9⟩
  refine if_take ⟨[], noArrs ver⟩ (fun E => E 0 = pksAV true true l ∧ E 1 = intsAV true a ∧ E 2 = intsAV true b ∧ E 3 = .v (.string n)) ?_ ?_
  · repeat' first
    | with_reducible refine reg_a ?_
    | simp [z0, z1, z2, z3, z9, g3]
  rintro E ⟨z0, z1, z2, z3⟩
  repeat' first
    | with_reducible refine reg_a ?_
    | simp [z0, z1, z2, z3]

set_option maxHeartbeats 16000000 in
set_option maxRecDepth 10000 in
theorem l_nmsofA (l : List Pk) (hl : BigP l) (hls : StrP l) (a : List Int) (ha : BigI a) (b : List Int) (hb : BigI b) (n : ByteArray) (g0 : ¬ (1048576 : Int) < (a.length : Int)) (g1 : ¬ (1048576 : Int) < (b.length : Int)) (g2 : ¬ (1048576 : Int) < (n.size : Int)) (g3 : ¬ sz_pks l 1048576 < 0) (h : nmF l a b n ≠ 0) :
    Pure Tryz.prog 10 [pksAV true true l, intsAV true a, intsAV true b, .v (.string n)] (.v (.bool true)) := by
  obtain ⟨hl1, hl2⟩ := hl.len
  have ha3 : a.length ≤ 4611686018427387904 := by unfold BigI at ha; omega
  have hb3 : b.length ≤ 4611686018427387904 := by unfold BigI at hb; omega
  have hmk := (sz_pks_le hl hls (by decide) (by decide) g3).1
  have hsz := (sz_pks_le hl hls (by decide) (by decide) g3).2
  have hq : ¬ 1 + (mkPs l : Int) + (a.length : Int) + (b.length : Int) < 0 := by omega
  have hP := p_namesOf false false l hl1 hl2 a b ha3 hb3 n
  have hQ := q_namesOfA false false l hl1 hl2 a b ha3 hb3 n h
  rw [show nmN l a b n = [] by simp [nmN, h]] at hP
  obtain ⟨k, hk⟩ : ∃ k, k = nmF l a b n := ⟨_, rfl⟩
  rw [← hk] at hP hQ
  clear hk h
  simp only [List.map_nil] at hP
  have hE : ∀ c d : Bool, Pure Tryz.prog 53 [.agg [.v (.int .i64 k), .sl c []], .agg [.v (.int .i64 k), .sl d []]] (.v (.bool true)) := fun c d => by simpa using e_names c d [] (by simp) k
  have hq1 : ¬ (1 : Int) < 0 := by omega
  refine top_of_code (G := Gt) verst mixed0 Tryz.func10 rfl (by decide) (by simp [Tryz.f10]) (by simp) fun ver => ?_
  simp only [Tryz.f10, Gt]
  refine seq_step ⟨[], noArrs ver⟩ (fun E => E 0 = pksAV true true l ∧ E 1 = intsAV true a ∧ E 2 = intsAV true b ∧ E 3 = .v (.string n)) ?_ ?_
  · repeat' first
    | with_reducible refine reg_a ?_
    | simp []
  rintro E ⟨z0, z1, z2, z3⟩
  refine if_skip ⟨[], noArrs ver⟩ (fun E => E 0 = pksAV true true l ∧ E 1 = intsAV true a ∧ E 2 = intsAV true b ∧ E 3 = .v (.string n)) ?_ ?_
  · repeat' first
    | with_reducible refine reg_a ?_
    | simp [z0, z1, z2, z3, g0]
  rintro E ⟨z0, z1, z2, z3⟩
  refine if_skip ⟨[], noArrs ver⟩ (fun E => E 0 = pksAV true true l ∧ E 1 = intsAV true a ∧ E 2 = intsAV true b ∧ E 3 = .v (.string n)) ?_ ?_
  · repeat' first
    | with_reducible refine reg_a ?_
    | simp [z0, z1, z2, z3, g1]
  rintro E ⟨z0, z1, z2, z3⟩
  refine if_skip ⟨[], noArrs ver⟩ (fun E => E 0 = pksAV true true l ∧ E 1 = intsAV true a ∧ E 2 = intsAV true b ∧ E 3 = .v (.string n)) ?_ ?_
  · repeat' first
    | with_reducible refine reg_a ?_
    | simp [z0, z1, z2, z3, g2]
  rintro E ⟨z0, z1, z2, z3⟩
  refine seq_step ⟨[], noArrs ver⟩ (fun E => E 0 = pksAV true true l ∧ E 1 = intsAV true a ∧ E 2 = intsAV true b ∧ E 3 = .v (.string n) ∧ E 9 = .v (.int .i64 1048576)) ?_ ?_
  · repeat' first
    | with_reducible refine reg_a ?_
    | simp [z0, z1, z2, z3]
  rintro E ⟨z0, z1, z2, z3, z9⟩
  refine seq_step ⟨[], noArrs ver⟩ (fun E => E 0 = pksAV true true l ∧ E 1 = intsAV true a ∧ E 2 = intsAV true b ∧ E 3 = .v (.string n) ∧ E 9 = .v (.int .i64 (sz_pks l 1048576))) ?_ ?_
  · repeat' first
    | with_reducible refine reg_a ?_
    | with_reducible refine call_p (z_pks true l hl _) (by simp) ?_
    | simp [z0, z1, z2, z3, z9]
  rintro E ⟨z0, z1, z2, z3, z9⟩
  refine if_skip ⟨[], noArrs ver⟩ (fun E => E 0 = pksAV true true l ∧ E 1 = intsAV true a ∧ E 2 = intsAV true b ∧ E 3 = .v (.string n)) ?_ ?_
  · repeat' first
    | with_reducible refine reg_a ?_
    | simp [z0, z1, z2, z3, z9, g3]
  rintro E ⟨z0, z1, z2, z3⟩
  refine seq_step ⟨[[.v (.int .i64 k), .sl false []]], noArrs ver⟩ (fun E => E 0 = pksAV true true l ∧ E 1 = intsAV true a ∧ E 2 = intsAV true b ∧ E 3 = .v (.string n) ∧ E 10 = .box 0 0) ?_ ?_
  · repeat' first
    | with_reducible refine reg_a ?_
    | with_reducible refine call_p (t_pks true l hl) (by simp) ?_
    | with_reducible refine call_p (t_ints true a ha) (by simp) ?_
    | with_reducible refine call_p (t_ints true b hb) (by simp) ?_
    | with_reducible refine call_p (hP) (by simp) ?_
    | simp [z0, z1, z2, z3]
  rintro E ⟨z0, z1, z2, z3, z10⟩
  refine seq_step ⟨[[.v (.int .i64 k), .sl true []]], noArrs ver⟩ (fun E => E 0 = pksAV true true l ∧ E 1 = intsAV true a ∧ E 2 = intsAV true b ∧ E 3 = .v (.string n) ∧ E 10 = .box 0 0 ∧ E 11 = pksAV false false l) ?_ ?_
  · simp [z0, z1, z2, z3, z10]
    refine reg_ok 0 [(0, pksAV true true l), (1, intsAV true a), (2, intsAV true b), (3, .v (.string n)), (10, .box 0 0)] [[.v (.int .i64 k), .sl false []]] [[.v (.int .i64 k), .sl true []]] (by simp) (by intro i; simp) (by simp) (by simp [OldsK_cons, OldsK_nil, z0, z1, z2, z3, z10]) (by simp [OldsB, OldsR]) ?_
    repeat' first
    | with_reducible refine call_p (t_pks true l hl) (by simp) ?_
    | simp [z0, z1, z2, z3, z10]
  rintro E ⟨z0, z1, z2, z3, z10, z11⟩
  refine seq_step ⟨[[.v (.int .i64 k), .sl true []]], noArrs ver⟩ (fun E => E 0 = pksAV true true l ∧ E 1 = intsAV true a ∧ E 2 = intsAV true b ∧ E 3 = .v (.string n) ∧ E 10 = .box 0 0 ∧ E 11 = pksAV false false l ∧ E 12 = intsAV false a) ?_ ?_
  · repeat' first
    | with_reducible refine reg_a ?_
    | with_reducible refine call_p (t_ints true a ha) (by simp) ?_
    | simp [z0, z1, z2, z3, z10, z11]
  rintro E ⟨z0, z1, z2, z3, z10, z11, z12⟩
  refine seq_step ⟨[[.v (.int .i64 k), .sl true []]], noArrs ver⟩ (fun E => E 0 = pksAV true true l ∧ E 1 = intsAV true a ∧ E 2 = intsAV true b ∧ E 3 = .v (.string n) ∧ E 10 = .box 0 0 ∧ E 11 = pksAV false false l ∧ E 12 = intsAV false a ∧ E 13 = intsAV false b) ?_ ?_
  · repeat' first
    | with_reducible refine reg_a ?_
    | with_reducible refine call_p (t_ints true b hb) (by simp) ?_
    | simp [z0, z1, z2, z3, z10, z11, z12]
  rintro E ⟨z0, z1, z2, z3, z10, z11, z12, z13⟩
  refine seq_step ⟨[[.v (.int .i64 k), .sl true []], [.v (.int .i64 k), .sl false []]], noArrs ver⟩ (fun E => E 0 = pksAV true true l ∧ E 1 = intsAV true a ∧ E 2 = intsAV true b ∧ E 3 = .v (.string n) ∧ E 10 = .box 0 0 ∧ E 11 = pksAV false false l ∧ E 12 = intsAV false a ∧ E 13 = intsAV false b ∧ E 14 = .box 1 0) ?_ ?_
  · repeat' first
    | with_reducible refine reg_a ?_
    | with_reducible refine call_p (hQ) (by simp) ?_
    | simp [z0, z1, z2, z3, z10, z11, z12, z13]
  rintro E ⟨z0, z1, z2, z3, z10, z11, z12, z13, z14⟩
  refine if_skip ⟨[[.v (.int .i64 k), .sl true []], [.v (.int .i64 k), .sl false []]], noArrs ver⟩ (fun E => E 0 = pksAV true true l ∧ E 1 = intsAV true a ∧ E 2 = intsAV true b ∧ E 3 = .v (.string n) ∧ E 10 = .box 0 0 ∧ E 11 = pksAV false false l ∧ E 12 = intsAV false a ∧ E 13 = intsAV false b ∧ E 14 = .box 1 0) ?_ ?_
  · repeat' first
    | with_reducible refine reg_a ?_
    | with_reducible refine call_p (hE _ _) (by simp) ?_
    | simp [z0, z1, z2, z3, z10, z11, z12, z13, z14]
  rintro E ⟨z0, z1, z2, z3, z10, z11, z12, z13, z14⟩
  refine if_skip ⟨[[.v (.int .i64 k), .sl true []], [.v (.int .i64 k), .sl false []]], noArrs ver⟩ (fun E => E 0 = pksAV true true l ∧ E 1 = intsAV true a ∧ E 2 = intsAV true b ∧ E 3 = .v (.string n) ∧ E 10 = .box 0 0 ∧ E 11 = pksAV false false l ∧ E 12 = intsAV false a ∧ E 13 = intsAV false b ∧ E 14 = .box 1 0) ?_ ?_
  · repeat' first
    | with_reducible refine reg_a ?_
    | with_reducible refine call_p (t_pks true l hl) (by simp) ?_
    | with_reducible refine call_p (e_pks false false l hl1 hl2) (by simp) ?_
    | simp [z0, z1, z2, z3, z10, z11, z12, z13, z14]
  rintro E ⟨z0, z1, z2, z3, z10, z11, z12, z13, z14⟩
  refine if_skip ⟨[[.v (.int .i64 k), .sl true []], [.v (.int .i64 k), .sl false []]], noArrs ver⟩ (fun E => E 0 = pksAV true true l ∧ E 1 = intsAV true a ∧ E 2 = intsAV true b ∧ E 3 = .v (.string n) ∧ E 10 = .box 0 0 ∧ E 11 = pksAV false false l ∧ E 12 = intsAV false a ∧ E 13 = intsAV false b ∧ E 14 = .box 1 0) ?_ ?_
  · repeat' first
    | with_reducible refine reg_a ?_
    | with_reducible refine call_p (t_ints true a ha) (by simp) ?_
    | with_reducible refine call_p (e_ints false false a ha3) (by simp) ?_
    | with_reducible refine call_p (e_ints false false b hb3) (by simp) ?_
    | simp [z0, z1, z2, z3, z10, z11, z12, z13, z14]
  rintro E ⟨z0, z1, z2, z3, z10, z11, z12, z13, z14⟩
  refine if_skip ⟨[[.v (.int .i64 k), .sl true []], [.v (.int .i64 k), .sl false []]], noArrs ver⟩ (fun E => E 0 = pksAV true true l ∧ E 1 = intsAV true a ∧ E 2 = intsAV true b ∧ E 3 = .v (.string n) ∧ E 10 = .box 0 0 ∧ E 11 = pksAV false false l ∧ E 12 = intsAV false a ∧ E 13 = intsAV false b ∧ E 14 = .box 1 0) ?_ ?_
  · repeat' first
    | with_reducible refine reg_a ?_
    | with_reducible refine call_p (t_ints true b hb) (by simp) ?_
    | with_reducible refine call_p (e_ints false false a ha3) (by simp) ?_
    | with_reducible refine call_p (e_ints false false b hb3) (by simp) ?_
    | simp [z0, z1, z2, z3, z10, z11, z12, z13, z14]
  rintro E ⟨z0, z1, z2, z3, z10, z11, z12, z13, z14⟩
  refine seq_step ⟨[[.v (.int .i64 k), .sl true []], [.v (.int .i64 k), .sl false []]], noArrs ver⟩ (fun E => E 0 = pksAV true true l ∧ E 1 = intsAV true a ∧ E 2 = intsAV true b ∧ E 3 = .v (.string n) ∧ E 10 = .box 0 0 ∧ E 11 = pksAV false false l ∧ E 12 = intsAV false a ∧ E 13 = intsAV false b ∧ E 14 = .box 1 0 ∧ E 15 = .v (.int .i64 1)) ?_ ?_
  · repeat' first
    | with_reducible refine reg_a ?_
    | simp [z0, z1, z2, z3, z10, z11, z12, z13, z14]
  rintro E ⟨z0, z1, z2, z3, z10, z11, z12, z13, z14, z15⟩
  refine seq_step ⟨[[.v (.int .i64 k), .sl true []], [.v (.int .i64 k), .sl false []]], noArrs ver⟩ (fun E => E 0 = pksAV true true l ∧ E 1 = intsAV true a ∧ E 2 = intsAV true b ∧ E 3 = .v (.string n) ∧ E 10 = .box 0 0 ∧ E 12 = wintsAV a ∧ E 13 = wintsAV b ∧ E 14 = .box 1 0 ∧ E 15 = .v (.int .i64 (1 + (mkPs l : Int)))) ?_ ?_
  · simp [z0, z1, z2, z3, z10, z11, z12, z13, z14, z15]
    refine reg_k 2 ?_
    simp [z0, z1, z2, z3, z10, z11, z12, z13, z14, z15]
    refine mark_b 0 [(0, pksAV true true l), (1, intsAV true a), (2, intsAV true b), (3, .v (.string n)), (10, .box 0 0), (12, wintsAV a), (13, wintsAV b), (14, .box 1 0)] [[.v (.int .i64 k), .sl true []], [.v (.int .i64 k), .sl false []]] [[.v (.int .i64 k), .sl true []], [.v (.int .i64 k), .sl false []]] (by simp) (w_pks l hl2 hl1 (1) (by omega) (by omega)) (by simp [WArgL]) (by simp) (by simp [StayB, StayR]) (by intro i; simp) (by simp) (by simp [WKeep_cons, WKeep_nil, z0, z1, z2, z3, z10, z11, z12, z13, z14, z15]) ?_
    repeat' first
    | simp [z0, z1, z2, z3, z10, z11, z12, z13, z14, z15]
  rintro E ⟨z0, z1, z2, z3, z10, z12, z13, z14, z15⟩
  refine seq_step ⟨[[.v (.int .i64 k), .sl true []], [.v (.int .i64 k), .sl false []]], noArrs ver⟩ (fun E => E 0 = pksAV true true l ∧ E 1 = intsAV true a ∧ E 2 = intsAV true b ∧ E 3 = .v (.string n) ∧ E 10 = .box 0 0 ∧ E 13 = wintsAV b ∧ E 14 = .box 1 0 ∧ E 15 = .v (.int .i64 (1 + (mkPs l : Int) + (a.length : Int)))) ?_ ?_
  · simp [z0, z1, z2, z3, z10, z12, z13, z14, z15]
    refine reg_k 2 ?_
    simp [z0, z1, z2, z3, z10, z12, z13, z14, z15]
    refine mark_b 0 [(0, pksAV true true l), (1, intsAV true a), (2, intsAV true b), (3, .v (.string n)), (10, .box 0 0), (13, wintsAV b), (14, .box 1 0)] [[.v (.int .i64 k), .sl true []], [.v (.int .i64 k), .sl false []]] [[.v (.int .i64 k), .sl true []], [.v (.int .i64 k), .sl false []]] (by simp) (w_ints a (1 + (mkPs l : Int)) (by omega) (by omega)) (by simp [WArgL]) (by simp) (by simp [StayB, StayR]) (by intro i; simp) (by simp) (by simp [WKeep_cons, WKeep_nil, z0, z1, z2, z3, z10, z12, z13, z14, z15]) ?_
    repeat' first
    | simp [z0, z1, z2, z3, z10, z12, z13, z14, z15]
  rintro E ⟨z0, z1, z2, z3, z10, z13, z14, z15⟩
  refine seq_step ⟨[[.v (.int .i64 k), .sl true []], [.v (.int .i64 k), .sl false []]], noArrs ver⟩ (fun E => E 0 = pksAV true true l ∧ E 1 = intsAV true a ∧ E 2 = intsAV true b ∧ E 3 = .v (.string n) ∧ E 10 = .box 0 0 ∧ E 14 = .box 1 0 ∧ E 15 = .v (.int .i64 (1 + (mkPs l : Int) + (a.length : Int) + (b.length : Int)))) ?_ ?_
  · simp [z0, z1, z2, z3, z10, z13, z14, z15]
    refine reg_k 2 ?_
    simp [z0, z1, z2, z3, z10, z13, z14, z15]
    refine mark_b 0 [(0, pksAV true true l), (1, intsAV true a), (2, intsAV true b), (3, .v (.string n)), (10, .box 0 0), (14, .box 1 0)] [[.v (.int .i64 k), .sl true []], [.v (.int .i64 k), .sl false []]] [[.v (.int .i64 k), .sl true []], [.v (.int .i64 k), .sl false []]] (by simp) (w_ints b (1 + (mkPs l : Int) + (a.length : Int)) (by omega) (by omega)) (by simp [WArgL]) (by simp) (by simp [StayB, StayR]) (by intro i; simp) (by simp) (by simp [WKeep_cons, WKeep_nil, z0, z1, z2, z3, z10, z13, z14, z15]) ?_
    repeat' first
    | simp [z0, z1, z2, z3, z10, z13, z14, z15]
  rintro E ⟨z0, z1, z2, z3, z10, z14, z15⟩
  refine if_skip ⟨[[.v (.int .i64 k), .sl true []], [.v (.int .i64 k), .sl false []]], noArrs ver⟩ (fun E => E 0 = pksAV true true l ∧ E 1 = intsAV true a ∧ E 2 = intsAV true b ∧ E 3 = .v (.string n) ∧ E 10 = .box 0 0 ∧ E 14 = .box 1 0) ?_ ?_
  · repeat' first
    | with_reducible refine reg_a ?_
    | with_reducible refine call_p (hE _ _) (by simp) ?_
    | simp [z0, z1, z2, z3, z10, z14, z15, hq]
  rintro E ⟨z0, z1, z2, z3, z10, z14⟩
  refine seq_step ⟨[[.v (.int .i64 k), .sl true []], [.v (.int .i64 k), .sl false []]], noArrs ver⟩ (fun E => E 0 = pksAV true true l ∧ E 1 = intsAV true a ∧ E 2 = intsAV true b ∧ E 3 = .v (.string n) ∧ E 10 = .box 0 0 ∧ E 14 = .box 1 0 ∧ E 16 = .v (.int .i64 1)) ?_ ?_
  · repeat' first
    | with_reducible refine reg_a ?_
    | simp [z0, z1, z2, z3, z10, z14]
  rintro E ⟨z0, z1, z2, z3, z10, z14, z16⟩
  refine seq_step ⟨[[.v (.int .i64 k), .sl true []], [.v (.int .i64 k), .sl false []]], noArrs ver⟩ (fun E => E 0 = pksAV true true l ∧ E 1 = intsAV true a ∧ E 2 = intsAV true b ∧ E 3 = .v (.string n) ∧ E 10 = .box 0 0 ∧ E 14 = .box 1 0 ∧ E 16 = .v (.int .i64 1)) ?_ ?_
  · repeat' first
    | with_reducible refine reg_a ?_
    | with_reducible refine call_p (p_markNames0 false 1 k) (by simp) ?_
    | simp [z0, z1, z2, z3, z10, z14, z16]
  rintro E ⟨z0, z1, z2, z3, z10, z14, z16⟩
  refine seq_step ⟨[[.v (.int .i64 k), .sl true []], [.v (.int .i64 k), .sl false []]], noArrs ver⟩ (fun E => E 0 = pksAV true true l ∧ E 1 = intsAV true a ∧ E 2 = intsAV true b ∧ E 3 = .v (.string n) ∧ E 10 = .box 0 0 ∧ E 14 = .box 1 0 ∧ E 16 = .v (.int .i64 1) ∧ E 17 = .v (.int .i64 1)) ?_ ?_
  · repeat' first
    | with_reducible refine reg_a ?_
    | simp [z0, z1, z2, z3, z10, z14, z16]
  rintro E ⟨z0, z1, z2, z3, z10, z14, z16, z17⟩
  refine seq_step ⟨[[.v (.int .i64 k), .sl true []], [.v (.int .i64 k), .sl false []]], noArrs ver⟩ (fun E => E 0 = pksAV true true l ∧ E 1 = intsAV true a ∧ E 2 = intsAV true b ∧ E 3 = .v (.string n) ∧ E 10 = .box 0 0 ∧ E 14 = .box 1 0 ∧ E 16 = .v (.int .i64 1) ∧ E 17 = .v (.int .i64 1)) ?_ ?_
  · repeat' first
    | with_reducible refine reg_a ?_
    | with_reducible refine call_p (p_heldNames0 _ 1 k (by omega) (by omega)) (by simp) ?_
    | simp [z0, z1, z2, z3, z10, z14, z16, z17]
  rintro E ⟨z0, z1, z2, z3, z10, z14, z16, z17⟩
  refine if_skip ⟨[[.v (.int .i64 k), .sl true []], [.v (.int .i64 k), .sl false []]], noArrs ver⟩ (fun E => E 0 = pksAV true true l ∧ E 1 = intsAV true a ∧ E 2 = intsAV true b ∧ E 3 = .v (.string n) ∧ E 10 = .box 0 0 ∧ E 14 = .box 1 0 ∧ E 16 = .v (.int .i64 1) ∧ E 17 = .v (.int .i64 1)) ?_ ?_
  · repeat' first
    | with_reducible refine reg_a ?_
    | simp [z0, z1, z2, z3, z10, z14, z16, z17, hq1]
  rintro E ⟨z0, z1, z2, z3, z10, z14, z16, z17⟩
  refine if_skip ⟨[[.v (.int .i64 k), .sl true []], [.v (.int .i64 k), .sl false []]], noArrs ver⟩ (fun E => E 0 = pksAV true true l ∧ E 1 = intsAV true a ∧ E 2 = intsAV true b ∧ E 3 = .v (.string n) ∧ E 10 = .box 0 0 ∧ E 14 = .box 1 0 ∧ E 16 = .v (.int .i64 1)) ?_ ?_
  · repeat' first
    | with_reducible refine reg_a ?_
    | simp [z0, z1, z2, z3, z10, z14, z16, z17]
  rintro E ⟨z0, z1, z2, z3, z10, z14, z16⟩
  refine seq_step ⟨[[.v (.int .i64 k), .sl true []], [.v (.int .i64 k), .sl false []], [.v (.int .i64 k), .sl false []]], noArrs ver⟩ (fun E => E 10 = .box 0 0 ∧ E 14 = .box 1 0 ∧ E 16 = .v (.int .i64 1) ∧ E 18 = .box 2 0) ?_ ?_
  · repeat' first
    | with_reducible refine reg_a ?_
    | with_reducible refine call_p (t_pks true l hl) (by simp) ?_
    | with_reducible refine call_p (t_ints true a ha) (by simp) ?_
    | with_reducible refine call_p (t_ints true b hb) (by simp) ?_
    | with_reducible refine call_p (hQ) (by simp) ?_
    | simp [z0, z1, z2, z3, z10, z14, z16]
  rintro E ⟨z10, z14, z16, z18⟩
  refine if_skip ⟨[[.v (.int .i64 k), .sl true []], [.v (.int .i64 k), .sl false []], [.v (.int .i64 k), .sl false []]], noArrs ver⟩ (fun E => E 14 = .box 1 0 ∧ E 16 = .v (.int .i64 1)) ?_ ?_
  · repeat' first
    | with_reducible refine reg_a ?_
    | with_reducible refine call_p (hE _ _) (by simp) ?_
    | simp [z10, z14, z16, z18]
  rintro E ⟨z14, z16⟩
  refine seq_step ⟨[[.v (.int .i64 k), .sl true []], [.v (.int .i64 k), .sl false []], [.v (.int .i64 k), .sl false []]], noArrs ver⟩ (fun E => E 14 = .box 1 0 ∧ E 16 = .v (.int .i64 1) ∧ E 17 = .v (.int .i64 1)) ?_ ?_
  · repeat' first
    | with_reducible refine reg_a ?_
    | simp [z14, z16]
  rintro E ⟨z14, z16, z17⟩
  refine seq_step ⟨[[.v (.int .i64 k), .sl true []], [.v (.int .i64 k), .sl false []], [.v (.int .i64 k), .sl false []]], noArrs ver⟩ (fun E => E 16 = .v (.int .i64 1) ∧ E 17 = .v (.int .i64 1)) ?_ ?_
  · repeat' first
    | with_reducible refine reg_a ?_
    | with_reducible refine call_p (p_heldNames0 _ 1 k (by omega) (by omega)) (by simp) ?_
    | simp [z14, z16, z17]
  rintro E ⟨z16, z17⟩
  refine if_skip ⟨[[.v (.int .i64 k), .sl true []], [.v (.int .i64 k), .sl false []], [.v (.int .i64 k), .sl false []]], noArrs ver⟩ (fun E => E 16 = .v (.int .i64 1) ∧ E 17 = .v (.int .i64 1)) ?_ ?_
  · repeat' first
    | with_reducible refine reg_a ?_
    | simp [z16, z17, hq1]
  rintro E ⟨z16, z17⟩
  refine if_skip ⟨[[.v (.int .i64 k), .sl true []], [.v (.int .i64 k), .sl false []], [.v (.int .i64 k), .sl false []]], noArrs ver⟩ (fun _ => True) ?_ ?_
  · repeat' first
    | with_reducible refine reg_a ?_
    | simp [z16, z17]
  rintro E _
  refine seq_step ⟨[[.v (.int .i64 k), .sl true []], [.v (.int .i64 k), .sl false []], [.v (.int .i64 k), .sl false []]], noArrs ver⟩ (fun E => E 8 = .v (.bool true)) ?_ ?_
  · repeat' first
    | with_reducible refine reg_a ?_
    | simp []
  rintro E z8
  simp [z8]

set_option maxHeartbeats 16000000 in
set_option maxRecDepth 10000 in
theorem l_nmsofB (l : List Pk) (hl : BigP l) (hls : StrP l) (a : List Int) (ha : BigI a) (b : List Int) (hb : BigI b) (n : ByteArray) (g0 : ¬ (1048576 : Int) < (a.length : Int)) (g1 : ¬ (1048576 : Int) < (b.length : Int)) (g2 : ¬ (1048576 : Int) < (n.size : Int)) (g3 : ¬ sz_pks l 1048576 < 0) (h : nmF l a b n = 0) :
    Pure Tryz.prog 10 [pksAV true true l, intsAV true a, intsAV true b, .v (.string n)] (.v (.bool true)) := by
  obtain ⟨hl1, hl2⟩ := hl.len
  have ha3 : a.length ≤ 4611686018427387904 := by unfold BigI at ha; omega
  have hb3 : b.length ≤ 4611686018427387904 := by unfold BigI at hb; omega
  have hmk := (sz_pks_le hl hls (by decide) (by decide) g3).1
  have hsz := (sz_pks_le hl hls (by decide) (by decide) g3).2
  have hq : ¬ 1 + (mkPs l : Int) + (a.length : Int) + (b.length : Int) < 0 := by omega
  have hP := p_namesOf false false l hl1 hl2 a b ha3 hb3 n
  have hQ := q_namesOfB false false l hl1 hl2 a b ha3 hb3 n h
  rw [show nmN l a b n = nmsL l a b n by simp [nmN, h], h] at hP
  have hln : (nmsL l a b n).length ≤ 9 := by
    obtain ⟨g1, g2, g3, g4, g5, g6⟩ := delta_facts (nmF_ok h).1
    exact nmsL_len g1 g3 g4 n
  obtain ⟨F, hF⟩ : ∃ F, F = nmsL l a b n := ⟨_, rfl⟩
  rw [← hF] at hP hQ hln
  have htk : List.take F.length (List.map strCells (mstrs 1 F.length)) = List.map strCells (mstrs 1 F.length) := List.take_of_length_le (by simp)
  have hQ2 : Pure Tryz.prog 59 [pksAV false false l, intsAV false a, intsAV false b, .v (.string n)] (.agg [.v (.int .i64 0), .sl false (F.map strCells)]) := by
    have := OCall.pure hQ (by simp) (by simp)
    simpa using this
  have hq2 : ¬ 1 + (F.length : Int) < 0 := by omega
  clear h hF
  refine top_of_code (G := Gt) verst mixed0 Tryz.func10 rfl (by decide) (by simp [Tryz.f10]) (by simp) fun ver => ?_
  simp only [Tryz.f10, Gt]
  refine seq_step ⟨[], noArrs ver⟩ (fun E => E 0 = pksAV true true l ∧ E 1 = intsAV true a ∧ E 2 = intsAV true b ∧ E 3 = .v (.string n)) ?_ ?_
  · repeat' first
    | with_reducible refine reg_a ?_
    | simp []
  rintro E ⟨z0, z1, z2, z3⟩
  refine if_skip ⟨[], noArrs ver⟩ (fun E => E 0 = pksAV true true l ∧ E 1 = intsAV true a ∧ E 2 = intsAV true b ∧ E 3 = .v (.string n)) ?_ ?_
  · repeat' first
    | with_reducible refine reg_a ?_
    | simp [z0, z1, z2, z3, g0]
  rintro E ⟨z0, z1, z2, z3⟩
  refine if_skip ⟨[], noArrs ver⟩ (fun E => E 0 = pksAV true true l ∧ E 1 = intsAV true a ∧ E 2 = intsAV true b ∧ E 3 = .v (.string n)) ?_ ?_
  · repeat' first
    | with_reducible refine reg_a ?_
    | simp [z0, z1, z2, z3, g1]
  rintro E ⟨z0, z1, z2, z3⟩
  refine if_skip ⟨[], noArrs ver⟩ (fun E => E 0 = pksAV true true l ∧ E 1 = intsAV true a ∧ E 2 = intsAV true b ∧ E 3 = .v (.string n)) ?_ ?_
  · repeat' first
    | with_reducible refine reg_a ?_
    | simp [z0, z1, z2, z3, g2]
  rintro E ⟨z0, z1, z2, z3⟩
  refine seq_step ⟨[], noArrs ver⟩ (fun E => E 0 = pksAV true true l ∧ E 1 = intsAV true a ∧ E 2 = intsAV true b ∧ E 3 = .v (.string n) ∧ E 9 = .v (.int .i64 1048576)) ?_ ?_
  · repeat' first
    | with_reducible refine reg_a ?_
    | simp [z0, z1, z2, z3]
  rintro E ⟨z0, z1, z2, z3, z9⟩
  refine seq_step ⟨[], noArrs ver⟩ (fun E => E 0 = pksAV true true l ∧ E 1 = intsAV true a ∧ E 2 = intsAV true b ∧ E 3 = .v (.string n) ∧ E 9 = .v (.int .i64 (sz_pks l 1048576))) ?_ ?_
  · repeat' first
    | with_reducible refine reg_a ?_
    | with_reducible refine call_p (z_pks true l hl _) (by simp) ?_
    | simp [z0, z1, z2, z3, z9]
  rintro E ⟨z0, z1, z2, z3, z9⟩
  refine if_skip ⟨[], noArrs ver⟩ (fun E => E 0 = pksAV true true l ∧ E 1 = intsAV true a ∧ E 2 = intsAV true b ∧ E 3 = .v (.string n)) ?_ ?_
  · repeat' first
    | with_reducible refine reg_a ?_
    | simp [z0, z1, z2, z3, z9, g3]
  rintro E ⟨z0, z1, z2, z3⟩
  refine seq_step ⟨[[.v (.int .i64 0), .sl false (F.map strCells)]], noArrs ver⟩ (fun E => E 0 = pksAV true true l ∧ E 1 = intsAV true a ∧ E 2 = intsAV true b ∧ E 3 = .v (.string n) ∧ E 10 = .box 0 0) ?_ ?_
  · repeat' first
    | with_reducible refine reg_a ?_
    | with_reducible refine call_p (t_pks true l hl) (by simp) ?_
    | with_reducible refine call_p (t_ints true a ha) (by simp) ?_
    | with_reducible refine call_p (t_ints true b hb) (by simp) ?_
    | with_reducible refine call_p (hP) (by simp) ?_
    | simp [z0, z1, z2, z3]
  rintro E ⟨z0, z1, z2, z3, z10⟩
  refine seq_step ⟨[[.v (.int .i64 0), .sl true (F.map strCells)]], noArrs ver⟩ (fun E => E 0 = pksAV true true l ∧ E 1 = intsAV true a ∧ E 2 = intsAV true b ∧ E 3 = .v (.string n) ∧ E 10 = .box 0 0 ∧ E 11 = pksAV false false l) ?_ ?_
  · simp [z0, z1, z2, z3, z10]
    refine reg_ok 0 [(0, pksAV true true l), (1, intsAV true a), (2, intsAV true b), (3, .v (.string n)), (10, .box 0 0)] [[.v (.int .i64 0), .sl false (F.map strCells)]] [[.v (.int .i64 0), .sl true (F.map strCells)]] (by simp) (by intro i; simp) (by simp) (by simp [OldsK_cons, OldsK_nil, z0, z1, z2, z3, z10]) (by simp [OldsB, OldsR]) ?_
    repeat' first
    | with_reducible refine call_p (t_pks true l hl) (by simp) ?_
    | simp [z0, z1, z2, z3, z10]
  rintro E ⟨z0, z1, z2, z3, z10, z11⟩
  refine seq_step ⟨[[.v (.int .i64 0), .sl true (F.map strCells)]], noArrs ver⟩ (fun E => E 0 = pksAV true true l ∧ E 1 = intsAV true a ∧ E 2 = intsAV true b ∧ E 3 = .v (.string n) ∧ E 10 = .box 0 0 ∧ E 11 = pksAV false false l ∧ E 12 = intsAV false a) ?_ ?_
  · repeat' first
    | with_reducible refine reg_a ?_
    | with_reducible refine call_p (t_ints true a ha) (by simp) ?_
    | simp [z0, z1, z2, z3, z10, z11]
  rintro E ⟨z0, z1, z2, z3, z10, z11, z12⟩
  refine seq_step ⟨[[.v (.int .i64 0), .sl true (F.map strCells)]], noArrs ver⟩ (fun E => E 0 = pksAV true true l ∧ E 1 = intsAV true a ∧ E 2 = intsAV true b ∧ E 3 = .v (.string n) ∧ E 10 = .box 0 0 ∧ E 11 = pksAV false false l ∧ E 12 = intsAV false a ∧ E 13 = intsAV false b) ?_ ?_
  · repeat' first
    | with_reducible refine reg_a ?_
    | with_reducible refine call_p (t_ints true b hb) (by simp) ?_
    | simp [z0, z1, z2, z3, z10, z11, z12]
  rintro E ⟨z0, z1, z2, z3, z10, z11, z12, z13⟩
  refine seq_step ⟨[[.v (.int .i64 0), .sl true (F.map strCells)], [.v (.int .i64 0), .arr 51 (ver 51 + 1) 0 F.length]], arrW 51 (ver 51 + 1) 9 (F.map strCells) ver⟩ (fun E => E 0 = pksAV true true l ∧ E 1 = intsAV true a ∧ E 2 = intsAV true b ∧ E 3 = .v (.string n) ∧ E 10 = .box 0 0 ∧ E 11 = pksAV false false l ∧ E 12 = intsAV false a ∧ E 13 = intsAV false b ∧ E 14 = .box 1 0) ?_ ?_
  · repeat' first
    | with_reducible refine reg_a ?_
    | with_reducible refine call_n 51 hQ (by simp) ?_
    | simp [z0, z1, z2, z3, z10, z11, z12, z13, noArrs_put]
  rintro E ⟨z0, z1, z2, z3, z10, z11, z12, z13, z14⟩
  refine if_skip ⟨[[.v (.int .i64 0), .sl true (F.map strCells)], [.v (.int .i64 0), .arr 51 (ver 51 + 1) 0 F.length]], arrW 51 (ver 51 + 1) 9 (F.map strCells) ver⟩ (fun E => E 0 = pksAV true true l ∧ E 1 = intsAV true a ∧ E 2 = intsAV true b ∧ E 3 = .v (.string n) ∧ E 10 = .box 0 0 ∧ E 11 = pksAV false false l ∧ E 12 = intsAV false a ∧ E 13 = intsAV false b ∧ E 14 = .box 1 0) ?_ ?_
  · repeat' first
    | with_reducible refine reg_a ?_
    | with_reducible refine call_p (e_names true true F (by omega) 0) (by simp) ?_
    | with_reducible refine call_p (e_names false true F (by omega) 0) (by simp) ?_
    | simp [z0, z1, z2, z3, z10, z11, z12, z13, z14]
  rintro E ⟨z0, z1, z2, z3, z10, z11, z12, z13, z14⟩
  refine if_skip ⟨[[.v (.int .i64 0), .sl true (F.map strCells)], [.v (.int .i64 0), .arr 51 (ver 51 + 1) 0 F.length]], arrW 51 (ver 51 + 1) 9 (F.map strCells) ver⟩ (fun E => E 0 = pksAV true true l ∧ E 1 = intsAV true a ∧ E 2 = intsAV true b ∧ E 3 = .v (.string n) ∧ E 10 = .box 0 0 ∧ E 11 = pksAV false false l ∧ E 12 = intsAV false a ∧ E 13 = intsAV false b ∧ E 14 = .box 1 0) ?_ ?_
  · repeat' first
    | with_reducible refine reg_a ?_
    | with_reducible refine call_p (t_pks true l hl) (by simp) ?_
    | with_reducible refine call_p (e_pks false false l hl1 hl2) (by simp) ?_
    | simp [z0, z1, z2, z3, z10, z11, z12, z13, z14]
  rintro E ⟨z0, z1, z2, z3, z10, z11, z12, z13, z14⟩
  refine if_skip ⟨[[.v (.int .i64 0), .sl true (F.map strCells)], [.v (.int .i64 0), .arr 51 (ver 51 + 1) 0 F.length]], arrW 51 (ver 51 + 1) 9 (F.map strCells) ver⟩ (fun E => E 0 = pksAV true true l ∧ E 1 = intsAV true a ∧ E 2 = intsAV true b ∧ E 3 = .v (.string n) ∧ E 10 = .box 0 0 ∧ E 11 = pksAV false false l ∧ E 12 = intsAV false a ∧ E 13 = intsAV false b ∧ E 14 = .box 1 0) ?_ ?_
  · repeat' first
    | with_reducible refine reg_a ?_
    | with_reducible refine call_p (t_ints true a ha) (by simp) ?_
    | with_reducible refine call_p (e_ints false false a ha3) (by simp) ?_
    | with_reducible refine call_p (e_ints false false b hb3) (by simp) ?_
    | simp [z0, z1, z2, z3, z10, z11, z12, z13, z14]
  rintro E ⟨z0, z1, z2, z3, z10, z11, z12, z13, z14⟩
  refine if_skip ⟨[[.v (.int .i64 0), .sl true (F.map strCells)], [.v (.int .i64 0), .arr 51 (ver 51 + 1) 0 F.length]], arrW 51 (ver 51 + 1) 9 (F.map strCells) ver⟩ (fun E => E 0 = pksAV true true l ∧ E 1 = intsAV true a ∧ E 2 = intsAV true b ∧ E 3 = .v (.string n) ∧ E 10 = .box 0 0 ∧ E 11 = pksAV false false l ∧ E 12 = intsAV false a ∧ E 13 = intsAV false b ∧ E 14 = .box 1 0) ?_ ?_
  · repeat' first
    | with_reducible refine reg_a ?_
    | with_reducible refine call_p (t_ints true b hb) (by simp) ?_
    | with_reducible refine call_p (e_ints false false a ha3) (by simp) ?_
    | with_reducible refine call_p (e_ints false false b hb3) (by simp) ?_
    | simp [z0, z1, z2, z3, z10, z11, z12, z13, z14]
  rintro E ⟨z0, z1, z2, z3, z10, z11, z12, z13, z14⟩
  refine seq_step ⟨[[.v (.int .i64 0), .sl true (F.map strCells)], [.v (.int .i64 0), .arr 51 (ver 51 + 1) 0 F.length]], arrW 51 (ver 51 + 1) 9 (F.map strCells) ver⟩ (fun E => E 0 = pksAV true true l ∧ E 1 = intsAV true a ∧ E 2 = intsAV true b ∧ E 3 = .v (.string n) ∧ E 10 = .box 0 0 ∧ E 11 = pksAV false false l ∧ E 12 = intsAV false a ∧ E 13 = intsAV false b ∧ E 14 = .box 1 0 ∧ E 15 = .v (.int .i64 1)) ?_ ?_
  · repeat' first
    | with_reducible refine reg_a ?_
    | simp [z0, z1, z2, z3, z10, z11, z12, z13, z14]
  rintro E ⟨z0, z1, z2, z3, z10, z11, z12, z13, z14, z15⟩
  refine seq_step ⟨[[.v (.int .i64 0), .sl true (F.map strCells)], [.v (.int .i64 0), .arr 51 (ver 51 + 1) 0 F.length]], arrW 51 (ver 51 + 1) 9 (F.map strCells) ver⟩ (fun E => E 0 = pksAV true true l ∧ E 1 = intsAV true a ∧ E 2 = intsAV true b ∧ E 3 = .v (.string n) ∧ E 10 = .box 0 0 ∧ E 12 = wintsAV a ∧ E 13 = wintsAV b ∧ E 14 = .box 1 0 ∧ E 15 = .v (.int .i64 (1 + (mkPs l : Int)))) ?_ ?_
  · simp [z0, z1, z2, z3, z10, z11, z12, z13, z14, z15]
    refine reg_k 2 ?_
    simp [z0, z1, z2, z3, z10, z11, z12, z13, z14, z15]
    refine mark_b 0 [(0, pksAV true true l), (1, intsAV true a), (2, intsAV true b), (3, .v (.string n)), (10, .box 0 0), (12, wintsAV a), (13, wintsAV b), (14, .box 1 0)] [[.v (.int .i64 0), .sl true (F.map strCells)], [.v (.int .i64 0), .arr 51 (ver 51 + 1) 0 F.length]] [[.v (.int .i64 0), .sl true (F.map strCells)], [.v (.int .i64 0), .arr 51 (ver 51 + 1) 0 F.length]] (by simp) (w_pks l hl2 hl1 (1) (by omega) (by omega)) (by simp [WArgL]) (by simp) (by simp [StayB, StayR]) (arrW_stay (stayr_map F stayc_str)) (by simp) (by simp [WKeep_cons, WKeep_nil, z0, z1, z2, z3, z10, z11, z12, z13, z14, z15]) ?_
    repeat' first
    | simp [z0, z1, z2, z3, z10, z11, z12, z13, z14, z15]
  rintro E ⟨z0, z1, z2, z3, z10, z12, z13, z14, z15⟩
  refine seq_step ⟨[[.v (.int .i64 0), .sl true (F.map strCells)], [.v (.int .i64 0), .arr 51 (ver 51 + 1) 0 F.length]], arrW 51 (ver 51 + 1) 9 (F.map strCells) ver⟩ (fun E => E 0 = pksAV true true l ∧ E 1 = intsAV true a ∧ E 2 = intsAV true b ∧ E 3 = .v (.string n) ∧ E 10 = .box 0 0 ∧ E 13 = wintsAV b ∧ E 14 = .box 1 0 ∧ E 15 = .v (.int .i64 (1 + (mkPs l : Int) + (a.length : Int)))) ?_ ?_
  · simp [z0, z1, z2, z3, z10, z12, z13, z14, z15]
    refine reg_k 2 ?_
    simp [z0, z1, z2, z3, z10, z12, z13, z14, z15]
    refine mark_b 0 [(0, pksAV true true l), (1, intsAV true a), (2, intsAV true b), (3, .v (.string n)), (10, .box 0 0), (13, wintsAV b), (14, .box 1 0)] [[.v (.int .i64 0), .sl true (F.map strCells)], [.v (.int .i64 0), .arr 51 (ver 51 + 1) 0 F.length]] [[.v (.int .i64 0), .sl true (F.map strCells)], [.v (.int .i64 0), .arr 51 (ver 51 + 1) 0 F.length]] (by simp) (w_ints a (1 + (mkPs l : Int)) (by omega) (by omega)) (by simp [WArgL]) (by simp) (by simp [StayB, StayR]) (arrW_stay (stayr_map F stayc_str)) (by simp) (by simp [WKeep_cons, WKeep_nil, z0, z1, z2, z3, z10, z12, z13, z14, z15]) ?_
    repeat' first
    | simp [z0, z1, z2, z3, z10, z12, z13, z14, z15]
  rintro E ⟨z0, z1, z2, z3, z10, z13, z14, z15⟩
  refine seq_step ⟨[[.v (.int .i64 0), .sl true (F.map strCells)], [.v (.int .i64 0), .arr 51 (ver 51 + 1) 0 F.length]], arrW 51 (ver 51 + 1) 9 (F.map strCells) ver⟩ (fun E => E 0 = pksAV true true l ∧ E 1 = intsAV true a ∧ E 2 = intsAV true b ∧ E 3 = .v (.string n) ∧ E 10 = .box 0 0 ∧ E 14 = .box 1 0 ∧ E 15 = .v (.int .i64 (1 + (mkPs l : Int) + (a.length : Int) + (b.length : Int)))) ?_ ?_
  · simp [z0, z1, z2, z3, z10, z13, z14, z15]
    refine reg_k 2 ?_
    simp [z0, z1, z2, z3, z10, z13, z14, z15]
    refine mark_b 0 [(0, pksAV true true l), (1, intsAV true a), (2, intsAV true b), (3, .v (.string n)), (10, .box 0 0), (14, .box 1 0)] [[.v (.int .i64 0), .sl true (F.map strCells)], [.v (.int .i64 0), .arr 51 (ver 51 + 1) 0 F.length]] [[.v (.int .i64 0), .sl true (F.map strCells)], [.v (.int .i64 0), .arr 51 (ver 51 + 1) 0 F.length]] (by simp) (w_ints b (1 + (mkPs l : Int) + (a.length : Int)) (by omega) (by omega)) (by simp [WArgL]) (by simp) (by simp [StayB, StayR]) (arrW_stay (stayr_map F stayc_str)) (by simp) (by simp [WKeep_cons, WKeep_nil, z0, z1, z2, z3, z10, z13, z14, z15]) ?_
    repeat' first
    | simp [z0, z1, z2, z3, z10, z13, z14, z15]
  rintro E ⟨z0, z1, z2, z3, z10, z14, z15⟩
  refine if_skip ⟨[[.v (.int .i64 0), .sl true (F.map strCells)], [.v (.int .i64 0), .arr 51 (ver 51 + 1) 0 F.length]], arrW 51 (ver 51 + 1) 9 (F.map strCells) ver⟩ (fun E => E 0 = pksAV true true l ∧ E 1 = intsAV true a ∧ E 2 = intsAV true b ∧ E 3 = .v (.string n) ∧ E 10 = .box 0 0 ∧ E 14 = .box 1 0) ?_ ?_
  · repeat' first
    | with_reducible refine reg_a ?_
    | with_reducible refine call_p (e_names true true F (by omega) 0) (by simp) ?_
    | with_reducible refine call_p (e_names false true F (by omega) 0) (by simp) ?_
    | simp [z0, z1, z2, z3, z10, z14, z15, hq]
  rintro E ⟨z0, z1, z2, z3, z10, z14⟩
  refine seq_step ⟨[[.v (.int .i64 0), .sl true (F.map strCells)], [.v (.int .i64 0), .arr 51 (ver 51 + 1) 0 F.length]], arrW 51 (ver 51 + 1) 9 (F.map strCells) ver⟩ (fun E => E 0 = pksAV true true l ∧ E 1 = intsAV true a ∧ E 2 = intsAV true b ∧ E 3 = .v (.string n) ∧ E 10 = .box 0 0 ∧ E 14 = .box 1 0 ∧ E 16 = .v (.int .i64 1)) ?_ ?_
  · repeat' first
    | with_reducible refine reg_a ?_
    | simp [z0, z1, z2, z3, z10, z14]
  rintro E ⟨z0, z1, z2, z3, z10, z14, z16⟩
  refine seq_step ⟨[[.v (.int .i64 0), .sl true (F.map strCells)], [.v (.int .i64 0), .arr 51 (ver 51 + 1) 0 F.length]], arrW 51 (ver 51 + 1) 9 ((mstrs 1 F.length).map strCells) ver⟩ (fun E => E 0 = pksAV true true l ∧ E 1 = intsAV true a ∧ E 2 = intsAV true b ∧ E 3 = .v (.string n) ∧ E 10 = .box 0 0 ∧ E 14 = .box 1 0 ∧ E 16 = .v (.int .i64 (1 + (F.length : Int)))) ?_ ?_
  · repeat' first
    | with_reducible refine reg_a ?_
    | with_reducible refine call_s 51 (ver 51 + 1) 9 (F.map strCells) (by simp) (o_markNames F 1 0 (by omega) (by omega)) (by simp) (by simp) (fr_str _) ?_
    | simp [z0, z1, z2, z3, z10, z14, z16, arrW_put]
  rintro E ⟨z0, z1, z2, z3, z10, z14, z16⟩
  refine seq_step ⟨[[.v (.int .i64 0), .sl true (F.map strCells)], [.v (.int .i64 0), .arr 51 (ver 51 + 1) 0 F.length]], arrW 51 (ver 51 + 1) 9 ((mstrs 1 F.length).map strCells) ver⟩ (fun E => E 0 = pksAV true true l ∧ E 1 = intsAV true a ∧ E 2 = intsAV true b ∧ E 3 = .v (.string n) ∧ E 10 = .box 0 0 ∧ E 14 = .box 1 0 ∧ E 16 = .v (.int .i64 (1 + (F.length : Int))) ∧ E 17 = .v (.int .i64 1)) ?_ ?_
  · repeat' first
    | with_reducible refine reg_a ?_
    | simp [z0, z1, z2, z3, z10, z14, z16]
  rintro E ⟨z0, z1, z2, z3, z10, z14, z16, z17⟩
  refine seq_step ⟨[[.v (.int .i64 0), .sl true (F.map strCells)], [.v (.int .i64 0), .arr 51 (ver 51 + 1) 0 F.length]], arrW 51 (ver 51 + 1) 9 ((mstrs 1 F.length).map strCells) ver⟩ (fun E => E 0 = pksAV true true l ∧ E 1 = intsAV true a ∧ E 2 = intsAV true b ∧ E 3 = .v (.string n) ∧ E 10 = .box 0 0 ∧ E 14 = .box 1 0 ∧ E 16 = .v (.int .i64 (1 + (F.length : Int))) ∧ E 17 = .v (.int .i64 (1 + (F.length : Int)))) ?_ ?_
  · repeat' first
    | with_reducible refine reg_a ?_
    | with_reducible refine call_p (p_heldNames true F.length 1 0 (by omega) (by omega)) (by simp) ?_
    | simp [z0, z1, z2, z3, z10, z14, z16, z17, htk]
  rintro E ⟨z0, z1, z2, z3, z10, z14, z16, z17⟩
  refine if_skip ⟨[[.v (.int .i64 0), .sl true (F.map strCells)], [.v (.int .i64 0), .arr 51 (ver 51 + 1) 0 F.length]], arrW 51 (ver 51 + 1) 9 ((mstrs 1 F.length).map strCells) ver⟩ (fun E => E 0 = pksAV true true l ∧ E 1 = intsAV true a ∧ E 2 = intsAV true b ∧ E 3 = .v (.string n) ∧ E 10 = .box 0 0 ∧ E 14 = .box 1 0 ∧ E 16 = .v (.int .i64 (1 + (F.length : Int))) ∧ E 17 = .v (.int .i64 (1 + (F.length : Int)))) ?_ ?_
  · repeat' first
    | with_reducible refine reg_a ?_
    | simp [z0, z1, z2, z3, z10, z14, z16, z17, hq2]
  rintro E ⟨z0, z1, z2, z3, z10, z14, z16, z17⟩
  refine if_skip ⟨[[.v (.int .i64 0), .sl true (F.map strCells)], [.v (.int .i64 0), .arr 51 (ver 51 + 1) 0 F.length]], arrW 51 (ver 51 + 1) 9 ((mstrs 1 F.length).map strCells) ver⟩ (fun E => E 0 = pksAV true true l ∧ E 1 = intsAV true a ∧ E 2 = intsAV true b ∧ E 3 = .v (.string n) ∧ E 10 = .box 0 0 ∧ E 14 = .box 1 0 ∧ E 16 = .v (.int .i64 (1 + (F.length : Int)))) ?_ ?_
  · repeat' first
    | with_reducible refine reg_a ?_
    | simp [z0, z1, z2, z3, z10, z14, z16, z17]
  rintro E ⟨z0, z1, z2, z3, z10, z14, z16⟩
  refine seq_step ⟨[[.v (.int .i64 0), .sl true (F.map strCells)], [.v (.int .i64 0), .arr 51 (ver 51 + 1) 0 F.length], [.v (.int .i64 0), .sl false (F.map strCells)]], arrW 51 (ver 51 + 1) 9 ((mstrs 1 F.length).map strCells) ver⟩ (fun E => E 10 = .box 0 0 ∧ E 14 = .box 1 0 ∧ E 16 = .v (.int .i64 (1 + (F.length : Int))) ∧ E 18 = .box 2 0) ?_ ?_
  · repeat' first
    | with_reducible refine reg_a ?_
    | with_reducible refine call_p (t_pks true l hl) (by simp) ?_
    | with_reducible refine call_p (t_ints true a ha) (by simp) ?_
    | with_reducible refine call_p (t_ints true b hb) (by simp) ?_
    | with_reducible refine call_p (hQ2) (by simp) ?_
    | simp [z0, z1, z2, z3, z10, z14, z16]
  rintro E ⟨z10, z14, z16, z18⟩
  refine if_skip ⟨[[.v (.int .i64 0), .sl true (F.map strCells)], [.v (.int .i64 0), .arr 51 (ver 51 + 1) 0 F.length], [.v (.int .i64 0), .sl false (F.map strCells)]], arrW 51 (ver 51 + 1) 9 ((mstrs 1 F.length).map strCells) ver⟩ (fun E => E 14 = .box 1 0 ∧ E 16 = .v (.int .i64 (1 + (F.length : Int)))) ?_ ?_
  · repeat' first
    | with_reducible refine reg_a ?_
    | with_reducible refine call_p (e_names true true F (by omega) 0) (by simp) ?_
    | with_reducible refine call_p (e_names false true F (by omega) 0) (by simp) ?_
    | simp [z10, z14, z16, z18]
  rintro E ⟨z14, z16⟩
  refine seq_step ⟨[[.v (.int .i64 0), .sl true (F.map strCells)], [.v (.int .i64 0), .arr 51 (ver 51 + 1) 0 F.length], [.v (.int .i64 0), .sl false (F.map strCells)]], arrW 51 (ver 51 + 1) 9 ((mstrs 1 F.length).map strCells) ver⟩ (fun E => E 14 = .box 1 0 ∧ E 16 = .v (.int .i64 (1 + (F.length : Int))) ∧ E 17 = .v (.int .i64 1)) ?_ ?_
  · repeat' first
    | with_reducible refine reg_a ?_
    | simp [z14, z16]
  rintro E ⟨z14, z16, z17⟩
  refine seq_step ⟨[[.v (.int .i64 0), .sl true (F.map strCells)], [.v (.int .i64 0), .arr 51 (ver 51 + 1) 0 F.length], [.v (.int .i64 0), .sl false (F.map strCells)]], arrW 51 (ver 51 + 1) 9 ((mstrs 1 F.length).map strCells) ver⟩ (fun E => E 16 = .v (.int .i64 (1 + (F.length : Int))) ∧ E 17 = .v (.int .i64 (1 + (F.length : Int)))) ?_ ?_
  · repeat' first
    | with_reducible refine reg_a ?_
    | with_reducible refine call_p (p_heldNames true F.length 1 0 (by omega) (by omega)) (by simp) ?_
    | simp [z14, z16, z17, htk]
  rintro E ⟨z16, z17⟩
  refine if_skip ⟨[[.v (.int .i64 0), .sl true (F.map strCells)], [.v (.int .i64 0), .arr 51 (ver 51 + 1) 0 F.length], [.v (.int .i64 0), .sl false (F.map strCells)]], arrW 51 (ver 51 + 1) 9 ((mstrs 1 F.length).map strCells) ver⟩ (fun E => E 16 = .v (.int .i64 (1 + (F.length : Int))) ∧ E 17 = .v (.int .i64 (1 + (F.length : Int)))) ?_ ?_
  · repeat' first
    | with_reducible refine reg_a ?_
    | simp [z16, z17, hq2]
  rintro E ⟨z16, z17⟩
  refine if_skip ⟨[[.v (.int .i64 0), .sl true (F.map strCells)], [.v (.int .i64 0), .arr 51 (ver 51 + 1) 0 F.length], [.v (.int .i64 0), .sl false (F.map strCells)]], arrW 51 (ver 51 + 1) 9 ((mstrs 1 F.length).map strCells) ver⟩ (fun _ => True) ?_ ?_
  · repeat' first
    | with_reducible refine reg_a ?_
    | simp [z16, z17]
  rintro E _
  refine seq_step ⟨[[.v (.int .i64 0), .sl true (F.map strCells)], [.v (.int .i64 0), .arr 51 (ver 51 + 1) 0 F.length], [.v (.int .i64 0), .sl false (F.map strCells)]], arrW 51 (ver 51 + 1) 9 ((mstrs 1 F.length).map strCells) ver⟩ (fun E => E 8 = .v (.bool true)) ?_ ?_
  · repeat' first
    | with_reducible refine reg_a ?_
    | simp []
  rintro E z8
  simp [z8]

theorem l_nmsof (l : List Pk) (hl : BigP l) (hls : StrP l) (a : List Int) (ha : BigI a) (b : List Int) (hb : BigI b) (n : ByteArray) :
    Pure Tryz.prog 10 [pksAV true true l, intsAV true a, intsAV true b, .v (.string n)] (.v (.bool true)) := by
  by_cases g0 : (1048576 : Int) < (a.length : Int)
  · exact l_nmsof0 l hl hls a ha b hb n g0
  by_cases g1 : (1048576 : Int) < (b.length : Int)
  · exact l_nmsof1 l hl hls a ha b hb n g0 g1
  by_cases g2 : (1048576 : Int) < (n.size : Int)
  · exact l_nmsof2 l hl hls a ha b hb n g0 g1 g2
  by_cases g3 : sz_pks l 1048576 < 0
  · exact l_nmsof3 l hl hls a ha b hb n g0 g1 g2 g3
  by_cases h : nmF l a b n = 0
  · exact l_nmsofB l hl hls a ha b hb n g0 g1 g2 g3 h
  · exact l_nmsofA l hl hls a ha b hb n g0 g1 g2 g3 h

end Go.Proofs.YtokhnmchnfkiiaaGreat.Am
