/- The law about names that are joined: what is to be shown of the row's function. No conditions. -/
import Derived.Test.YtokhnmchnfkiiaaGreatAmCg13
import Derived.Test.YtokhnmchnfkiiaaGreatAmCg8
namespace Go.Proofs.YtokhnmchnfkiiaaGreat.Am
open Go Go.RowKit Go.Proofs
set_option linter.unusedSimpArgs false
set_option linter.unusedVariables false

set_option maxHeartbeats 16000000 in
set_option maxRecDepth 10000 in
theorem l_jnd0 (l : List Pk) (hl : BigP l) (hls : StrP l) (a : List Int) (ha : BigI a) (b : List Int) (hb : BigI b) (m : ByteArray) (n : ByteArray) (g0 : (1048576 : Int) < (a.length : Int)) :
    Pure Tryz.prog 9 [pksAV true true l, intsAV true a, intsAV true b, .v (.string m), .v (.string n)] (.v (.bool true)) := by
  obtain ⟨hl1, hl2⟩ := hl.len
  have ha3 : a.length ≤ 4611686018427387904 := by unfold BigI at ha; omega
  have hb3 : b.length ≤ 4611686018427387904 := by unfold BigI at hb; omega
  refine top_of_code (G := Gt) verst mixed0 Tryz.func9 rfl (by decide) (by simp [Tryz.f9]) (by simp) fun ver => ?_
  simp only [Tryz.f9, Gt]
  refine seq_step ⟨[], noArrs ver⟩ (fun E => E 0 = pksAV true true l ∧ E 1 = intsAV true a ∧ E 2 = intsAV true b ∧ E 3 = .v (.string m) ∧ E 4 = .v (.string n)) ?_ ?_
  · repeat' first
    | with_reducible refine reg_a ?_
    | simp []
  rintro E ⟨z0, z1, z2, z3, z4⟩
  refine if_take ⟨[], noArrs ver⟩ (fun E => E 0 = pksAV true true l ∧ E 1 = intsAV true a ∧ E 2 = intsAV true b ∧ E 3 = .v (.string m) ∧ E 4 = .v (.string n)) ?_ ?_
  · repeat' first
    | with_reducible refine reg_a ?_
    | simp [z0, z1, z2, z3, z4, g0]
  rintro E ⟨z0, z1, z2, z3, z4⟩
  repeat' first
    | with_reducible refine reg_a ?_
    | simp [z0, z1, z2, z3, z4]

set_option maxHeartbeats 16000000 in
set_option maxRecDepth 10000 in
theorem l_jnd1 (l : List Pk) (hl : BigP l) (hls : StrP l) (a : List Int) (ha : BigI a) (b : List Int) (hb : BigI b) (m : ByteArray) (n : ByteArray) (g0 : ¬ (1048576 : Int) < (a.length : Int)) (g1 : (1048576 : Int) < (b.length : Int)) :
    Pure Tryz.prog 9 [pksAV true true l, intsAV true a, intsAV true b, .v (.string m), .v (.string n)] (.v (.bool true)) := by
  obtain ⟨hl1, hl2⟩ := hl.len
  have ha3 : a.length ≤ 4611686018427387904 := by unfold BigI at ha; omega
  have hb3 : b.length ≤ 4611686018427387904 := by unfold BigI at hb; omega
  refine top_of_code (G := Gt) verst mixed0 Tryz.func9 rfl (by decide) (by simp [Tryz.f9]) (by simp) fun ver => ?_
  simp only [Tryz.f9, Gt]
  refine seq_step ⟨[], noArrs ver⟩ (fun E => E 0 = pksAV true true l ∧ E 1 = intsAV true a ∧ E 2 = intsAV true b ∧ E 3 = .v (.string m) ∧ E 4 = .v (.string n)) ?_ ?_
  · repeat' first
    | with_reducible refine reg_a ?_
    | simp []
  rintro E ⟨z0, z1, z2, z3, z4⟩
  refine if_skip ⟨[], noArrs ver⟩ (fun E => E 0 = pksAV true true l ∧ E 1 = intsAV true a ∧ E 2 = intsAV true b ∧ E 3 = .v (.string m) ∧ E 4 = .v (.string n)) ?_ ?_
  · repeat' first
    | with_reducible refine reg_a ?_
    | simp [z0, z1, z2, z3, z4, g0]
  rintro E ⟨z0, z1, z2, z3, z4⟩
  refine if_take ⟨[], noArrs ver⟩ (fun E => E 0 = pksAV true true l ∧ E 1 = intsAV true a ∧ E 2 = intsAV true b ∧ E 3 = .v (.string m) ∧ E 4 = .v (.string n)) ?_ ?_
  · repeat' first
    | with_reducible refine reg_a ?_
    | simp [z0, z1, z2, z3, z4, g1]
  rintro E ⟨z0, z1, z2, z3, z4⟩
  repeat' first
    | with_reducible refine reg_a ?_
    | simp [z0, z1, z2, z3, z4]

set_option maxHeartbeats 16000000 in
set_option maxRecDepth 10000 in
theorem l_jnd2 (l : List Pk) (hl : BigP l) (hls : StrP l) (a : List Int) (ha : BigI a) (b : List Int) (hb : BigI b) (m : ByteArray) (n : ByteArray) (g0 : ¬ (1048576 : Int) < (a.length : Int)) (g1 : ¬ (1048576 : Int) < (b.length : Int)) (g2 : (1048576 : Int) < (m.size : Int)) :
    Pure Tryz.prog 9 [pksAV true true l, intsAV true a, intsAV true b, .v (.string m), .v (.string n)] (.v (.bool true)) := by
  obtain ⟨hl1, hl2⟩ := hl.len
  have ha3 : a.length ≤ 4611686018427387904 := by unfold BigI at ha; omega
  have hb3 : b.length ≤ 4611686018427387904 := by unfold BigI at hb; omega
  refine top_of_code (G := Gt) verst mixed0 Tryz.func9 rfl (by decide) (by simp [Tryz.f9]) (by simp) fun ver => ?_
  simp only [Tryz.f9, Gt]
  refine seq_step ⟨[], noArrs ver⟩ (fun E => E 0 = pksAV true true l ∧ E 1 = intsAV true a ∧ E 2 = intsAV true b ∧ E 3 = .v (.string m) ∧ E 4 = .v (.string n)) ?_ ?_
  · repeat' first
    | with_reducible refine reg_a ?_
    | simp []
  rintro E ⟨z0, z1, z2, z3, z4⟩
  refine if_skip ⟨[], noArrs ver⟩ (fun E => E 0 = pksAV true true l ∧ E 1 = intsAV true a ∧ E 2 = intsAV true b ∧ E 3 = .v (.string m) ∧ E 4 = .v (.string n)) ?_ ?_
  · repeat' first
    | with_reducible refine reg_a ?_
    | simp [z0, z1, z2, z3, z4, g0]
  rintro E ⟨z0, z1, z2, z3, z4⟩
  refine if_skip ⟨[], noArrs ver⟩ (fun E => E 0 = pksAV true true l ∧ E 1 = intsAV true a ∧ E 2 = intsAV true b ∧ E 3 = .v (.string m) ∧ E 4 = .v (.string n)) ?_ ?_
  · repeat' first
    | with_reducible refine reg_a ?_
    | simp [z0, z1, z2, z3, z4, g1]
  rintro E ⟨z0, z1, z2, z3, z4⟩
  refine if_take ⟨[], noArrs ver⟩ (fun E => E 0 = pksAV true true l ∧ E 1 = intsAV true a ∧ E 2 = intsAV true b ∧ E 3 = .v (.string m) ∧ E 4 = .v (.string n)) ?_ ?_
  · repeat' first
    | with_reducible refine reg_a ?_
    | simp [z0, z1, z2, z3, z4, g2]
  rintro E ⟨z0, z1, z2, z3, z4⟩
  repeat' first
    | with_reducible refine reg_a ?_
    | simp [z0, z1, z2, z3, z4]

set_option maxHeartbeats 16000000 in
set_option maxRecDepth 10000 in
theorem l_jnd3 (l : List Pk) (hl : BigP l) (hls : StrP l) (a : List Int) (ha : BigI a) (b : List Int) (hb : BigI b) (m : ByteArray) (n : ByteArray) (g0 : ¬ (1048576 : Int) < (a.length : Int)) (g1 : ¬ (1048576 : Int) < (b.length : Int)) (g2 : ¬ (1048576 : Int) < (m.size : Int)) (g3 : (1048576 : Int) < (n.size : Int)) :
    Pure Tryz.prog 9 [pksAV true true l, intsAV true a, intsAV true b, .v (.string m), .v (.string n)] (.v (.bool true)) := by
  obtain ⟨hl1, hl2⟩ := hl.len
  have ha3 : a.length ≤ 4611686018427387904 := by unfold BigI at ha; omega
  have hb3 : b.length ≤ 4611686018427387904 := by unfold BigI at hb; omega
  refine top_of_code (G := Gt) verst mixed0 Tryz.func9 rfl (by decide) (by simp [Tryz.f9]) (by simp) fun ver => ?_
  simp only [Tryz.f9, Gt]
  refine seq_step ⟨[], noArrs ver⟩ (fun E => E 0 = pksAV true true l ∧ E 1 = intsAV true a ∧ E 2 = intsAV true b ∧ E 3 = .v (.string m) ∧ E 4 = .v (.string n)) ?_ ?_
  · repeat' first
    | with_reducible refine reg_a ?_
    | simp []
  rintro E ⟨z0, z1, z2, z3, z4⟩
  refine if_skip ⟨[], noArrs ver⟩ (fun E => E 0 = pksAV true true l ∧ E 1 = intsAV true a ∧ E 2 = intsAV true b ∧ E 3 = .v (.string m) ∧ E 4 = .v (.string n)) ?_ ?_
  · repeat' first
    | with_reducible refine reg_a ?_
    | simp [z0, z1, z2, z3, z4, g0]
  rintro E ⟨z0, z1, z2, z3, z4⟩
  refine if_skip ⟨[], noArrs ver⟩ (fun E => E 0 = pksAV true true l ∧ E 1 = intsAV true a ∧ E 2 = intsAV true b ∧ E 3 = .v (.string m) ∧ E 4 = .v (.string n)) ?_ ?_
  · repeat' first
    | with_reducible refine reg_a ?_
    | simp [z0, z1, z2, z3, z4, g1]
  rintro E ⟨z0, z1, z2, z3, z4⟩
  refine if_skip ⟨[], noArrs ver⟩ (fun E => E 0 = pksAV true true l ∧ E 1 = intsAV true a ∧ E 2 = intsAV true b ∧ E 3 = .v (.string m) ∧ E 4 = .v (.string n)) ?_ ?_
  · repeat' first
    | with_reducible refine reg_a ?_
    | simp [z0, z1, z2, z3, z4, g2]
  rintro E ⟨z0, z1, z2, z3, z4⟩
  refine if_take ⟨[], noArrs ver⟩ (fun E => E 0 = pksAV true true l ∧ E 1 = intsAV true a ∧ E 2 = intsAV true b ∧ E 3 = .v (.string m) ∧ E 4 = .v (.string n)) ?_ ?_
  · repeat' first
    | with_reducible refine reg_a ?_
    | simp [z0, z1, z2, z3, z4, g3]
  rintro E ⟨z0, z1, z2, z3, z4⟩
  repeat' first
    | with_reducible refine reg_a ?_
    | simp [z0, z1, z2, z3, z4]

set_option maxHeartbeats 16000000 in
set_option maxRecDepth 10000 in
theorem l_jnd4 (l : List Pk) (hl : BigP l) (hls : StrP l) (a : List Int) (ha : BigI a) (b : List Int) (hb : BigI b) (m : ByteArray) (n : ByteArray) (g0 : ¬ (1048576 : Int) < (a.length : Int)) (g1 : ¬ (1048576 : Int) < (b.length : Int)) (g2 : ¬ (1048576 : Int) < (m.size : Int)) (g3 : ¬ (1048576 : Int) < (n.size : Int)) (g4 : sz_pks l 1048576 < 0) :
    Pure Tryz.prog 9 [pksAV true true l, intsAV true a, intsAV true b, .v (.string m), .v (.string n)] (.v (.bool true)) := by
  obtain ⟨hl1, hl2⟩ := hl.len
  have ha3 : a.length ≤ 4611686018427387904 := by unfold BigI at ha; omega
  have hb3 : b.length ≤ 4611686018427387904 := by unfold BigI at hb; omega
  refine top_of_code (G := Gt) verst mixed0 Tryz.func9 rfl (by decide) (by simp [Tryz.f9]) (by simp) fun ver => ?_
  simp only [Tryz.f9, Gt]
  refine seq_step ⟨[], noArrs ver⟩ (fun E => E 0 = pksAV true true l ∧ E 1 = intsAV true a ∧ E 2 = intsAV true b ∧ E 3 = .v (.string m) ∧ E 4 = .v (.string n)) ?_ ?_
  · repeat' first
    | with_reducible refine reg_a ?_
    | simp []
  rintro E ⟨z0, z1, z2, z3, z4⟩
  refine if_skip ⟨[], noArrs ver⟩ (fun E => E 0 = pksAV true true l ∧ E 1 = intsAV true a ∧ E 2 = intsAV true b ∧ E 3 = .v (.string m) ∧ E 4 = .v (.string n)) ?_ ?_
  · repeat' first
    | with_reducible refine reg_a ?_
    | simp [z0, z1, z2, z3, z4, g0]
  rintro E ⟨z0, z1, z2, z3, z4⟩
  refine if_skip ⟨[], noArrs ver⟩ (fun E => E 0 = pksAV true true l ∧ E 1 = intsAV true a ∧ E 2 = intsAV true b ∧ E 3 = .v (.string m) ∧ E 4 = .v (.string n)) ?_ ?_
  · repeat' first
    | with_reducible refine reg_a ?_
    | simp [z0, z1, z2, z3, z4, g1]
  rintro E ⟨z0, z1, z2, z3, z4⟩
  refine if_skip ⟨[], noArrs ver⟩ (fun E => E 0 = pksAV true true l ∧ E 1 = intsAV true a ∧ E 2 = intsAV true b ∧ E 3 = .v (.string m) ∧ E 4 = .v (.string n)) ?_ ?_
  · repeat' first
    | with_reducible refine reg_a ?_
    | simp [z0, z1, z2, z3, z4, g2]
  rintro E ⟨z0, z1, z2, z3, z4⟩
  refine if_skip ⟨[], noArrs ver⟩ (fun E => E 0 = pksAV true true l ∧ E 1 = intsAV true a ∧ E 2 = intsAV true b ∧ E 3 = .v (.string m) ∧ E 4 = .v (.string n)) ?_ ?_
  · repeat' first
    | with_reducible refine reg_a ?_
    | simp [z0, z1, z2, z3, z4, g3]
  rintro E ⟨z0, z1, z2, z3, z4⟩
  refine seq_step ⟨[], noArrs ver⟩ (fun E => E 0 = pksAV true true l ∧ E 1 = intsAV true a ∧ E 2 = intsAV true b ∧ E 3 = .v (.string m) ∧ E 4 = .v (.string n) ∧ E 11 = .v (.int .i64 1048576)) ?_ ?_
  · repeat' first
    | with_reducible refine reg_a ?_
    | simp [z0, z1, z2, z3, z4]
  rintro E ⟨z0, z1, z2, z3, z4, z11⟩
  refine seq_step ⟨[], noArrs ver⟩ (fun E => E 0 = pksAV true true l ∧ E 1 = intsAV true a ∧ E 2 = intsAV true b ∧ E 3 = .v (.string m) ∧ E 4 = .v (.string n) ∧ E 11 = .v (.int .i64 (sz_pks l 1048576))) ?_ ?_
  · repeat' first
    | with_reducible refine reg_a ?_
    | with_reducible refine call_p (z_pks true l hl _) (by simp) ?_
    | simp [z0, z1, z2, z3, z4, z11]
  rintro E ⟨z0, z1, z2, z3, z4, z11⟩
  refine if_take ⟨[], noArrs ver⟩ (fun E => E 0 = pksAV true true l ∧ E 1 = intsAV true a ∧ E 2 = intsAV true b ∧ E 3 = .v (.string m) ∧ E 4 = .v (.string n)) ?_ ?_
  · repeat' first
    | with_reducible refine reg_a ?_
    | simp [z0, z1, z2, z3, z4, z11, g4]
  rintro E ⟨z0, z1, z2, z3, z4⟩
  repeat' first
    | with_reducible refine reg_a ?_
    | simp [z0, z1, z2, z3, z4]

set_option maxHeartbeats 16000000 in
set_option maxRecDepth 10000 in
theorem l_jndA (l : List Pk) (hl : BigP l) (hls : StrP l) (a : List Int) (ha : BigI a) (b : List Int) (hb : BigI b) (m : ByteArray) (n : ByteArray) (g0 : ¬ (1048576 : Int) < (a.length : Int)) (g1 : ¬ (1048576 : Int) < (b.length : Int)) (g2 : ¬ (1048576 : Int) < (m.size : Int)) (g3 : ¬ (1048576 : Int) < (n.size : Int)) (g4 : ¬ sz_pks l 1048576 < 0) :
    Pure Tryz.prog 9 [pksAV true true l, intsAV true a, intsAV true b, .v (.string m), .v (.string n)] (.v (.bool true)) := by
  obtain ⟨hl1, hl2⟩ := hl.len
  have ha3 : a.length ≤ 4611686018427387904 := by unfold BigI at ha; omega
  have hb3 : b.length ≤ 4611686018427387904 := by unfold BigI at hb; omega
  have hP := p_joinedNames false false l hl1 hl2 a b ha3 hb3 m n
  have hQ := q_joinedNames false false l hl1 hl2 a b ha3 hb3 m n
  refine top_of_code (G := Gt) verst mixed0 Tryz.func9 rfl (by decide) (by simp [Tryz.f9]) (by simp) fun ver => ?_
  simp only [Tryz.f9, Gt]
  refine seq_step ⟨[], noArrs ver⟩ (fun E => E 0 = pksAV true true l ∧ E 1 = intsAV true a ∧ E 2 = intsAV true b ∧ E 3 = .v (.string m) ∧ E 4 = .v (.string n)) ?_ ?_
  · repeat' first
    | with_reducible refine reg_a ?_
    | simp []
  rintro E ⟨z0, z1, z2, z3, z4⟩
  refine if_skip ⟨[], noArrs ver⟩ (fun E => E 0 = pksAV true true l ∧ E 1 = intsAV true a ∧ E 2 = intsAV true b ∧ E 3 = .v (.string m) ∧ E 4 = .v (.string n)) ?_ ?_
  · repeat' first
    | with_reducible refine reg_a ?_
    | simp [z0, z1, z2, z3, z4, g0]
  rintro E ⟨z0, z1, z2, z3, z4⟩
  refine if_skip ⟨[], noArrs ver⟩ (fun E => E 0 = pksAV true true l ∧ E 1 = intsAV true a ∧ E 2 = intsAV true b ∧ E 3 = .v (.string m) ∧ E 4 = .v (.string n)) ?_ ?_
  · repeat' first
    | with_reducible refine reg_a ?_
    | simp [z0, z1, z2, z3, z4, g1]
  rintro E ⟨z0, z1, z2, z3, z4⟩
  refine if_skip ⟨[], noArrs ver⟩ (fun E => E 0 = pksAV true true l ∧ E 1 = intsAV true a ∧ E 2 = intsAV true b ∧ E 3 = .v (.string m) ∧ E 4 = .v (.string n)) ?_ ?_
  · repeat' first
    | with_reducible refine reg_a ?_
    | simp [z0, z1, z2, z3, z4, g2]
  rintro E ⟨z0, z1, z2, z3, z4⟩
  refine if_skip ⟨[], noArrs ver⟩ (fun E => E 0 = pksAV true true l ∧ E 1 = intsAV true a ∧ E 2 = intsAV true b ∧ E 3 = .v (.string m) ∧ E 4 = .v (.string n)) ?_ ?_
  · repeat' first
    | with_reducible refine reg_a ?_
    | simp [z0, z1, z2, z3, z4, g3]
  rintro E ⟨z0, z1, z2, z3, z4⟩
  refine seq_step ⟨[], noArrs ver⟩ (fun E => E 0 = pksAV true true l ∧ E 1 = intsAV true a ∧ E 2 = intsAV true b ∧ E 3 = .v (.string m) ∧ E 4 = .v (.string n) ∧ E 11 = .v (.int .i64 1048576)) ?_ ?_
  · repeat' first
    | with_reducible refine reg_a ?_
    | simp [z0, z1, z2, z3, z4]
  rintro E ⟨z0, z1, z2, z3, z4, z11⟩
  refine seq_step ⟨[], noArrs ver⟩ (fun E => E 0 = pksAV true true l ∧ E 1 = intsAV true a ∧ E 2 = intsAV true b ∧ E 3 = .v (.string m) ∧ E 4 = .v (.string n) ∧ E 11 = .v (.int .i64 (sz_pks l 1048576))) ?_ ?_
  · repeat' first
    | with_reducible refine reg_a ?_
    | with_reducible refine call_p (z_pks true l hl _) (by simp) ?_
    | simp [z0, z1, z2, z3, z4, z11]
  rintro E ⟨z0, z1, z2, z3, z4, z11⟩
  refine if_skip ⟨[], noArrs ver⟩ (fun E => E 0 = pksAV true true l ∧ E 1 = intsAV true a ∧ E 2 = intsAV true b ∧ E 3 = .v (.string m) ∧ E 4 = .v (.string n)) ?_ ?_
  · repeat' first
    | with_reducible refine reg_a ?_
    | simp [z0, z1, z2, z3, z4, z11, g4]
  rintro E ⟨z0, z1, z2, z3, z4⟩
  refine seq_step ⟨[], noArrs ver⟩ (fun E => E 0 = pksAV true true l ∧ E 1 = intsAV true a ∧ E 2 = intsAV true b ∧ E 3 = .v (.string m) ∧ E 4 = .v (.string n) ∧ E 12 = .v (.bool (jnF l a b m n))) ?_ ?_
  · repeat' first
    | with_reducible refine reg_a ?_
    | with_reducible refine call_p (t_pks true l hl) (by simp) ?_
    | with_reducible refine call_p (t_ints true a ha) (by simp) ?_
    | with_reducible refine call_p (t_ints true b hb) (by simp) ?_
    | with_reducible refine call_p (hP) (by simp) ?_
    | simp [z0, z1, z2, z3, z4]
  rintro E ⟨z0, z1, z2, z3, z4, z12⟩
  refine seq_step ⟨[], noArrs ver⟩ (fun E => E 0 = pksAV true true l ∧ E 1 = intsAV true a ∧ E 2 = intsAV true b ∧ E 3 = .v (.string m) ∧ E 4 = .v (.string n) ∧ E 12 = .v (.bool (jnF l a b m n)) ∧ E 13 = pksAV false false l) ?_ ?_
  · simp [z0, z1, z2, z3, z4, z12]
    refine reg_ok 0 [(0, pksAV true true l), (1, intsAV true a), (2, intsAV true b), (3, .v (.string m)), (4, .v (.string n)), (12, .v (.bool (jnF l a b m n)))] [] [] (by simp) (by intro i; simp) (by simp) (by simp [OldsK_cons, OldsK_nil, z0, z1, z2, z3, z4, z12]) (by simp [OldsB, OldsR]) ?_
    repeat' first
    | with_reducible refine call_p (t_pks true l hl) (by simp) ?_
    | simp [z0, z1, z2, z3, z4, z12]
  rintro E ⟨z0, z1, z2, z3, z4, z12, z13⟩
  refine seq_step ⟨[], noArrs ver⟩ (fun E => E 0 = pksAV true true l ∧ E 1 = intsAV true a ∧ E 2 = intsAV true b ∧ E 3 = .v (.string m) ∧ E 4 = .v (.string n) ∧ E 12 = .v (.bool (jnF l a b m n)) ∧ E 13 = pksAV false false l ∧ E 14 = intsAV false a) ?_ ?_
  · repeat' first
    | with_reducible refine reg_a ?_
    | with_reducible refine call_p (t_ints true a ha) (by simp) ?_
    | simp [z0, z1, z2, z3, z4, z12, z13]
  rintro E ⟨z0, z1, z2, z3, z4, z12, z13, z14⟩
  refine seq_step ⟨[], noArrs ver⟩ (fun E => E 0 = pksAV true true l ∧ E 1 = intsAV true a ∧ E 2 = intsAV true b ∧ E 3 = .v (.string m) ∧ E 4 = .v (.string n) ∧ E 12 = .v (.bool (jnF l a b m n)) ∧ E 13 = pksAV false false l ∧ E 14 = intsAV false a ∧ E 15 = intsAV false b) ?_ ?_
  · repeat' first
    | with_reducible refine reg_a ?_
    | with_reducible refine call_p (t_ints true b hb) (by simp) ?_
    | simp [z0, z1, z2, z3, z4, z12, z13, z14]
  rintro E ⟨z0, z1, z2, z3, z4, z12, z13, z14, z15⟩
  refine seq_step ⟨[], noArrs ver⟩ (fun E => E 0 = pksAV true true l ∧ E 1 = intsAV true a ∧ E 2 = intsAV true b ∧ E 12 = .v (.bool (jnF l a b m n)) ∧ E 13 = pksAV false false l ∧ E 14 = intsAV false a ∧ E 15 = intsAV false b ∧ E 16 = .v (.bool (jnF l a b m n))) ?_ ?_
  · repeat' first
    | with_reducible refine reg_a ?_
    | with_reducible refine call_p (hQ) (by simp) ?_
    | simp [z0, z1, z2, z3, z4, z12, z13, z14, z15]
  rintro E ⟨z0, z1, z2, z12, z13, z14, z15, z16⟩
  refine if_skip ⟨[], noArrs ver⟩ (fun E => E 0 = pksAV true true l ∧ E 1 = intsAV true a ∧ E 2 = intsAV true b ∧ E 13 = pksAV false false l ∧ E 14 = intsAV false a ∧ E 15 = intsAV false b) ?_ ?_
  · repeat' first
    | with_reducible refine reg_a ?_
    | simp [z0, z1, z2, z12, z13, z14, z15, z16]
  rintro E ⟨z0, z1, z2, z13, z14, z15⟩
  refine if_skip ⟨[], noArrs ver⟩ (fun E => E 1 = intsAV true a ∧ E 2 = intsAV true b ∧ E 14 = intsAV false a ∧ E 15 = intsAV false b) ?_ ?_
  · repeat' first
    | with_reducible refine reg_a ?_
    | with_reducible refine call_p (t_pks true l hl) (by simp) ?_
    | with_reducible refine call_p (e_pks false false l hl1 hl2) (by simp) ?_
    | simp [z0, z1, z2, z13, z14, z15]
  rintro E ⟨z1, z2, z14, z15⟩
  refine if_skip ⟨[], noArrs ver⟩ (fun E => E 2 = intsAV true b ∧ E 15 = intsAV false b) ?_ ?_
  · repeat' first
    | with_reducible refine reg_a ?_
    | with_reducible refine call_p (t_ints true a ha) (by simp) ?_
    | with_reducible refine call_p (e_ints false false a ha3) (by simp) ?_
    | with_reducible refine call_p (e_ints false false b hb3) (by simp) ?_
    | simp [z1, z2, z14, z15]
  rintro E ⟨z2, z15⟩
  refine if_skip ⟨[], noArrs ver⟩ (fun _ => True) ?_ ?_
  · repeat' first
    | with_reducible refine reg_a ?_
    | with_reducible refine call_p (t_ints true b hb) (by simp) ?_
    | with_reducible refine call_p (e_ints false false a ha3) (by simp) ?_
    | with_reducible refine call_p (e_ints false false b hb3) (by simp) ?_
    | simp [z2, z15]
  rintro E _
  refine seq_step ⟨[], noArrs ver⟩ (fun E => E 10 = .v (.bool true)) ?_ ?_
  · repeat' first
    | with_reducible refine reg_a ?_
    | simp []
  rintro E z10
  simp [z10]

theorem l_jnd (l : List Pk) (hl : BigP l) (hls : StrP l) (a : List Int) (ha : BigI a) (b : List Int) (hb : BigI b) (m : ByteArray) (n : ByteArray) :
    Pure Tryz.prog 9 [pksAV true true l, intsAV true a, intsAV true b, .v (.string m), .v (.string n)] (.v (.bool true)) := by
  by_cases g0 : (1048576 : Int) < (a.length : Int)
  · exact l_jnd0 l hl hls a ha b hb m n g0
  by_cases g1 : (1048576 : Int) < (b.length : Int)
  · exact l_jnd1 l hl hls a ha b hb m n g0 g1
  by_cases g2 : (1048576 : Int) < (m.size : Int)
  · exact l_jnd2 l hl hls a ha b hb m n g0 g1 g2
  by_cases g3 : (1048576 : Int) < (n.size : Int)
  · exact l_jnd3 l hl hls a ha b hb m n g0 g1 g2 g3
  by_cases g4 : sz_pks l 1048576 < 0
  · exact l_jnd4 l hl hls a ha b hb m n g0 g1 g2 g3 g4
  exact l_jndA l hl hls a ha b hb m n g0 g1 g2 g3 g4

end Go.Proofs.YtokhnmchnfkiiaaGreat.Am
