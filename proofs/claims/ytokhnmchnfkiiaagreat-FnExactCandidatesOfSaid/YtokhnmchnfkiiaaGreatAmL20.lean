/- The law about the packages that may be chosen: what is to be shown of the row's function. No conditions. -/
import Derived.Test.YtokhnmchnfkiiaaGreatAmCg18
import Derived.Test.YtokhnmchnfkiiaaGreatAmCg8
namespace Go.Proofs.YtokhnmchnfkiiaaGreat.Am
open Go Go.RowKit Go.Proofs
set_option linter.unusedSimpArgs false
set_option linter.unusedVariables false

set_option maxHeartbeats 16000000 in
set_option maxRecDepth 10000 in
theorem l_cnd0 (l : List Pk) (hl : BigP l) (hls : StrP l) (t : List Trm) (ht : BigT t) (hts : StrT t) (a : List Int) (ha : BigI a) (b : List Int) (hb : BigI b) (e : List Int) (he : BigI e) (g0 : (1048576 : Int) < (a.length : Int)) :
    Pure Tryz.prog 5 [pksAV true true l, trmsAV true t, intsAV true a, intsAV true b, intsAV true e] (.v (.bool true)) := by
  obtain ⟨hl1, hl2⟩ := hl.len
  have ht4 : t.length ≤ 4611686018427387904 := by unfold BigT at ht; omega
  have ha3 : a.length ≤ 4611686018427387904 := by unfold BigI at ha; omega
  have hb3 : b.length ≤ 4611686018427387904 := by unfold BigI at hb; omega
  have he3 : e.length ≤ 4611686018427387904 := by unfold BigI at he; omega
  refine top_of_code (G := Gt) verst mixed0 Tryz.func5 rfl (by decide) (by simp [Tryz.f5]) (by simp) fun ver => ?_
  simp only [Tryz.f5, Gt]
  refine seq_step ⟨[], noArrs ver⟩ (fun E => E 0 = pksAV true true l ∧ E 1 = trmsAV true t ∧ E 2 = intsAV true a ∧ E 3 = intsAV true b ∧ E 4 = intsAV true e) ?_ ?_
  · repeat' first
    | with_reducible refine reg_a ?_
    | simp []
  rintro E ⟨z0, z1, z2, z3, z4⟩
  refine if_take ⟨[], noArrs ver⟩ (fun E => E 0 = pksAV true true l ∧ E 1 = trmsAV true t ∧ E 2 = intsAV true a ∧ E 3 = intsAV true b ∧ E 4 = intsAV true e) ?_ ?_
  · repeat' first
    | with_reducible refine reg_a ?_
    | simp [z0, z1, z2, z3, z4, g0]
  rintro E ⟨z0, z1, z2, z3, z4⟩
  repeat' first
    | with_reducible refine reg_a ?_
    | simp [z0, z1, z2, z3, z4]

set_option maxHeartbeats 16000000 in
set_option maxRecDepth 10000 in
theorem l_cnd1 (l : List Pk) (hl : BigP l) (hls : StrP l) (t : List Trm) (ht : BigT t) (hts : StrT t) (a : List Int) (ha : BigI a) (b : List Int) (hb : BigI b) (e : List Int) (he : BigI e) (g0 : ¬ (1048576 : Int) < (a.length : Int)) (g1 : (1048576 : Int) < (b.length : Int)) :
    Pure Tryz.prog 5 [pksAV true true l, trmsAV true t, intsAV true a, intsAV true b, intsAV true e] (.v (.bool true)) := by
  obtain ⟨hl1, hl2⟩ := hl.len
  have ht4 : t.length ≤ 4611686018427387904 := by unfold BigT at ht; omega
  have ha3 : a.length ≤ 4611686018427387904 := by unfold BigI at ha; omega
  have hb3 : b.length ≤ 4611686018427387904 := by unfold BigI at hb; omega
  have he3 : e.length ≤ 4611686018427387904 := by unfold BigI at he; omega
  refine top_of_code (G := Gt) verst mixed0 Tryz.func5 rfl (by decide) (by simp [Tryz.f5]) (by simp) fun ver => ?_
  simp only [Tryz.f5, Gt]
  refine seq_step ⟨[], noArrs ver⟩ (fun E => E 0 = pksAV true true l ∧ E 1 = trmsAV true t ∧ E 2 = intsAV true a ∧ E 3 = intsAV true b ∧ E 4 = intsAV true e) ?_ ?_
  · repeat' first
    | with_reducible refine reg_a ?_
    | simp []
  rintro E ⟨z0, z1, z2, z3, z4⟩
  refine if_skip ⟨[], noArrs ver⟩ (fun E => E 0 = pksAV true true l ∧ E 1 = trmsAV true t ∧ E 2 = intsAV true a ∧ E 3 = intsAV true b ∧ E 4 = intsAV true e) ?_ ?_
  · repeat' first
    | with_reducible refine reg_a ?_
    | simp [z0, z1, z2, z3, z4, g0]
  rintro E ⟨z0, z1, z2, z3, z4⟩
  refine if_take ⟨[], noArrs ver⟩ (fun E => E 0 = pksAV true true l ∧ E 1 = trmsAV true t ∧ E 2 = intsAV true a ∧ E 3 = intsAV true b ∧ E 4 = intsAV true e) ?_ ?_
  · repeat' first
    | with_reducible refine reg_a ?_
    | simp [z0, z1, z2, z3, z4, g1]
  rintro E ⟨z0, z1, z2, z3, z4⟩
  repeat' first
    | with_reducible refine reg_a ?_
    | simp [z0, z1, z2, z3, z4]

set_option maxHeartbeats 16000000 in
set_option maxRecDepth 10000 in
theorem l_cnd2 (l : List Pk) (hl : BigP l) (hls : StrP l) (t : List Trm) (ht : BigT t) (hts : StrT t) (a : List Int) (ha : BigI a) (b : List Int) (hb : BigI b) (e : List Int) (he : BigI e) (g0 : ¬ (1048576 : Int) < (a.length : Int)) (g1 : ¬ (1048576 : Int) < (b.length : Int)) (g2 : (1048576 : Int) < (e.length : Int)) :
    Pure Tryz.prog 5 [pksAV true true l, trmsAV true t, intsAV true a, intsAV true b, intsAV true e] (.v (.bool true)) := by
  obtain ⟨hl1, hl2⟩ := hl.len
  have ht4 : t.length ≤ 4611686018427387904 := by unfold BigT at ht; omega
  have ha3 : a.length ≤ 4611686018427387904 := by unfold BigI at ha; omega
  have hb3 : b.length ≤ 4611686018427387904 := by unfold BigI at hb; omega
  have he3 : e.length ≤ 4611686018427387904 := by unfold BigI at he; omega
  refine top_of_code (G := Gt) verst mixed0 Tryz.func5 rfl (by decide) (by simp [Tryz.f5]) (by simp) fun ver => ?_
  simp only [Tryz.f5, Gt]
  refine seq_step ⟨[], noArrs ver⟩ (fun E => E 0 = pksAV true true l ∧ E 1 = trmsAV true t ∧ E 2 = intsAV true a ∧ E 3 = intsAV true b ∧ E 4 = intsAV true e) ?_ ?_
  · repeat' first
    | with_reducible refine reg_a ?_
    | simp []
  rintro E ⟨z0, z1, z2, z3, z4⟩
  refine if_skip ⟨[], noArrs ver⟩ (fun E => E 0 = pksAV true true l ∧ E 1 = trmsAV true t ∧ E 2 = intsAV true a ∧ E 3 = intsAV true b ∧ E 4 = intsAV true e) ?_ ?_
  · repeat' first
    | with_reducible refine reg_a ?_
    | simp [z0, z1, z2, z3, z4, g0]
  rintro E ⟨z0, z1, z2, z3, z4⟩
  refine if_skip ⟨[], noArrs ver⟩ (fun E => E 0 = pksAV true true l ∧ E 1 = trmsAV true t ∧ E 2 = intsAV true a ∧ E 3 = intsAV true b ∧ E 4 = intsAV true e) ?_ ?_
  · repeat' first
    | with_reducible refine reg_a ?_
    | simp [z0, z1, z2, z3, z4, g1]
  rintro E ⟨z0, z1, z2, z3, z4⟩
  refine if_take ⟨[], noArrs ver⟩ (fun E => E 0 = pksAV true true l ∧ E 1 = trmsAV true t ∧ E 2 = intsAV true a ∧ E 3 = intsAV true b ∧ E 4 = intsAV true e) ?_ ?_
  · repeat' first
    | with_reducible refine reg_a ?_
    | simp [z0, z1, z2, z3, z4, g2]
  rintro E ⟨z0, z1, z2, z3, z4⟩
  repeat' first
    | with_reducible refine reg_a ?_
    | simp [z0, z1, z2, z3, z4]

set_option maxHeartbeats 16000000 in
set_option maxRecDepth 10000 in
theorem l_cnd3 (l : List Pk) (hl : BigP l) (hls : StrP l) (t : List Trm) (ht : BigT t) (hts : StrT t) (a : List Int) (ha : BigI a) (b : List Int) (hb : BigI b) (e : List Int) (he : BigI e) (g0 : ¬ (1048576 : Int) < (a.length : Int)) (g1 : ¬ (1048576 : Int) < (b.length : Int)) (g2 : ¬ (1048576 : Int) < (e.length : Int)) (g3 : sz_pks l 1048576 < 0) :
    Pure Tryz.prog 5 [pksAV true true l, trmsAV true t, intsAV true a, intsAV true b, intsAV true e] (.v (.bool true)) := by
  obtain ⟨hl1, hl2⟩ := hl.len
  have ht4 : t.length ≤ 4611686018427387904 := by unfold BigT at ht; omega
  have ha3 : a.length ≤ 4611686018427387904 := by unfold BigI at ha; omega
  have hb3 : b.length ≤ 4611686018427387904 := by unfold BigI at hb; omega
  have he3 : e.length ≤ 4611686018427387904 := by unfold BigI at he; omega
  refine top_of_code (G := Gt) verst mixed0 Tryz.func5 rfl (by decide) (by simp [Tryz.f5]) (by simp) fun ver => ?_
  simp only [Tryz.f5, Gt]
  refine seq_step ⟨[], noArrs ver⟩ (fun E => E 0 = pksAV true true l ∧ E 1 = trmsAV true t ∧ E 2 = intsAV true a ∧ E 3 = intsAV true b ∧ E 4 = intsAV true e) ?_ ?_
  · repeat' first
    | with_reducible refine reg_a ?_
    | simp []
  rintro E ⟨z0, z1, z2, z3, z4⟩
  refine if_skip ⟨[], noArrs ver⟩ (fun E => E 0 = pksAV true true l ∧ E 1 = trmsAV true t ∧ E 2 = intsAV true a ∧ E 3 = intsAV true b ∧ E 4 = intsAV true e) ?_ ?_
  · repeat' first
    | with_reducible refine reg_a ?_
    | simp [z0, z1, z2, z3, z4, g0]
  rintro E ⟨z0, z1, z2, z3, z4⟩
  refine if_skip ⟨[], noArrs ver⟩ (fun E => E 0 = pksAV true true l ∧ E 1 = trmsAV true t ∧ E 2 = intsAV true a ∧ E 3 = intsAV true b ∧ E 4 = intsAV true e) ?_ ?_
  · repeat' first
    | with_reducible refine reg_a ?_
    | simp [z0, z1, z2, z3, z4, g1]
  rintro E ⟨z0, z1, z2, z3, z4⟩
  refine if_skip ⟨[], noArrs ver⟩ (fun E => E 0 = pksAV true true l ∧ E 1 = trmsAV true t ∧ E 2 = intsAV true a ∧ E 3 = intsAV true b ∧ E 4 = intsAV true e) ?_ ?_
  · repeat' first
    | with_reducible refine reg_a ?_
    | simp [z0, z1, z2, z3, z4, g2]
  rintro E ⟨z0, z1, z2, z3, z4⟩
  refine seq_step ⟨[], noArrs ver⟩ (fun E => E 0 = pksAV true true l ∧ E 1 = trmsAV true t ∧ E 2 = intsAV true a ∧ E 3 = intsAV true b ∧ E 4 = intsAV true e ∧ E 11 = .v (.int .i64 1048576)) ?_ ?_
  · repeat' first
    | with_reducible refine reg_a ?_
    | simp [z0, z1, z2, z3, z4]
  rintro E ⟨z0, z1, z2, z3, z4, z11⟩
  refine seq_step ⟨[], noArrs ver⟩ (fun E => E 0 = pksAV true true l ∧ E 1 = trmsAV true t ∧ E 2 = intsAV true a ∧ E 3 = intsAV true b ∧ E 4 = intsAV true e ∧ E 11 = .v (.int .i64 (sz_pks l 1048576))) ?_ ?_
  · repeat' first
    | with_reducible refine reg_a ?_
    | with_reducible refine call_p (z_pks true l hl _) (by simp) ?_
    | simp [z0, z1, z2, z3, z4, z11]
  rintro E ⟨z0, z1, z2, z3, z4, z11⟩
  refine if_take ⟨[], noArrs ver⟩ (fun E => E 0 = pksAV true true l ∧ E 1 = trmsAV true t ∧ E 2 = intsAV true a ∧ E 3 = intsAV true b ∧ E 4 = intsAV true e ∧ E 11 = .v (.int .i64 (sz_pks l 1048576))) ?_ ?_
  · repeat' first
    | with_reducible refine reg_a ?_
    | simp [z0, z1, z2, z3, z4, z11, g3]
  rintro E ⟨z0, z1, z2, z3, z4, z11⟩
  repeat' first
    | with_reducible refine reg_a ?_
    | simp [z0, z1, z2, z3, z4, z11]

set_option maxHeartbeats 16000000 in
set_option maxRecDepth 10000 in
theorem l_cnd4 (l : List Pk) (hl : BigP l) (hls : StrP l) (t : List Trm) (ht : BigT t) (hts : StrT t) (a : List Int) (ha : BigI a) (b : List Int) (hb : BigI b) (e : List Int) (he : BigI e) (g0 : ¬ (1048576 : Int) < (a.length : Int)) (g1 : ¬ (1048576 : Int) < (b.length : Int)) (g2 : ¬ (1048576 : Int) < (e.length : Int)) (g3 : ¬ sz_pks l 1048576 < 0) (g4 : sz_trms t (sz_pks l 1048576) < 0) :
    Pure Tryz.prog 5 [pksAV true true l, trmsAV true t, intsAV true a, intsAV true b, intsAV true e] (.v (.bool true)) := by
  obtain ⟨hl1, hl2⟩ := hl.len
  have ht4 : t.length ≤ 4611686018427387904 := by unfold BigT at ht; omega
  have ha3 : a.length ≤ 4611686018427387904 := by unfold BigI at ha; omega
  have hb3 : b.length ≤ 4611686018427387904 := by unfold BigI at hb; omega
  have he3 : e.length ≤ 4611686018427387904 := by unfold BigI at he; omega
  refine top_of_code (G := Gt) verst mixed0 Tryz.func5 rfl (by decide) (by simp [Tryz.f5]) (by simp) fun ver => ?_
  simp only [Tryz.f5, Gt]
  refine seq_step ⟨[], noArrs ver⟩ (fun E => E 0 = pksAV true true l ∧ E 1 = trmsAV true t ∧ E 2 = intsAV true a ∧ E 3 = intsAV true b ∧ E 4 = intsAV true e) ?_ ?_
  · repeat' first
    | with_reducible refine reg_a ?_
    | simp []
  rintro E ⟨z0, z1, z2, z3, z4⟩
  refine if_skip ⟨[], noArrs ver⟩ (fun E => E 0 = pksAV true true l ∧ E 1 = trmsAV true t ∧ E 2 = intsAV true a ∧ E 3 = intsAV true b ∧ E 4 = intsAV true e) ?_ ?_
  · repeat' first
    | with_reducible refine reg_a ?_
    | simp [z0, z1, z2, z3, z4, g0]
  rintro E ⟨z0, z1, z2, z3, z4⟩
  refine if_skip ⟨[], noArrs ver⟩ (fun E => E 0 = pksAV true true l ∧ E 1 = trmsAV true t ∧ E 2 = intsAV true a ∧ E 3 = intsAV true b ∧ E 4 = intsAV true e) ?_ ?_
  · repeat' first
    | with_reducible refine reg_a ?_
    | simp [z0, z1, z2, z3, z4, g1]
  rintro E ⟨z0, z1, z2, z3, z4⟩
  refine if_skip ⟨[], noArrs ver⟩ (fun E => E 0 = pksAV true true l ∧ E 1 = trmsAV true t ∧ E 2 = intsAV true a ∧ E 3 = intsAV true b ∧ E 4 = intsAV true e) ?_ ?_
  · repeat' first
    | with_reducible refine reg_a ?_
    | simp [z0, z1, z2, z3, z4, g2]
  rintro E ⟨z0, z1, z2, z3, z4⟩
  refine seq_step ⟨[], noArrs ver⟩ (fun E => E 0 = pksAV true true l ∧ E 1 = trmsAV true t ∧ E 2 = intsAV true a ∧ E 3 = intsAV true b ∧ E 4 = intsAV true e ∧ E 11 = .v (.int .i64 1048576)) ?_ ?_
  · repeat' first
    | with_reducible refine reg_a ?_
    | simp [z0, z1, z2, z3, z4]
  rintro E ⟨z0, z1, z2, z3, z4, z11⟩
  refine seq_step ⟨[], noArrs ver⟩ (fun E => E 0 = pksAV true true l ∧ E 1 = trmsAV true t ∧ E 2 = intsAV true a ∧ E 3 = intsAV true b ∧ E 4 = intsAV true e ∧ E 11 = .v (.int .i64 (sz_pks l 1048576))) ?_ ?_
  · repeat' first
    | with_reducible refine reg_a ?_
    | with_reducible refine call_p (z_pks true l hl _) (by simp) ?_
    | simp [z0, z1, z2, z3, z4, z11]
  rintro E ⟨z0, z1, z2, z3, z4, z11⟩
  refine if_skip ⟨[], noArrs ver⟩ (fun E => E 0 = pksAV true true l ∧ E 1 = trmsAV true t ∧ E 2 = intsAV true a ∧ E 3 = intsAV true b ∧ E 4 = intsAV true e ∧ E 11 = .v (.int .i64 (sz_pks l 1048576))) ?_ ?_
  · repeat' first
    | with_reducible refine reg_a ?_
    | simp [z0, z1, z2, z3, z4, z11, g3]
  rintro E ⟨z0, z1, z2, z3, z4, z11⟩
  refine seq_step ⟨[], noArrs ver⟩ (fun E => E 0 = pksAV true true l ∧ E 1 = trmsAV true t ∧ E 2 = intsAV true a ∧ E 3 = intsAV true b ∧ E 4 = intsAV true e ∧ E 11 = .v (.int .i64 (sz_trms t (sz_pks l 1048576)))) ?_ ?_
  · repeat' first
    | with_reducible refine reg_a ?_
    | with_reducible refine call_p (z_trms true t ht _) (by simp) ?_
    | simp [z0, z1, z2, z3, z4, z11]
  rintro E ⟨z0, z1, z2, z3, z4, z11⟩
  refine if_take ⟨[], noArrs ver⟩ (fun E => E 0 = pksAV true true l ∧ E 1 = trmsAV true t ∧ E 2 = intsAV true a ∧ E 3 = intsAV true b ∧ E 4 = intsAV true e) ?_ ?_
  · repeat' first
    | with_reducible refine reg_a ?_
    | simp [z0, z1, z2, z3, z4, z11, g4]
  rintro E ⟨z0, z1, z2, z3, z4⟩
  repeat' first
    | with_reducible refine reg_a ?_
    | simp [z0, z1, z2, z3, z4]

set_option maxHeartbeats 16000000 in
set_option maxRecDepth 10000 in
theorem l_cndA (l : List Pk) (hl : BigP l) (hls : StrP l) (t : List Trm) (ht : BigT t) (hts : StrT t) (a : List Int) (ha : BigI a) (b : List Int) (hb : BigI b) (e : List Int) (he : BigI e) (g0 : ¬ (1048576 : Int) < (a.length : Int)) (g1 : ¬ (1048576 : Int) < (b.length : Int)) (g2 : ¬ (1048576 : Int) < (e.length : Int)) (g3 : ¬ sz_pks l 1048576 < 0) (g4 : ¬ sz_trms t (sz_pks l 1048576) < 0) (h : cdC l t a b e ≠ 0) :
    Pure Tryz.prog 5 [pksAV true true l, trmsAV true t, intsAV true a, intsAV true b, intsAV true e] (.v (.bool true)) := by
  obtain ⟨hl1, hl2⟩ := hl.len
  have ht4 : t.length ≤ 4611686018427387904 := by unfold BigT at ht; omega
  have ha3 : a.length ≤ 4611686018427387904 := by unfold BigI at ha; omega
  have hb3 : b.length ≤ 4611686018427387904 := by unfold BigI at hb; omega
  have he3 : e.length ≤ 4611686018427387904 := by unfold BigI at he; omega
  have hmk := (sz_pks_le hl hls (by decide) (by decide) g3).1
  have hsz := (sz_pks_le hl hls (by decide) (by decide) g3).2
  have hst := (sz_trms_le ht hts hsz (by omega) g4).1
  have hst2 := (sz_trms_le ht hts hsz (by omega) g4).2
  have hmt : mkT t = 7 * t.length := rfl
  have hq : ¬ 1 + (mkPs l : Int) + (mkT t : Int) + (a.length : Int) + (b.length : Int) + (e.length : Int) < 0 := by omega
  have hP := p_candidatesOf l hl1 hl2 t ht4 a b e ha3 hb3 he3
  have hQ := q_candidatesOfA l hl1 hl2 t ht4 a b e ha3 hb3 he3 h
  have hL0 : cdR l t a b e = [] := by
    rw [cdR, if_neg h]
  rw [hL0] at hP
  obtain ⟨k, hk⟩ : ∃ k, k = cdC l t a b e := ⟨_, rfl⟩
  rw [← hk] at hP hQ
  simp only [setRes] at hP hQ
  clear hk h hL0
  simp only [intsAV, List.map_nil] at hP
  have hE : ∀ c d : Bool, Pure Tryz.prog 37 [.agg [.v (.int .i64 k), .v (.int .i64 0), .sl c []], .agg [.v (.int .i64 k), .v (.int .i64 0), .sl d []]] (.v (.bool true)) := fun c d => by simpa using e_set c d [] (by simp) k 0
  have hq1 : ¬ (1 : Int) < 0 := by omega
  refine top_of_code (G := Gt) verst mixed0 Tryz.func5 rfl (by decide) (by simp [Tryz.f5]) (by simp) fun ver => ?_
  simp only [Tryz.f5, Gt]
  refine seq_step ⟨[], noArrs ver⟩ (fun E => E 0 = pksAV true true l ∧ E 1 = trmsAV true t ∧ E 2 = intsAV true a ∧ E 3 = intsAV true b ∧ E 4 = intsAV true e) ?_ ?_
  · repeat' first
    | with_reducible refine reg_a ?_
    | simp []
  rintro E ⟨z0, z1, z2, z3, z4⟩
  refine if_skip ⟨[], noArrs ver⟩ (fun E => E 0 = pksAV true true l ∧ E 1 = trmsAV true t ∧ E 2 = intsAV true a ∧ E 3 = intsAV true b ∧ E 4 = intsAV true e) ?_ ?_
  · repeat' first
    | with_reducible refine reg_a ?_
    | simp [z0, z1, z2, z3, z4, g0]
  rintro E ⟨z0, z1, z2, z3, z4⟩
  refine if_skip ⟨[], noArrs ver⟩ (fun E => E 0 = pksAV true true l ∧ E 1 = trmsAV true t ∧ E 2 = intsAV true a ∧ E 3 = intsAV true b ∧ E 4 = intsAV true e) ?_ ?_
  · repeat' first
    | with_reducible refine reg_a ?_
    | simp [z0, z1, z2, z3, z4, g1]
  rintro E ⟨z0, z1, z2, z3, z4⟩
  refine if_skip ⟨[], noArrs ver⟩ (fun E => E 0 = pksAV true true l ∧ E 1 = trmsAV true t ∧ E 2 = intsAV true a ∧ E 3 = intsAV true b ∧ E 4 = intsAV true e) ?_ ?_
  · repeat' first
    | with_reducible refine reg_a ?_
    | simp [z0, z1, z2, z3, z4, g2]
  rintro E ⟨z0, z1, z2, z3, z4⟩
  refine seq_step ⟨[], noArrs ver⟩ (fun E => E 0 = pksAV true true l ∧ E 1 = trmsAV true t ∧ E 2 = intsAV true a ∧ E 3 = intsAV true b ∧ E 4 = intsAV true e ∧ E 11 = .v (.int .i64 1048576)) ?_ ?_
  · repeat' first
    | with_reducible refine reg_a ?_
    | simp [z0, z1, z2, z3, z4]
  rintro E ⟨z0, z1, z2, z3, z4, z11⟩
  refine seq_step ⟨[], noArrs ver⟩ (fun E => E 0 = pksAV true true l ∧ E 1 = trmsAV true t ∧ E 2 = intsAV true a ∧ E 3 = intsAV true b ∧ E 4 = intsAV true e ∧ E 11 = .v (.int .i64 (sz_pks l 1048576))) ?_ ?_
  · repeat' first
    | with_reducible refine reg_a ?_
    | with_reducible refine call_p (z_pks true l hl _) (by simp) ?_
    | simp [z0, z1, z2, z3, z4, z11]
  rintro E ⟨z0, z1, z2, z3, z4, z11⟩
  refine if_skip ⟨[], noArrs ver⟩ (fun E => E 0 = pksAV true true l ∧ E 1 = trmsAV true t ∧ E 2 = intsAV true a ∧ E 3 = intsAV true b ∧ E 4 = intsAV true e ∧ E 11 = .v (.int .i64 (sz_pks l 1048576))) ?_ ?_
  · repeat' first
    | with_reducible refine reg_a ?_
    | simp [z0, z1, z2, z3, z4, z11, g3]
  rintro E ⟨z0, z1, z2, z3, z4, z11⟩
  refine seq_step ⟨[], noArrs ver⟩ (fun E => E 0 = pksAV true true l ∧ E 1 = trmsAV true t ∧ E 2 = intsAV true a ∧ E 3 = intsAV true b ∧ E 4 = intsAV true e ∧ E 11 = .v (.int .i64 (sz_trms t (sz_pks l 1048576)))) ?_ ?_
  · repeat' first
    | with_reducible refine reg_a ?_
    | with_reducible refine call_p (z_trms true t ht _) (by simp) ?_
    | simp [z0, z1, z2, z3, z4, z11]
  rintro E ⟨z0, z1, z2, z3, z4, z11⟩
  refine if_skip ⟨[], noArrs ver⟩ (fun E => E 0 = pksAV true true l ∧ E 1 = trmsAV true t ∧ E 2 = intsAV true a ∧ E 3 = intsAV true b ∧ E 4 = intsAV true e) ?_ ?_
  · repeat' first
    | with_reducible refine reg_a ?_
    | simp [z0, z1, z2, z3, z4, z11, g4]
  rintro E ⟨z0, z1, z2, z3, z4⟩
  refine seq_step ⟨[[.v (.int .i64 k), .v (.int .i64 0), .sl false []]], noArrs ver⟩ (fun E => E 0 = pksAV true true l ∧ E 1 = trmsAV true t ∧ E 2 = intsAV true a ∧ E 3 = intsAV true b ∧ E 4 = intsAV true e ∧ E 12 = .box 0 0) ?_ ?_
  · repeat' first
    | with_reducible refine reg_a ?_
    | with_reducible refine call_p (t_pks true l hl) (by simp) ?_
    | with_reducible refine call_p (t_trms true t ht) (by simp) ?_
    | with_reducible refine call_p (t_ints true a ha) (by simp) ?_
    | with_reducible refine call_p (t_ints true b hb) (by simp) ?_
    | with_reducible refine call_p (t_ints true e he) (by simp) ?_
    | with_reducible refine call_p (hP) (by simp) ?_
    | simp [z0, z1, z2, z3, z4]
  rintro E ⟨z0, z1, z2, z3, z4, z12⟩
  refine seq_step ⟨[[.v (.int .i64 k), .v (.int .i64 0), .sl true []]], noArrs ver⟩ (fun E => E 0 = pksAV true true l ∧ E 1 = trmsAV true t ∧ E 2 = intsAV true a ∧ E 3 = intsAV true b ∧ E 4 = intsAV true e ∧ E 12 = .box 0 0 ∧ E 13 = pksAV false false l) ?_ ?_
  · simp [z0, z1, z2, z3, z4, z12]
    refine reg_ok 0 [(0, pksAV true true l), (1, trmsAV true t), (2, intsAV true a), (3, intsAV true b), (4, intsAV true e), (12, .box 0 0)] [[.v (.int .i64 k), .v (.int .i64 0), .sl false []]] [[.v (.int .i64 k), .v (.int .i64 0), .sl true []]] (by simp) (by intro i; simp) (by simp) (by simp [OldsK_cons, OldsK_nil, z0, z1, z2, z3, z4, z12]) (by simp [OldsB, OldsR]) ?_
    repeat' first
    | with_reducible refine call_p (t_pks true l hl) (by simp) ?_
    | simp [z0, z1, z2, z3, z4, z12]
  rintro E ⟨z0, z1, z2, z3, z4, z12, z13⟩
  refine seq_step ⟨[[.v (.int .i64 k), .v (.int .i64 0), .sl true []]], noArrs ver⟩ (fun E => E 0 = pksAV true true l ∧ E 1 = trmsAV true t ∧ E 2 = intsAV true a ∧ E 3 = intsAV true b ∧ E 4 = intsAV true e ∧ E 12 = .box 0 0 ∧ E 13 = pksAV false false l ∧ E 14 = trmsAV false t) ?_ ?_
  · repeat' first
    | with_reducible refine reg_a ?_
    | with_reducible refine call_p (t_trms true t ht) (by simp) ?_
    | simp [z0, z1, z2, z3, z4, z12, z13]
  rintro E ⟨z0, z1, z2, z3, z4, z12, z13, z14⟩
  refine seq_step ⟨[[.v (.int .i64 k), .v (.int .i64 0), .sl true []]], noArrs ver⟩ (fun E => E 0 = pksAV true true l ∧ E 1 = trmsAV true t ∧ E 2 = intsAV true a ∧ E 3 = intsAV true b ∧ E 4 = intsAV true e ∧ E 12 = .box 0 0 ∧ E 13 = pksAV false false l ∧ E 14 = trmsAV false t ∧ E 15 = intsAV false a) ?_ ?_
  · repeat' first
    | with_reducible refine reg_a ?_
    | with_reducible refine call_p (t_ints true a ha) (by simp) ?_
    | simp [z0, z1, z2, z3, z4, z12, z13, z14]
  rintro E ⟨z0, z1, z2, z3, z4, z12, z13, z14, z15⟩
  refine seq_step ⟨[[.v (.int .i64 k), .v (.int .i64 0), .sl true []]], noArrs ver⟩ (fun E => E 0 = pksAV true true l ∧ E 1 = trmsAV true t ∧ E 2 = intsAV true a ∧ E 3 = intsAV true b ∧ E 4 = intsAV true e ∧ E 12 = .box 0 0 ∧ E 13 = pksAV false false l ∧ E 14 = trmsAV false t ∧ E 15 = intsAV false a ∧ E 16 = intsAV false b) ?_ ?_
  · repeat' first
    | with_reducible refine reg_a ?_
    | with_reducible refine call_p (t_ints true b hb) (by simp) ?_
    | simp [z0, z1, z2, z3, z4, z12, z13, z14, z15]
  rintro E ⟨z0, z1, z2, z3, z4, z12, z13, z14, z15, z16⟩
  refine seq_step ⟨[[.v (.int .i64 k), .v (.int .i64 0), .sl true []]], noArrs ver⟩ (fun E => E 0 = pksAV true true l ∧ E 1 = trmsAV true t ∧ E 2 = intsAV true a ∧ E 3 = intsAV true b ∧ E 4 = intsAV true e ∧ E 12 = .box 0 0 ∧ E 13 = pksAV false false l ∧ E 14 = trmsAV false t ∧ E 15 = intsAV false a ∧ E 16 = intsAV false b ∧ E 17 = intsAV false e) ?_ ?_
  · repeat' first
    | with_reducible refine reg_a ?_
    | with_reducible refine call_p (t_ints true e he) (by simp) ?_
    | simp [z0, z1, z2, z3, z4, z12, z13, z14, z15, z16]
  rintro E ⟨z0, z1, z2, z3, z4, z12, z13, z14, z15, z16, z17⟩
  refine seq_step ⟨[[.v (.int .i64 k), .v (.int .i64 0), .sl true []], [.v (.int .i64 k), .v (.int .i64 0), .sl false []]], noArrs ver⟩ (fun E => E 0 = pksAV true true l ∧ E 1 = trmsAV true t ∧ E 2 = intsAV true a ∧ E 3 = intsAV true b ∧ E 4 = intsAV true e ∧ E 12 = .box 0 0 ∧ E 13 = pksAV false false l ∧ E 14 = trmsAV false t ∧ E 15 = intsAV false a ∧ E 16 = intsAV false b ∧ E 17 = intsAV false e ∧ E 18 = .box 1 0) ?_ ?_
  · repeat' first
    | with_reducible refine reg_a ?_
    | with_reducible refine call_p (hQ) (by simp) ?_
    | simp [z0, z1, z2, z3, z4, z12, z13, z14, z15, z16, z17]
  rintro E ⟨z0, z1, z2, z3, z4, z12, z13, z14, z15, z16, z17, z18⟩
  refine if_skip ⟨[[.v (.int .i64 k), .v (.int .i64 0), .sl true []], [.v (.int .i64 k), .v (.int .i64 0), .sl false []]], noArrs ver⟩ (fun E => E 0 = pksAV true true l ∧ E 1 = trmsAV true t ∧ E 2 = intsAV true a ∧ E 3 = intsAV true b ∧ E 4 = intsAV true e ∧ E 12 = .box 0 0 ∧ E 13 = pksAV false false l ∧ E 14 = trmsAV false t ∧ E 15 = intsAV false a ∧ E 16 = intsAV false b ∧ E 17 = intsAV false e ∧ E 18 = .box 1 0) ?_ ?_
  · repeat' first
    | with_reducible refine reg_a ?_
    | with_reducible refine call_p (hE _ _) (by simp) ?_
    | simp [z0, z1, z2, z3, z4, z12, z13, z14, z15, z16, z17, z18]
  rintro E ⟨z0, z1, z2, z3, z4, z12, z13, z14, z15, z16, z17, z18⟩
  refine if_skip ⟨[[.v (.int .i64 k), .v (.int .i64 0), .sl true []], [.v (.int .i64 k), .v (.int .i64 0), .sl false []]], noArrs ver⟩ (fun E => E 0 = pksAV true true l ∧ E 1 = trmsAV true t ∧ E 2 = intsAV true a ∧ E 3 = intsAV true b ∧ E 4 = intsAV true e ∧ E 12 = .box 0 0 ∧ E 13 = pksAV false false l ∧ E 14 = trmsAV false t ∧ E 15 = intsAV false a ∧ E 16 = intsAV false b ∧ E 17 = intsAV false e ∧ E 18 = .box 1 0) ?_ ?_
  · repeat' first
    | with_reducible refine reg_a ?_
    | with_reducible refine call_p (t_pks true l hl) (by simp) ?_
    | with_reducible refine call_p (e_pks false false l hl1 hl2) (by simp) ?_
    | simp [z0, z1, z2, z3, z4, z12, z13, z14, z15, z16, z17, z18]
  rintro E ⟨z0, z1, z2, z3, z4, z12, z13, z14, z15, z16, z17, z18⟩
  refine if_skip ⟨[[.v (.int .i64 k), .v (.int .i64 0), .sl true []], [.v (.int .i64 k), .v (.int .i64 0), .sl false []]], noArrs ver⟩ (fun E => E 0 = pksAV true true l ∧ E 1 = trmsAV true t ∧ E 2 = intsAV true a ∧ E 3 = intsAV true b ∧ E 4 = intsAV true e ∧ E 12 = .box 0 0 ∧ E 13 = pksAV false false l ∧ E 14 = trmsAV false t ∧ E 15 = intsAV false a ∧ E 16 = intsAV false b ∧ E 17 = intsAV false e ∧ E 18 = .box 1 0) ?_ ?_
  · repeat' first
    | with_reducible refine reg_a ?_
    | with_reducible refine call_p (t_trms true t ht) (by simp) ?_
    | with_reducible refine call_p (e_trms false false t ht4) (by simp) ?_
    | simp [z0, z1, z2, z3, z4, z12, z13, z14, z15, z16, z17, z18]
  rintro E ⟨z0, z1, z2, z3, z4, z12, z13, z14, z15, z16, z17, z18⟩
  refine if_skip ⟨[[.v (.int .i64 k), .v (.int .i64 0), .sl true []], [.v (.int .i64 k), .v (.int .i64 0), .sl false []]], noArrs ver⟩ (fun E => E 0 = pksAV true true l ∧ E 1 = trmsAV true t ∧ E 2 = intsAV true a ∧ E 3 = intsAV true b ∧ E 4 = intsAV true e ∧ E 12 = .box 0 0 ∧ E 13 = pksAV false false l ∧ E 14 = trmsAV false t ∧ E 15 = intsAV false a ∧ E 16 = intsAV false b ∧ E 17 = intsAV false e ∧ E 18 = .box 1 0) ?_ ?_
  · repeat' first
    | with_reducible refine reg_a ?_
    | with_reducible refine call_p (t_ints true a ha) (by simp) ?_
    | with_reducible refine call_p (e_ints false false a ha3) (by simp) ?_
    | with_reducible refine call_p (e_ints false false b hb3) (by simp) ?_
    | with_reducible refine call_p (e_ints false false e he3) (by simp) ?_
    | simp [z0, z1, z2, z3, z4, z12, z13, z14, z15, z16, z17, z18]
  rintro E ⟨z0, z1, z2, z3, z4, z12, z13, z14, z15, z16, z17, z18⟩
  refine if_skip ⟨[[.v (.int .i64 k), .v (.int .i64 0), .sl true []], [.v (.int .i64 k), .v (.int .i64 0), .sl false []]], noArrs ver⟩ (fun E => E 0 = pksAV true true l ∧ E 1 = trmsAV true t ∧ E 2 = intsAV true a ∧ E 3 = intsAV true b ∧ E 4 = intsAV true e ∧ E 12 = .box 0 0 ∧ E 13 = pksAV false false l ∧ E 14 = trmsAV false t ∧ E 15 = intsAV false a ∧ E 16 = intsAV false b ∧ E 17 = intsAV false e ∧ E 18 = .box 1 0) ?_ ?_
  · repeat' first
    | with_reducible refine reg_a ?_
    | with_reducible refine call_p (t_ints true b hb) (by simp) ?_
    | with_reducible refine call_p (e_ints false false a ha3) (by simp) ?_
    | with_reducible refine call_p (e_ints false false b hb3) (by simp) ?_
    | with_reducible refine call_p (e_ints false false e he3) (by simp) ?_
    | simp [z0, z1, z2, z3, z4, z12, z13, z14, z15, z16, z17, z18]
  rintro E ⟨z0, z1, z2, z3, z4, z12, z13, z14, z15, z16, z17, z18⟩
  refine if_skip ⟨[[.v (.int .i64 k), .v (.int .i64 0), .sl true []], [.v (.int .i64 k), .v (.int .i64 0), .sl false []]], noArrs ver⟩ (fun E => E 0 = pksAV true true l ∧ E 1 = trmsAV true t ∧ E 2 = intsAV true a ∧ E 3 = intsAV true b ∧ E 4 = intsAV true e ∧ E 12 = .box 0 0 ∧ E 13 = pksAV false false l ∧ E 14 = trmsAV false t ∧ E 15 = intsAV false a ∧ E 16 = intsAV false b ∧ E 17 = intsAV false e ∧ E 18 = .box 1 0) ?_ ?_
  · repeat' first
    | with_reducible refine reg_a ?_
    | with_reducible refine call_p (t_ints true e he) (by simp) ?_
    | with_reducible refine call_p (e_ints false false a ha3) (by simp) ?_
    | with_reducible refine call_p (e_ints false false b hb3) (by simp) ?_
    | with_reducible refine call_p (e_ints false false e he3) (by simp) ?_
    | simp [z0, z1, z2, z3, z4, z12, z13, z14, z15, z16, z17, z18]
  rintro E ⟨z0, z1, z2, z3, z4, z12, z13, z14, z15, z16, z17, z18⟩
  refine seq_step ⟨[[.v (.int .i64 k), .v (.int .i64 0), .sl true []], [.v (.int .i64 k), .v (.int .i64 0), .sl false []]], noArrs ver⟩ (fun E => E 0 = pksAV true true l ∧ E 1 = trmsAV true t ∧ E 2 = intsAV true a ∧ E 3 = intsAV true b ∧ E 4 = intsAV true e ∧ E 12 = .box 0 0 ∧ E 13 = pksAV false false l ∧ E 14 = trmsAV false t ∧ E 15 = intsAV false a ∧ E 16 = intsAV false b ∧ E 17 = intsAV false e ∧ E 18 = .box 1 0 ∧ E 19 = .v (.int .i64 1)) ?_ ?_
  · repeat' first
    | with_reducible refine reg_a ?_
    | simp [z0, z1, z2, z3, z4, z12, z13, z14, z15, z16, z17, z18]
  rintro E ⟨z0, z1, z2, z3, z4, z12, z13, z14, z15, z16, z17, z18, z19⟩
  refine seq_step ⟨[[.v (.int .i64 k), .v (.int .i64 0), .sl true []], [.v (.int .i64 k), .v (.int .i64 0), .sl false []]], noArrs ver⟩ (fun E => E 0 = pksAV true true l ∧ E 1 = trmsAV true t ∧ E 2 = intsAV true a ∧ E 3 = intsAV true b ∧ E 4 = intsAV true e ∧ E 12 = .box 0 0 ∧ E 14 = wtrmsAV t ∧ E 15 = wintsAV a ∧ E 16 = wintsAV b ∧ E 17 = wintsAV e ∧ E 18 = .box 1 0 ∧ E 19 = .v (.int .i64 (1 + (mkPs l : Int)))) ?_ ?_
  · simp [z0, z1, z2, z3, z4, z12, z13, z14, z15, z16, z17, z18, z19]
    refine reg_k 2 ?_
    simp [z0, z1, z2, z3, z4, z12, z13, z14, z15, z16, z17, z18, z19]
    refine mark_b 0 [(0, pksAV true true l), (1, trmsAV true t), (2, intsAV true a), (3, intsAV true b), (4, intsAV true e), (12, .box 0 0), (14, wtrmsAV t), (15, wintsAV a), (16, wintsAV b), (17, wintsAV e), (18, .box 1 0)] [[.v (.int .i64 k), .v (.int .i64 0), .sl true []], [.v (.int .i64 k), .v (.int .i64 0), .sl false []]] [[.v (.int .i64 k), .v (.int .i64 0), .sl true []], [.v (.int .i64 k), .v (.int .i64 0), .sl false []]] (by simp) (w_pks l hl2 hl1 (1) (by omega) (by omega)) (by simp [WArgL]) (by simp) (by simp [StayB, StayR]) (by intro i; simp) (by simp) (by simp [WKeep_cons, WKeep_nil, z0, z1, z2, z3, z4, z12, z13, z14, z15, z16, z17, z18, z19]) ?_
    repeat' first
    | simp [z0, z1, z2, z3, z4, z12, z13, z14, z15, z16, z17, z18, z19]
  rintro E ⟨z0, z1, z2, z3, z4, z12, z14, z15, z16, z17, z18, z19⟩
  refine seq_step ⟨[[.v (.int .i64 k), .v (.int .i64 0), .sl true []], [.v (.int .i64 k), .v (.int .i64 0), .sl false []]], noArrs ver⟩ (fun E => E 0 = pksAV true true l ∧ E 1 = trmsAV true t ∧ E 2 = intsAV true a ∧ E 3 = intsAV true b ∧ E 4 = intsAV true e ∧ E 12 = .box 0 0 ∧ E 15 = wintsAV a ∧ E 16 = wintsAV b ∧ E 17 = wintsAV e ∧ E 18 = .box 1 0 ∧ E 19 = .v (.int .i64 (1 + (mkPs l : Int) + (mkT t : Int)))) ?_ ?_
  · simp [z0, z1, z2, z3, z4, z12, z14, z15, z16, z17, z18, z19]
    refine reg_k 2 ?_
    simp [z0, z1, z2, z3, z4, z12, z14, z15, z16, z17, z18, z19]
    refine mark_b 0 [(0, pksAV true true l), (1, trmsAV true t), (2, intsAV true a), (3, intsAV true b), (4, intsAV true e), (12, .box 0 0), (15, wintsAV a), (16, wintsAV b), (17, wintsAV e), (18, .box 1 0)] [[.v (.int .i64 k), .v (.int .i64 0), .sl true []], [.v (.int .i64 k), .v (.int .i64 0), .sl false []]] [[.v (.int .i64 k), .v (.int .i64 0), .sl true []], [.v (.int .i64 k), .v (.int .i64 0), .sl false []]] (by simp) (w_trms t (1 + (mkPs l : Int)) (by omega) (by omega)) (by simp [WArgL]) (by simp) (by simp [StayB, StayR]) (by intro i; simp) (by simp) (by simp [WKeep_cons, WKeep_nil, z0, z1, z2, z3, z4, z12, z14, z15, z16, z17, z18, z19]) ?_
    repeat' first
    | simp [z0, z1, z2, z3, z4, z12, z14, z15, z16, z17, z18, z19]
  rintro E ⟨z0, z1, z2, z3, z4, z12, z15, z16, z17, z18, z19⟩
  refine seq_step ⟨[[.v (.int .i64 k), .v (.int .i64 0), .sl true []], [.v (.int .i64 k), .v (.int .i64 0), .sl false []]], noArrs ver⟩ (fun E => E 0 = pksAV true true l ∧ E 1 = trmsAV true t ∧ E 2 = intsAV true a ∧ E 3 = intsAV true b ∧ E 4 = intsAV true e ∧ E 12 = .box 0 0 ∧ E 16 = wintsAV b ∧ E 17 = wintsAV e ∧ E 18 = .box 1 0 ∧ E 19 = .v (.int .i64 (1 + (mkPs l : Int) + (mkT t : Int) + (a.length : Int)))) ?_ ?_
  · simp [z0, z1, z2, z3, z4, z12, z15, z16, z17, z18, z19]
    refine reg_k 2 ?_
    simp [z0, z1, z2, z3, z4, z12, z15, z16, z17, z18, z19]
    refine mark_b 0 [(0, pksAV true true l), (1, trmsAV true t), (2, intsAV true a), (3, intsAV true b), (4, intsAV true e), (12, .box 0 0), (16, wintsAV b), (17, wintsAV e), (18, .box 1 0)] [[.v (.int .i64 k), .v (.int .i64 0), .sl true []], [.v (.int .i64 k), .v (.int .i64 0), .sl false []]] [[.v (.int .i64 k), .v (.int .i64 0), .sl true []], [.v (.int .i64 k), .v (.int .i64 0), .sl false []]] (by simp) (w_ints a (1 + (mkPs l : Int) + (mkT t : Int)) (by omega) (by omega)) (by simp [WArgL]) (by simp) (by simp [StayB, StayR]) (by intro i; simp) (by simp) (by simp [WKeep_cons, WKeep_nil, z0, z1, z2, z3, z4, z12, z15, z16, z17, z18, z19]) ?_
    repeat' first
    | simp [z0, z1, z2, z3, z4, z12, z15, z16, z17, z18, z19]
  rintro E ⟨z0, z1, z2, z3, z4, z12, z16, z17, z18, z19⟩
  refine seq_step ⟨[[.v (.int .i64 k), .v (.int .i64 0), .sl true []], [.v (.int .i64 k), .v (.int .i64 0), .sl false []]], noArrs ver⟩ (fun E => E 0 = pksAV true true l ∧ E 1 = trmsAV true t ∧ E 2 = intsAV true a ∧ E 3 = intsAV true b ∧ E 4 = intsAV true e ∧ E 12 = .box 0 0 ∧ E 17 = wintsAV e ∧ E 18 = .box 1 0 ∧ E 19 = .v (.int .i64 (1 + (mkPs l : Int) + (mkT t : Int) + (a.length : Int) + (b.length : Int)))) ?_ ?_
  · simp [z0, z1, z2, z3, z4, z12, z16, z17, z18, z19]
    refine reg_k 2 ?_
    simp [z0, z1, z2, z3, z4, z12, z16, z17, z18, z19]
    refine mark_b 0 [(0, pksAV true true l), (1, trmsAV true t), (2, intsAV true a), (3, intsAV true b), (4, intsAV true e), (12, .box 0 0), (17, wintsAV e), (18, .box 1 0)] [[.v (.int .i64 k), .v (.int .i64 0), .sl true []], [.v (.int .i64 k), .v (.int .i64 0), .sl false []]] [[.v (.int .i64 k), .v (.int .i64 0), .sl true []], [.v (.int .i64 k), .v (.int .i64 0), .sl false []]] (by simp) (w_ints b (1 + (mkPs l : Int) + (mkT t : Int) + (a.length : Int)) (by omega) (by omega)) (by simp [WArgL]) (by simp) (by simp [StayB, StayR]) (by intro i; simp) (by simp) (by simp [WKeep_cons, WKeep_nil, z0, z1, z2, z3, z4, z12, z16, z17, z18, z19]) ?_
    repeat' first
    | simp [z0, z1, z2, z3, z4, z12, z16, z17, z18, z19]
  rintro E ⟨z0, z1, z2, z3, z4, z12, z17, z18, z19⟩
  refine seq_step ⟨[[.v (.int .i64 k), .v (.int .i64 0), .sl true []], [.v (.int .i64 k), .v (.int .i64 0), .sl false []]], noArrs ver⟩ (fun E => E 0 = pksAV true true l ∧ E 1 = trmsAV true t ∧ E 2 = intsAV true a ∧ E 3 = intsAV true b ∧ E 4 = intsAV true e ∧ E 12 = .box 0 0 ∧ E 18 = .box 1 0 ∧ E 19 = .v (.int .i64 (1 + (mkPs l : Int) + (mkT t : Int) + (a.length : Int) + (b.length : Int) + (e.length : Int)))) ?_ ?_
  · simp [z0, z1, z2, z3, z4, z12, z17, z18, z19]
    refine reg_k 2 ?_
    simp [z0, z1, z2, z3, z4, z12, z17, z18, z19]
    refine mark_b 0 [(0, pksAV true true l), (1, trmsAV true t), (2, intsAV true a), (3, intsAV true b), (4, intsAV true e), (12, .box 0 0), (18, .box 1 0)] [[.v (.int .i64 k), .v (.int .i64 0), .sl true []], [.v (.int .i64 k), .v (.int .i64 0), .sl false []]] [[.v (.int .i64 k), .v (.int .i64 0), .sl true []], [.v (.int .i64 k), .v (.int .i64 0), .sl false []]] (by simp) (w_ints e (1 + (mkPs l : Int) + (mkT t : Int) + (a.length : Int) + (b.length : Int)) (by omega) (by omega)) (by simp [WArgL]) (by simp) (by simp [StayB, StayR]) (by intro i; simp) (by simp) (by simp [WKeep_cons, WKeep_nil, z0, z1, z2, z3, z4, z12, z17, z18, z19]) ?_
    repeat' first
    | simp [z0, z1, z2, z3, z4, z12, z17, z18, z19]
  rintro E ⟨z0, z1, z2, z3, z4, z12, z18, z19⟩
  refine if_skip ⟨[[.v (.int .i64 k), .v (.int .i64 0), .sl true []], [.v (.int .i64 k), .v (.int .i64 0), .sl false []]], noArrs ver⟩ (fun E => E 0 = pksAV true true l ∧ E 1 = trmsAV true t ∧ E 2 = intsAV true a ∧ E 3 = intsAV true b ∧ E 4 = intsAV true e ∧ E 12 = .box 0 0 ∧ E 18 = .box 1 0) ?_ ?_
  · repeat' first
    | with_reducible refine reg_a ?_
    | with_reducible refine call_p (hE _ _) (by simp) ?_
    | simp [z0, z1, z2, z3, z4, z12, z18, z19, hq]
  rintro E ⟨z0, z1, z2, z3, z4, z12, z18⟩
  refine seq_step ⟨[[.v (.int .i64 k), .v (.int .i64 0), .sl true []], [.v (.int .i64 k), .v (.int .i64 0), .sl false []]], noArrs ver⟩ (fun E => E 0 = pksAV true true l ∧ E 1 = trmsAV true t ∧ E 2 = intsAV true a ∧ E 3 = intsAV true b ∧ E 4 = intsAV true e ∧ E 12 = .box 0 0 ∧ E 18 = .box 1 0 ∧ E 20 = .v (.int .i64 1)) ?_ ?_
  · repeat' first
    | with_reducible refine reg_a ?_
    | simp [z0, z1, z2, z3, z4, z12, z18]
  rintro E ⟨z0, z1, z2, z3, z4, z12, z18, z20⟩
  refine seq_step ⟨[[.v (.int .i64 k), .v (.int .i64 0), .sl true []], [.v (.int .i64 k), .v (.int .i64 0), .sl false []]], noArrs ver⟩ (fun E => E 0 = pksAV true true l ∧ E 1 = trmsAV true t ∧ E 2 = intsAV true a ∧ E 3 = intsAV true b ∧ E 4 = intsAV true e ∧ E 12 = .box 0 0 ∧ E 18 = .box 1 0 ∧ E 20 = .v (.int .i64 1)) ?_ ?_
  · repeat' first
    | with_reducible refine reg_a ?_
    | with_reducible refine call_p (p_markSet0 false 1 k 0) (by simp) ?_
    | simp [z0, z1, z2, z3, z4, z12, z18, z20]
  rintro E ⟨z0, z1, z2, z3, z4, z12, z18, z20⟩
  refine seq_step ⟨[[.v (.int .i64 k), .v (.int .i64 0), .sl true []], [.v (.int .i64 k), .v (.int .i64 0), .sl false []]], noArrs ver⟩ (fun E => E 0 = pksAV true true l ∧ E 1 = trmsAV true t ∧ E 2 = intsAV true a ∧ E 3 = intsAV true b ∧ E 4 = intsAV true e ∧ E 12 = .box 0 0 ∧ E 18 = .box 1 0 ∧ E 20 = .v (.int .i64 1) ∧ E 21 = .v (.int .i64 1)) ?_ ?_
  · repeat' first
    | with_reducible refine reg_a ?_
    | simp [z0, z1, z2, z3, z4, z12, z18, z20]
  rintro E ⟨z0, z1, z2, z3, z4, z12, z18, z20, z21⟩
  refine seq_step ⟨[[.v (.int .i64 k), .v (.int .i64 0), .sl true []], [.v (.int .i64 k), .v (.int .i64 0), .sl false []]], noArrs ver⟩ (fun E => E 0 = pksAV true true l ∧ E 1 = trmsAV true t ∧ E 2 = intsAV true a ∧ E 3 = intsAV true b ∧ E 4 = intsAV true e ∧ E 12 = .box 0 0 ∧ E 18 = .box 1 0 ∧ E 20 = .v (.int .i64 1) ∧ E 21 = .v (.int .i64 1)) ?_ ?_
  · repeat' first
    | with_reducible refine reg_a ?_
    | with_reducible refine call_p (p_heldSet0 _ 1 k 0 (by omega) (by omega)) (by simp) ?_
    | simp [z0, z1, z2, z3, z4, z12, z18, z20, z21]
  rintro E ⟨z0, z1, z2, z3, z4, z12, z18, z20, z21⟩
  refine if_skip ⟨[[.v (.int .i64 k), .v (.int .i64 0), .sl true []], [.v (.int .i64 k), .v (.int .i64 0), .sl false []]], noArrs ver⟩ (fun E => E 0 = pksAV true true l ∧ E 1 = trmsAV true t ∧ E 2 = intsAV true a ∧ E 3 = intsAV true b ∧ E 4 = intsAV true e ∧ E 12 = .box 0 0 ∧ E 18 = .box 1 0 ∧ E 20 = .v (.int .i64 1) ∧ E 21 = .v (.int .i64 1)) ?_ ?_
  · repeat' first
    | with_reducible refine reg_a ?_
    | simp [z0, z1, z2, z3, z4, z12, z18, z20, z21, hq1]
  rintro E ⟨z0, z1, z2, z3, z4, z12, z18, z20, z21⟩
  refine if_skip ⟨[[.v (.int .i64 k), .v (.int .i64 0), .sl true []], [.v (.int .i64 k), .v (.int .i64 0), .sl false []]], noArrs ver⟩ (fun E => E 0 = pksAV true true l ∧ E 1 = trmsAV true t ∧ E 2 = intsAV true a ∧ E 3 = intsAV true b ∧ E 4 = intsAV true e ∧ E 12 = .box 0 0 ∧ E 18 = .box 1 0 ∧ E 20 = .v (.int .i64 1)) ?_ ?_
  · repeat' first
    | with_reducible refine reg_a ?_
    | simp [z0, z1, z2, z3, z4, z12, z18, z20, z21]
  rintro E ⟨z0, z1, z2, z3, z4, z12, z18, z20⟩
  refine seq_step ⟨[[.v (.int .i64 k), .v (.int .i64 0), .sl true []], [.v (.int .i64 k), .v (.int .i64 0), .sl false []], [.v (.int .i64 k), .v (.int .i64 0), .sl false []]], noArrs ver⟩ (fun E => E 12 = .box 0 0 ∧ E 18 = .box 1 0 ∧ E 20 = .v (.int .i64 1) ∧ E 22 = .box 2 0) ?_ ?_
  · repeat' first
    | with_reducible refine reg_a ?_
    | with_reducible refine call_p (t_pks true l hl) (by simp) ?_
    | with_reducible refine call_p (t_trms true t ht) (by simp) ?_
    | with_reducible refine call_p (t_ints true a ha) (by simp) ?_
    | with_reducible refine call_p (t_ints true b hb) (by simp) ?_
    | with_reducible refine call_p (t_ints true e he) (by simp) ?_
    | with_reducible refine call_p (hQ) (by simp) ?_
    | simp [z0, z1, z2, z3, z4, z12, z18, z20]
  rintro E ⟨z12, z18, z20, z22⟩
  refine if_skip ⟨[[.v (.int .i64 k), .v (.int .i64 0), .sl true []], [.v (.int .i64 k), .v (.int .i64 0), .sl false []], [.v (.int .i64 k), .v (.int .i64 0), .sl false []]], noArrs ver⟩ (fun E => E 18 = .box 1 0 ∧ E 20 = .v (.int .i64 1)) ?_ ?_
  · repeat' first
    | with_reducible refine reg_a ?_
    | with_reducible refine call_p (hE _ _) (by simp) ?_
    | simp [z12, z18, z20, z22]
  rintro E ⟨z18, z20⟩
  refine seq_step ⟨[[.v (.int .i64 k), .v (.int .i64 0), .sl true []], [.v (.int .i64 k), .v (.int .i64 0), .sl false []], [.v (.int .i64 k), .v (.int .i64 0), .sl false []]], noArrs ver⟩ (fun E => E 18 = .box 1 0 ∧ E 20 = .v (.int .i64 1) ∧ E 21 = .v (.int .i64 1)) ?_ ?_
  · repeat' first
    | with_reducible refine reg_a ?_
    | simp [z18, z20]
  rintro E ⟨z18, z20, z21⟩
  refine seq_step ⟨[[.v (.int .i64 k), .v (.int .i64 0), .sl true []], [.v (.int .i64 k), .v (.int .i64 0), .sl false []], [.v (.int .i64 k), .v (.int .i64 0), .sl false []]], noArrs ver⟩ (fun E => E 20 = .v (.int .i64 1) ∧ E 21 = .v (.int .i64 1)) ?_ ?_
  · repeat' first
    | with_reducible refine reg_a ?_
    | with_reducible refine call_p (p_heldSet0 _ 1 k 0 (by omega) (by omega)) (by simp) ?_
    | simp [z18, z20, z21]
  rintro E ⟨z20, z21⟩
  refine if_skip ⟨[[.v (.int .i64 k), .v (.int .i64 0), .sl true []], [.v (.int .i64 k), .v (.int .i64 0), .sl false []], [.v (.int .i64 k), .v (.int .i64 0), .sl false []]], noArrs ver⟩ (fun E => E 20 = .v (.int .i64 1) ∧ E 21 = .v (.int .i64 1)) ?_ ?_
  · repeat' first
    | with_reducible refine reg_a ?_
    | simp [z20, z21, hq1]
  rintro E ⟨z20, z21⟩
  refine if_skip ⟨[[.v (.int .i64 k), .v (.int .i64 0), .sl true []], [.v (.int .i64 k), .v (.int .i64 0), .sl false []], [.v (.int .i64 k), .v (.int .i64 0), .sl false []]], noArrs ver⟩ (fun _ => True) ?_ ?_
  · repeat' first
    | with_reducible refine reg_a ?_
    | simp [z20, z21]
  rintro E _
  refine seq_step ⟨[[.v (.int .i64 k), .v (.int .i64 0), .sl true []], [.v (.int .i64 k), .v (.int .i64 0), .sl false []], [.v (.int .i64 k), .v (.int .i64 0), .sl false []]], noArrs ver⟩ (fun E => E 10 = .v (.bool true)) ?_ ?_
  · repeat' first
    | with_reducible refine reg_a ?_
    | simp []
  rintro E z10
  simp [z10]

set_option maxHeartbeats 16000000 in
set_option maxRecDepth 10000 in
theorem l_cndB (l : List Pk) (hl : BigP l) (hls : StrP l) (t : List Trm) (ht : BigT t) (hts : StrT t) (a : List Int) (ha : BigI a) (b : List Int) (hb : BigI b) (e : List Int) (he : BigI e) (g0 : ¬ (1048576 : Int) < (a.length : Int)) (g1 : ¬ (1048576 : Int) < (b.length : Int)) (g2 : ¬ (1048576 : Int) < (e.length : Int)) (g3 : ¬ sz_pks l 1048576 < 0) (g4 : ¬ sz_trms t (sz_pks l 1048576) < 0) (h : cdC l t a b e = 0) :
    Pure Tryz.prog 5 [pksAV true true l, trmsAV true t, intsAV true a, intsAV true b, intsAV true e] (.v (.bool true)) := by
  obtain ⟨hl1, hl2⟩ := hl.len
  have ht4 : t.length ≤ 4611686018427387904 := by unfold BigT at ht; omega
  have ha3 : a.length ≤ 4611686018427387904 := by unfold BigI at ha; omega
  have hb3 : b.length ≤ 4611686018427387904 := by unfold BigI at hb; omega
  have he3 : e.length ≤ 4611686018427387904 := by unfold BigI at he; omega
  have hmk := (sz_pks_le hl hls (by decide) (by decide) g3).1
  have hsz := (sz_pks_le hl hls (by decide) (by decide) g3).2
  have hst := (sz_trms_le ht hts hsz (by omega) g4).1
  have hst2 := (sz_trms_le ht hts hsz (by omega) g4).2
  have hmt : mkT t = 7 * t.length := rfl
  have hq : ¬ 1 + (mkPs l : Int) + (mkT t : Int) + (a.length : Int) + (b.length : Int) + (e.length : Int) < 0 := by omega
  have hP := p_candidatesOf l hl1 hl2 t ht4 a b e ha3 hb3 he3
  have hQ := q_candidatesOfB l hl1 hl2 t ht4 a b e ha3 hb3 he3 h
  rw [cdR, if_pos h, h] at hP
  simp only [setRes] at hP hQ
  have hln : (candF l t a b e).length ≤ 24 := by
    have h1 := (catF_ok (cd_ok h).1).1
    have h2 := candF_len l t a b e
    omega
  obtain ⟨F, hF⟩ : ∃ F, F = candF l t a b e := ⟨_, rfl⟩
  rw [← hF] at hP hQ hln
  have htk : List.take F.length (List.map intCells (mlist 1 F.length)) = List.map intCells (mlist 1 F.length) := List.take_of_length_le (by simp)
  have hQ2 : Pure Tryz.prog 36 [pksAV false false l, trmsAV false t, intsAV false a, intsAV false b, intsAV false e] (.agg [.v (.int .i64 0), .v (.int .i64 0), intsAV false F]) := by
    have := OCall.pure hQ (by simp) (by simp)
    simpa using this
  have hq2 : ¬ 1 + (F.length : Int) < 0 := by omega
  clear h hF
  refine top_of_code (G := Gt) verst mixed0 Tryz.func5 rfl (by decide) (by simp [Tryz.f5]) (by simp) fun ver => ?_
  simp only [Tryz.f5, Gt]
  refine seq_step ⟨[], noArrs ver⟩ (fun E => E 0 = pksAV true true l ∧ E 1 = trmsAV true t ∧ E 2 = intsAV true a ∧ E 3 = intsAV true b ∧ E 4 = intsAV true e) ?_ ?_
  · repeat' first
    | with_reducible refine reg_a ?_
    | simp []
  rintro E ⟨z0, z1, z2, z3, z4⟩
  refine if_skip ⟨[], noArrs ver⟩ (fun E => E 0 = pksAV true true l ∧ E 1 = trmsAV true t ∧ E 2 = intsAV true a ∧ E 3 = intsAV true b ∧ E 4 = intsAV true e) ?_ ?_
  · repeat' first
    | with_reducible refine reg_a ?_
    | simp [z0, z1, z2, z3, z4, g0]
  rintro E ⟨z0, z1, z2, z3, z4⟩
  refine if_skip ⟨[], noArrs ver⟩ (fun E => E 0 = pksAV true true l ∧ E 1 = trmsAV true t ∧ E 2 = intsAV true a ∧ E 3 = intsAV true b ∧ E 4 = intsAV true e) ?_ ?_
  · repeat' first
    | with_reducible refine reg_a ?_
    | simp [z0, z1, z2, z3, z4, g1]
  rintro E ⟨z0, z1, z2, z3, z4⟩
  refine if_skip ⟨[], noArrs ver⟩ (fun E => E 0 = pksAV true true l ∧ E 1 = trmsAV true t ∧ E 2 = intsAV true a ∧ E 3 = intsAV true b ∧ E 4 = intsAV true e) ?_ ?_
  · repeat' first
    | with_reducible refine reg_a ?_
    | simp [z0, z1, z2, z3, z4, g2]
  rintro E ⟨z0, z1, z2, z3, z4⟩
  refine seq_step ⟨[], noArrs ver⟩ (fun E => E 0 = pksAV true true l ∧ E 1 = trmsAV true t ∧ E 2 = intsAV true a ∧ E 3 = intsAV true b ∧ E 4 = intsAV true e ∧ E 11 = .v (.int .i64 1048576)) ?_ ?_
  · repeat' first
    | with_reducible refine reg_a ?_
    | simp [z0, z1, z2, z3, z4]
  rintro E ⟨z0, z1, z2, z3, z4, z11⟩
  refine seq_step ⟨[], noArrs ver⟩ (fun E => E 0 = pksAV true true l ∧ E 1 = trmsAV true t ∧ E 2 = intsAV true a ∧ E 3 = intsAV true b ∧ E 4 = intsAV true e ∧ E 11 = .v (.int .i64 (sz_pks l 1048576))) ?_ ?_
  · repeat' first
    | with_reducible refine reg_a ?_
    | with_reducible refine call_p (z_pks true l hl _) (by simp) ?_
    | simp [z0, z1, z2, z3, z4, z11]
  rintro E ⟨z0, z1, z2, z3, z4, z11⟩
  refine if_skip ⟨[], noArrs ver⟩ (fun E => E 0 = pksAV true true l ∧ E 1 = trmsAV true t ∧ E 2 = intsAV true a ∧ E 3 = intsAV true b ∧ E 4 = intsAV true e ∧ E 11 = .v (.int .i64 (sz_pks l 1048576))) ?_ ?_
  · repeat' first
    | with_reducible refine reg_a ?_
    | simp [z0, z1, z2, z3, z4, z11, g3]
  rintro E ⟨z0, z1, z2, z3, z4, z11⟩
  refine seq_step ⟨[], noArrs ver⟩ (fun E => E 0 = pksAV true true l ∧ E 1 = trmsAV true t ∧ E 2 = intsAV true a ∧ E 3 = intsAV true b ∧ E 4 = intsAV true e ∧ E 11 = .v (.int .i64 (sz_trms t (sz_pks l 1048576)))) ?_ ?_
  · repeat' first
    | with_reducible refine reg_a ?_
    | with_reducible refine call_p (z_trms true t ht _) (by simp) ?_
    | simp [z0, z1, z2, z3, z4, z11]
  rintro E ⟨z0, z1, z2, z3, z4, z11⟩
  refine if_skip ⟨[], noArrs ver⟩ (fun E => E 0 = pksAV true true l ∧ E 1 = trmsAV true t ∧ E 2 = intsAV true a ∧ E 3 = intsAV true b ∧ E 4 = intsAV true e) ?_ ?_
  · repeat' first
    | with_reducible refine reg_a ?_
    | simp [z0, z1, z2, z3, z4, z11, g4]
  rintro E ⟨z0, z1, z2, z3, z4⟩
  refine seq_step ⟨[[.v (.int .i64 0), .v (.int .i64 0), intsAV false F]], noArrs ver⟩ (fun E => E 0 = pksAV true true l ∧ E 1 = trmsAV true t ∧ E 2 = intsAV true a ∧ E 3 = intsAV true b ∧ E 4 = intsAV true e ∧ E 12 = .box 0 0) ?_ ?_
  · repeat' first
    | with_reducible refine reg_a ?_
    | with_reducible refine call_p (t_pks true l hl) (by simp) ?_
    | with_reducible refine call_p (t_trms true t ht) (by simp) ?_
    | with_reducible refine call_p (t_ints true a ha) (by simp) ?_
    | with_reducible refine call_p (t_ints true b hb) (by simp) ?_
    | with_reducible refine call_p (t_ints true e he) (by simp) ?_
    | with_reducible refine call_p (hP) (by simp) ?_
    | simp [z0, z1, z2, z3, z4]
  rintro E ⟨z0, z1, z2, z3, z4, z12⟩
  refine seq_step ⟨[[.v (.int .i64 0), .v (.int .i64 0), intsAV true F]], noArrs ver⟩ (fun E => E 0 = pksAV true true l ∧ E 1 = trmsAV true t ∧ E 2 = intsAV true a ∧ E 3 = intsAV true b ∧ E 4 = intsAV true e ∧ E 12 = .box 0 0 ∧ E 13 = pksAV false false l) ?_ ?_
  · simp [z0, z1, z2, z3, z4, z12]
    refine reg_ok 0 [(0, pksAV true true l), (1, trmsAV true t), (2, intsAV true a), (3, intsAV true b), (4, intsAV true e), (12, .box 0 0)] [[.v (.int .i64 0), .v (.int .i64 0), intsAV false F]] [[.v (.int .i64 0), .v (.int .i64 0), intsAV true F]] (by simp) (by intro i; simp) (by simp) (by simp [OldsK_cons, OldsK_nil, z0, z1, z2, z3, z4, z12]) (by simp [OldsB, OldsR]) ?_
    repeat' first
    | with_reducible refine call_p (t_pks true l hl) (by simp) ?_
    | simp [z0, z1, z2, z3, z4, z12]
  rintro E ⟨z0, z1, z2, z3, z4, z12, z13⟩
  refine seq_step ⟨[[.v (.int .i64 0), .v (.int .i64 0), intsAV true F]], noArrs ver⟩ (fun E => E 0 = pksAV true true l ∧ E 1 = trmsAV true t ∧ E 2 = intsAV true a ∧ E 3 = intsAV true b ∧ E 4 = intsAV true e ∧ E 12 = .box 0 0 ∧ E 13 = pksAV false false l ∧ E 14 = trmsAV false t) ?_ ?_
  · repeat' first
    | with_reducible refine reg_a ?_
    | with_reducible refine call_p (t_trms true t ht) (by simp) ?_
    | simp [z0, z1, z2, z3, z4, z12, z13]
  rintro E ⟨z0, z1, z2, z3, z4, z12, z13, z14⟩
  refine seq_step ⟨[[.v (.int .i64 0), .v (.int .i64 0), intsAV true F]], noArrs ver⟩ (fun E => E 0 = pksAV true true l ∧ E 1 = trmsAV true t ∧ E 2 = intsAV true a ∧ E 3 = intsAV true b ∧ E 4 = intsAV true e ∧ E 12 = .box 0 0 ∧ E 13 = pksAV false false l ∧ E 14 = trmsAV false t ∧ E 15 = intsAV false a) ?_ ?_
  · repeat' first
    | with_reducible refine reg_a ?_
    | with_reducible refine call_p (t_ints true a ha) (by simp) ?_
    | simp [z0, z1, z2, z3, z4, z12, z13, z14]
  rintro E ⟨z0, z1, z2, z3, z4, z12, z13, z14, z15⟩
  refine seq_step ⟨[[.v (.int .i64 0), .v (.int .i64 0), intsAV true F]], noArrs ver⟩ (fun E => E 0 = pksAV true true l ∧ E 1 = trmsAV true t ∧ E 2 = intsAV true a ∧ E 3 = intsAV true b ∧ E 4 = intsAV true e ∧ E 12 = .box 0 0 ∧ E 13 = pksAV false false l ∧ E 14 = trmsAV false t ∧ E 15 = intsAV false a ∧ E 16 = intsAV false b) ?_ ?_
  · repeat' first
    | with_reducible refine reg_a ?_
    | with_reducible refine call_p (t_ints true b hb) (by simp) ?_
    | simp [z0, z1, z2, z3, z4, z12, z13, z14, z15]
  rintro E ⟨z0, z1, z2, z3, z4, z12, z13, z14, z15, z16⟩
  refine seq_step ⟨[[.v (.int .i64 0), .v (.int .i64 0), intsAV true F]], noArrs ver⟩ (fun E => E 0 = pksAV true true l ∧ E 1 = trmsAV true t ∧ E 2 = intsAV true a ∧ E 3 = intsAV true b ∧ E 4 = intsAV true e ∧ E 12 = .box 0 0 ∧ E 13 = pksAV false false l ∧ E 14 = trmsAV false t ∧ E 15 = intsAV false a ∧ E 16 = intsAV false b ∧ E 17 = intsAV false e) ?_ ?_
  · repeat' first
    | with_reducible refine reg_a ?_
    | with_reducible refine call_p (t_ints true e he) (by simp) ?_
    | simp [z0, z1, z2, z3, z4, z12, z13, z14, z15, z16]
  rintro E ⟨z0, z1, z2, z3, z4, z12, z13, z14, z15, z16, z17⟩
  refine seq_step ⟨[[.v (.int .i64 0), .v (.int .i64 0), intsAV true F], [.v (.int .i64 0), .v (.int .i64 0), .arr 68 (ver 68 + 1) 0 F.length]], arrW 68 (ver 68 + 1) 2 (F.map intCells) ver⟩ (fun E => E 0 = pksAV true true l ∧ E 1 = trmsAV true t ∧ E 2 = intsAV true a ∧ E 3 = intsAV true b ∧ E 4 = intsAV true e ∧ E 12 = .box 0 0 ∧ E 13 = pksAV false false l ∧ E 14 = trmsAV false t ∧ E 15 = intsAV false a ∧ E 16 = intsAV false b ∧ E 17 = intsAV false e ∧ E 18 = .box 1 0) ?_ ?_
  · repeat' first
    | with_reducible refine reg_a ?_
    | with_reducible refine call_n 68 hQ (by simp) ?_
    | simp [z0, z1, z2, z3, z4, z12, z13, z14, z15, z16, z17, noArrs_put]
  rintro E ⟨z0, z1, z2, z3, z4, z12, z13, z14, z15, z16, z17, z18⟩
  refine if_skip ⟨[[.v (.int .i64 0), .v (.int .i64 0), intsAV true F], [.v (.int .i64 0), .v (.int .i64 0), .arr 68 (ver 68 + 1) 0 F.length]], arrW 68 (ver 68 + 1) 2 (F.map intCells) ver⟩ (fun E => E 0 = pksAV true true l ∧ E 1 = trmsAV true t ∧ E 2 = intsAV true a ∧ E 3 = intsAV true b ∧ E 4 = intsAV true e ∧ E 12 = .box 0 0 ∧ E 13 = pksAV false false l ∧ E 14 = trmsAV false t ∧ E 15 = intsAV false a ∧ E 16 = intsAV false b ∧ E 17 = intsAV false e ∧ E 18 = .box 1 0) ?_ ?_
  · repeat' first
    | with_reducible refine reg_a ?_
    | with_reducible refine call_p (e_set true true F (by omega) 0 0) (by simp) ?_
    | with_reducible refine call_p (e_set false true F (by omega) 0 0) (by simp) ?_
    | simp [z0, z1, z2, z3, z4, z12, z13, z14, z15, z16, z17, z18]
  rintro E ⟨z0, z1, z2, z3, z4, z12, z13, z14, z15, z16, z17, z18⟩
  refine if_skip ⟨[[.v (.int .i64 0), .v (.int .i64 0), intsAV true F], [.v (.int .i64 0), .v (.int .i64 0), .arr 68 (ver 68 + 1) 0 F.length]], arrW 68 (ver 68 + 1) 2 (F.map intCells) ver⟩ (fun E => E 0 = pksAV true true l ∧ E 1 = trmsAV true t ∧ E 2 = intsAV true a ∧ E 3 = intsAV true b ∧ E 4 = intsAV true e ∧ E 12 = .box 0 0 ∧ E 13 = pksAV false false l ∧ E 14 = trmsAV false t ∧ E 15 = intsAV false a ∧ E 16 = intsAV false b ∧ E 17 = intsAV false e ∧ E 18 = .box 1 0) ?_ ?_
  · repeat' first
    | with_reducible refine reg_a ?_
    | with_reducible refine call_p (t_pks true l hl) (by simp) ?_
    | with_reducible refine call_p (e_pks false false l hl1 hl2) (by simp) ?_
    | simp [z0, z1, z2, z3, z4, z12, z13, z14, z15, z16, z17, z18]
  rintro E ⟨z0, z1, z2, z3, z4, z12, z13, z14, z15, z16, z17, z18⟩
  refine if_skip ⟨[[.v (.int .i64 0), .v (.int .i64 0), intsAV true F], [.v (.int .i64 0), .v (.int .i64 0), .arr 68 (ver 68 + 1) 0 F.length]], arrW 68 (ver 68 + 1) 2 (F.map intCells) ver⟩ (fun E => E 0 = pksAV true true l ∧ E 1 = trmsAV true t ∧ E 2 = intsAV true a ∧ E 3 = intsAV true b ∧ E 4 = intsAV true e ∧ E 12 = .box 0 0 ∧ E 13 = pksAV false false l ∧ E 14 = trmsAV false t ∧ E 15 = intsAV false a ∧ E 16 = intsAV false b ∧ E 17 = intsAV false e ∧ E 18 = .box 1 0) ?_ ?_
  · repeat' first
    | with_reducible refine reg_a ?_
    | with_reducible refine call_p (t_trms true t ht) (by simp) ?_
    | with_reducible refine call_p (e_trms false false t ht4) (by simp) ?_
    | simp [z0, z1, z2, z3, z4, z12, z13, z14, z15, z16, z17, z18]
  rintro E ⟨z0, z1, z2, z3, z4, z12, z13, z14, z15, z16, z17, z18⟩
  refine if_skip ⟨[[.v (.int .i64 0), .v (.int .i64 0), intsAV true F], [.v (.int .i64 0), .v (.int .i64 0), .arr 68 (ver 68 + 1) 0 F.length]], arrW 68 (ver 68 + 1) 2 (F.map intCells) ver⟩ (fun E => E 0 = pksAV true true l ∧ E 1 = trmsAV true t ∧ E 2 = intsAV true a ∧ E 3 = intsAV true b ∧ E 4 = intsAV true e ∧ E 12 = .box 0 0 ∧ E 13 = pksAV false false l ∧ E 14 = trmsAV false t ∧ E 15 = intsAV false a ∧ E 16 = intsAV false b ∧ E 17 = intsAV false e ∧ E 18 = .box 1 0) ?_ ?_
  · repeat' first
    | with_reducible refine reg_a ?_
    | with_reducible refine call_p (t_ints true a ha) (by simp) ?_
    | with_reducible refine call_p (e_ints false false a ha3) (by simp) ?_
    | with_reducible refine call_p (e_ints false false b hb3) (by simp) ?_
    | with_reducible refine call_p (e_ints false false e he3) (by simp) ?_
    | simp [z0, z1, z2, z3, z4, z12, z13, z14, z15, z16, z17, z18]
  rintro E ⟨z0, z1, z2, z3, z4, z12, z13, z14, z15, z16, z17, z18⟩
  refine if_skip ⟨[[.v (.int .i64 0), .v (.int .i64 0), intsAV true F], [.v (.int .i64 0), .v (.int .i64 0), .arr 68 (ver 68 + 1) 0 F.length]], arrW 68 (ver 68 + 1) 2 (F.map intCells) ver⟩ (fun E => E 0 = pksAV true true l ∧ E 1 = trmsAV true t ∧ E 2 = intsAV true a ∧ E 3 = intsAV true b ∧ E 4 = intsAV true e ∧ E 12 = .box 0 0 ∧ E 13 = pksAV false false l ∧ E 14 = trmsAV false t ∧ E 15 = intsAV false a ∧ E 16 = intsAV false b ∧ E 17 = intsAV false e ∧ E 18 = .box 1 0) ?_ ?_
  · repeat' first
    | with_reducible refine reg_a ?_
    | with_reducible refine call_p (t_ints true b hb) (by simp) ?_
    | with_reducible refine call_p (e_ints false false a ha3) (by simp) ?_
    | with_reducible refine call_p (e_ints false false b hb3) (by simp) ?_
    | with_reducible refine call_p (e_ints false false e he3) (by simp) ?_
    | simp [z0, z1, z2, z3, z4, z12, z13, z14, z15, z16, z17, z18]
  rintro E ⟨z0, z1, z2, z3, z4, z12, z13, z14, z15, z16, z17, z18⟩
  refine if_skip ⟨[[.v (.int .i64 0), .v (.int .i64 0), intsAV true F], [.v (.int .i64 0), .v (.int .i64 0), .arr 68 (ver 68 + 1) 0 F.length]], arrW 68 (ver 68 + 1) 2 (F.map intCells) ver⟩ (fun E => E 0 = pksAV true true l ∧ E 1 = trmsAV true t ∧ E 2 = intsAV true a ∧ E 3 = intsAV true b ∧ E 4 = intsAV true e ∧ E 12 = .box 0 0 ∧ E 13 = pksAV false false l ∧ E 14 = trmsAV false t ∧ E 15 = intsAV false a ∧ E 16 = intsAV false b ∧ E 17 = intsAV false e ∧ E 18 = .box 1 0) ?_ ?_
  · repeat' first
    | with_reducible refine reg_a ?_
    | with_reducible refine call_p (t_ints true e he) (by simp) ?_
    | with_reducible refine call_p (e_ints false false a ha3) (by simp) ?_
    | with_reducible refine call_p (e_ints false false b hb3) (by simp) ?_
    | with_reducible refine call_p (e_ints false false e he3) (by simp) ?_
    | simp [z0, z1, z2, z3, z4, z12, z13, z14, z15, z16, z17, z18]
  rintro E ⟨z0, z1, z2, z3, z4, z12, z13, z14, z15, z16, z17, z18⟩
  refine seq_step ⟨[[.v (.int .i64 0), .v (.int .i64 0), intsAV true F], [.v (.int .i64 0), .v (.int .i64 0), .arr 68 (ver 68 + 1) 0 F.length]], arrW 68 (ver 68 + 1) 2 (F.map intCells) ver⟩ (fun E => E 0 = pksAV true true l ∧ E 1 = trmsAV true t ∧ E 2 = intsAV true a ∧ E 3 = intsAV true b ∧ E 4 = intsAV true e ∧ E 12 = .box 0 0 ∧ E 13 = pksAV false false l ∧ E 14 = trmsAV false t ∧ E 15 = intsAV false a ∧ E 16 = intsAV false b ∧ E 17 = intsAV false e ∧ E 18 = .box 1 0 ∧ E 19 = .v (.int .i64 1)) ?_ ?_
  · repeat' first
    | with_reducible refine reg_a ?_
    | simp [z0, z1, z2, z3, z4, z12, z13, z14, z15, z16, z17, z18]
  rintro E ⟨z0, z1, z2, z3, z4, z12, z13, z14, z15, z16, z17, z18, z19⟩
  refine seq_step ⟨[[.v (.int .i64 0), .v (.int .i64 0), intsAV true F], [.v (.int .i64 0), .v (.int .i64 0), .arr 68 (ver 68 + 1) 0 F.length]], arrW 68 (ver 68 + 1) 2 (F.map intCells) ver⟩ (fun E => E 0 = pksAV true true l ∧ E 1 = trmsAV true t ∧ E 2 = intsAV true a ∧ E 3 = intsAV true b ∧ E 4 = intsAV true e ∧ E 12 = .box 0 0 ∧ E 14 = wtrmsAV t ∧ E 15 = wintsAV a ∧ E 16 = wintsAV b ∧ E 17 = wintsAV e ∧ E 18 = .box 1 0 ∧ E 19 = .v (.int .i64 (1 + (mkPs l : Int)))) ?_ ?_
  · simp [z0, z1, z2, z3, z4, z12, z13, z14, z15, z16, z17, z18, z19]
    refine reg_k 2 ?_
    simp [z0, z1, z2, z3, z4, z12, z13, z14, z15, z16, z17, z18, z19]
    refine mark_b 0 [(0, pksAV true true l), (1, trmsAV true t), (2, intsAV true a), (3, intsAV true b), (4, intsAV true e), (12, .box 0 0), (14, wtrmsAV t), (15, wintsAV a), (16, wintsAV b), (17, wintsAV e), (18, .box 1 0)] [[.v (.int .i64 0), .v (.int .i64 0), intsAV true F], [.v (.int .i64 0), .v (.int .i64 0), .arr 68 (ver 68 + 1) 0 F.length]] [[.v (.int .i64 0), .v (.int .i64 0), intsAV true F], [.v (.int .i64 0), .v (.int .i64 0), .arr 68 (ver 68 + 1) 0 F.length]] (by simp) (w_pks l hl2 hl1 (1) (by omega) (by omega)) (by simp [WArgL]) (by simp) (by simp [StayB, StayR]) (arrW_stay (stayr_map F stayc_int)) (by simp) (by simp [WKeep_cons, WKeep_nil, z0, z1, z2, z3, z4, z12, z13, z14, z15, z16, z17, z18, z19]) ?_
    repeat' first
    | simp [z0, z1, z2, z3, z4, z12, z13, z14, z15, z16, z17, z18, z19]
  rintro E ⟨z0, z1, z2, z3, z4, z12, z14, z15, z16, z17, z18, z19⟩
  refine seq_step ⟨[[.v (.int .i64 0), .v (.int .i64 0), intsAV true F], [.v (.int .i64 0), .v (.int .i64 0), .arr 68 (ver 68 + 1) 0 F.length]], arrW 68 (ver 68 + 1) 2 (F.map intCells) ver⟩ (fun E => E 0 = pksAV true true l ∧ E 1 = trmsAV true t ∧ E 2 = intsAV true a ∧ E 3 = intsAV true b ∧ E 4 = intsAV true e ∧ E 12 = .box 0 0 ∧ E 15 = wintsAV a ∧ E 16 = wintsAV b ∧ E 17 = wintsAV e ∧ E 18 = .box 1 0 ∧ E 19 = .v (.int .i64 (1 + (mkPs l : Int) + (mkT t : Int)))) ?_ ?_
  · simp [z0, z1, z2, z3, z4, z12, z14, z15, z16, z17, z18, z19]
    refine reg_k 2 ?_
    simp [z0, z1, z2, z3, z4, z12, z14, z15, z16, z17, z18, z19]
    refine mark_b 0 [(0, pksAV true true l), (1, trmsAV true t), (2, intsAV true a), (3, intsAV true b), (4, intsAV true e), (12, .box 0 0), (15, wintsAV a), (16, wintsAV b), (17, wintsAV e), (18, .box 1 0)] [[.v (.int .i64 0), .v (.int .i64 0), intsAV true F], [.v (.int .i64 0), .v (.int .i64 0), .arr 68 (ver 68 + 1) 0 F.length]] [[.v (.int .i64 0), .v (.int .i64 0), intsAV true F], [.v (.int .i64 0), .v (.int .i64 0), .arr 68 (ver 68 + 1) 0 F.length]] (by simp) (w_trms t (1 + (mkPs l : Int)) (by omega) (by omega)) (by simp [WArgL]) (by simp) (by simp [StayB, StayR]) (arrW_stay (stayr_map F stayc_int)) (by simp) (by simp [WKeep_cons, WKeep_nil, z0, z1, z2, z3, z4, z12, z14, z15, z16, z17, z18, z19]) ?_
    repeat' first
    | simp [z0, z1, z2, z3, z4, z12, z14, z15, z16, z17, z18, z19]
  rintro E ⟨z0, z1, z2, z3, z4, z12, z15, z16, z17, z18, z19⟩
  refine seq_step ⟨[[.v (.int .i64 0), .v (.int .i64 0), intsAV true F], [.v (.int .i64 0), .v (.int .i64 0), .arr 68 (ver 68 + 1) 0 F.length]], arrW 68 (ver 68 + 1) 2 (F.map intCells) ver⟩ (fun E => E 0 = pksAV true true l ∧ E 1 = trmsAV true t ∧ E 2 = intsAV true a ∧ E 3 = intsAV true b ∧ E 4 = intsAV true e ∧ E 12 = .box 0 0 ∧ E 16 = wintsAV b ∧ E 17 = wintsAV e ∧ E 18 = .box 1 0 ∧ E 19 = .v (.int .i64 (1 + (mkPs l : Int) + (mkT t : Int) + (a.length : Int)))) ?_ ?_
  · simp [z0, z1, z2, z3, z4, z12, z15, z16, z17, z18, z19]
    refine reg_k 2 ?_
    simp [z0, z1, z2, z3, z4, z12, z15, z16, z17, z18, z19]
    refine mark_b 0 [(0, pksAV true true l), (1, trmsAV true t), (2, intsAV true a), (3, intsAV true b), (4, intsAV true e), (12, .box 0 0), (16, wintsAV b), (17, wintsAV e), (18, .box 1 0)] [[.v (.int .i64 0), .v (.int .i64 0), intsAV true F], [.v (.int .i64 0), .v (.int .i64 0), .arr 68 (ver 68 + 1) 0 F.length]] [[.v (.int .i64 0), .v (.int .i64 0), intsAV true F], [.v (.int .i64 0), .v (.int .i64 0), .arr 68 (ver 68 + 1) 0 F.length]] (by simp) (w_ints a (1 + (mkPs l : Int) + (mkT t : Int)) (by omega) (by omega)) (by simp [WArgL]) (by simp) (by simp [StayB, StayR]) (arrW_stay (stayr_map F stayc_int)) (by simp) (by simp [WKeep_cons, WKeep_nil, z0, z1, z2, z3, z4, z12, z15, z16, z17, z18, z19]) ?_
    repeat' first
    | simp [z0, z1, z2, z3, z4, z12, z15, z16, z17, z18, z19]
  rintro E ⟨z0, z1, z2, z3, z4, z12, z16, z17, z18, z19⟩
  refine seq_step ⟨[[.v (.int .i64 0), .v (.int .i64 0), intsAV true F], [.v (.int .i64 0), .v (.int .i64 0), .arr 68 (ver 68 + 1) 0 F.length]], arrW 68 (ver 68 + 1) 2 (F.map intCells) ver⟩ (fun E => E 0 = pksAV true true l ∧ E 1 = trmsAV true t ∧ E 2 = intsAV true a ∧ E 3 = intsAV true b ∧ E 4 = intsAV true e ∧ E 12 = .box 0 0 ∧ E 17 = wintsAV e ∧ E 18 = .box 1 0 ∧ E 19 = .v (.int .i64 (1 + (mkPs l : Int) + (mkT t : Int) + (a.length : Int) + (b.length : Int)))) ?_ ?_
  · simp [z0, z1, z2, z3, z4, z12, z16, z17, z18, z19]
    refine reg_k 2 ?_
    simp [z0, z1, z2, z3, z4, z12, z16, z17, z18, z19]
    refine mark_b 0 [(0, pksAV true true l), (1, trmsAV true t), (2, intsAV true a), (3, intsAV true b), (4, intsAV true e), (12, .box 0 0), (17, wintsAV e), (18, .box 1 0)] [[.v (.int .i64 0), .v (.int .i64 0), intsAV true F], [.v (.int .i64 0), .v (.int .i64 0), .arr 68 (ver 68 + 1) 0 F.length]] [[.v (.int .i64 0), .v (.int .i64 0), intsAV true F], [.v (.int .i64 0), .v (.int .i64 0), .arr 68 (ver 68 + 1) 0 F.length]] (by simp) (w_ints b (1 + (mkPs l : Int) + (mkT t : Int) + (a.length : Int)) (by omega) (by omega)) (by simp [WArgL]) (by simp) (by simp [StayB, StayR]) (arrW_stay (stayr_map F stayc_int)) (by simp) (by simp [WKeep_cons, WKeep_nil, z0, z1, z2, z3, z4, z12, z16, z17, z18, z19]) ?_
    repeat' first
    | simp [z0, z1, z2, z3, z4, z12, z16, z17, z18, z19]
  rintro E ⟨z0, z1, z2, z3, z4, z12, z17, z18, z19⟩
  refine seq_step ⟨[[.v (.int .i64 0), .v (.int .i64 0), intsAV true F], [.v (.int .i64 0), .v (.int .i64 0), .arr 68 (ver 68 + 1) 0 F.length]], arrW 68 (ver 68 + 1) 2 (F.map intCells) ver⟩ (fun E => E 0 = pksAV true true l ∧ E 1 = trmsAV true t ∧ E 2 = intsAV true a ∧ E 3 = intsAV true b ∧ E 4 = intsAV true e ∧ E 12 = .box 0 0 ∧ E 18 = .box 1 0 ∧ E 19 = .v (.int .i64 (1 + (mkPs l : Int) + (mkT t : Int) + (a.length : Int) + (b.length : Int) + (e.length : Int)))) ?_ ?_
  · simp [z0, z1, z2, z3, z4, z12, z17, z18, z19]
    refine reg_k 2 ?_
    simp [z0, z1, z2, z3, z4, z12, z17, z18, z19]
    refine mark_b 0 [(0, pksAV true true l), (1, trmsAV true t), (2, intsAV true a), (3, intsAV true b), (4, intsAV true e), (12, .box 0 0), (18, .box 1 0)] [[.v (.int .i64 0), .v (.int .i64 0), intsAV true F], [.v (.int .i64 0), .v (.int .i64 0), .arr 68 (ver 68 + 1) 0 F.length]] [[.v (.int .i64 0), .v (.int .i64 0), intsAV true F], [.v (.int .i64 0), .v (.int .i64 0), .arr 68 (ver 68 + 1) 0 F.length]] (by simp) (w_ints e (1 + (mkPs l : Int) + (mkT t : Int) + (a.length : Int) + (b.length : Int)) (by omega) (by omega)) (by simp [WArgL]) (by simp) (by simp [StayB, StayR]) (arrW_stay (stayr_map F stayc_int)) (by simp) (by simp [WKeep_cons, WKeep_nil, z0, z1, z2, z3, z4, z12, z17, z18, z19]) ?_
    repeat' first
    | simp [z0, z1, z2, z3, z4, z12, z17, z18, z19]
  rintro E ⟨z0, z1, z2, z3, z4, z12, z18, z19⟩
  refine if_skip ⟨[[.v (.int .i64 0), .v (.int .i64 0), intsAV true F], [.v (.int .i64 0), .v (.int .i64 0), .arr 68 (ver 68 + 1) 0 F.length]], arrW 68 (ver 68 + 1) 2 (F.map intCells) ver⟩ (fun E => E 0 = pksAV true true l ∧ E 1 = trmsAV true t ∧ E 2 = intsAV true a ∧ E 3 = intsAV true b ∧ E 4 = intsAV true e ∧ E 12 = .box 0 0 ∧ E 18 = .box 1 0) ?_ ?_
  · repeat' first
    | with_reducible refine reg_a ?_
    | with_reducible refine call_p (e_set true true F (by omega) 0 0) (by simp) ?_
    | with_reducible refine call_p (e_set false true F (by omega) 0 0) (by simp) ?_
    | simp [z0, z1, z2, z3, z4, z12, z18, z19, hq]
  rintro E ⟨z0, z1, z2, z3, z4, z12, z18⟩
  refine seq_step ⟨[[.v (.int .i64 0), .v (.int .i64 0), intsAV true F], [.v (.int .i64 0), .v (.int .i64 0), .arr 68 (ver 68 + 1) 0 F.length]], arrW 68 (ver 68 + 1) 2 (F.map intCells) ver⟩ (fun E => E 0 = pksAV true true l ∧ E 1 = trmsAV true t ∧ E 2 = intsAV true a ∧ E 3 = intsAV true b ∧ E 4 = intsAV true e ∧ E 12 = .box 0 0 ∧ E 18 = .box 1 0 ∧ E 20 = .v (.int .i64 1)) ?_ ?_
  · repeat' first
    | with_reducible refine reg_a ?_
    | simp [z0, z1, z2, z3, z4, z12, z18]
  rintro E ⟨z0, z1, z2, z3, z4, z12, z18, z20⟩
  refine seq_step ⟨[[.v (.int .i64 0), .v (.int .i64 0), intsAV true F], [.v (.int .i64 0), .v (.int .i64 0), .arr 68 (ver 68 + 1) 0 F.length]], arrW 68 (ver 68 + 1) 2 ((mlist 1 F.length).map intCells) ver⟩ (fun E => E 0 = pksAV true true l ∧ E 1 = trmsAV true t ∧ E 2 = intsAV true a ∧ E 3 = intsAV true b ∧ E 4 = intsAV true e ∧ E 12 = .box 0 0 ∧ E 18 = .box 1 0 ∧ E 20 = .v (.int .i64 (1 + (F.length : Int)))) ?_ ?_
  · repeat' first
    | with_reducible refine reg_a ?_
    | with_reducible refine call_s 68 (ver 68 + 1) 2 (F.map intCells) (by simp) (o_markSet F 1 0 0 (by omega) (by omega)) (by simp) (by simp) (fr_int _) ?_
    | simp [z0, z1, z2, z3, z4, z12, z18, z20, arrW_put]
  rintro E ⟨z0, z1, z2, z3, z4, z12, z18, z20⟩
  refine seq_step ⟨[[.v (.int .i64 0), .v (.int .i64 0), intsAV true F], [.v (.int .i64 0), .v (.int .i64 0), .arr 68 (ver 68 + 1) 0 F.length]], arrW 68 (ver 68 + 1) 2 ((mlist 1 F.length).map intCells) ver⟩ (fun E => E 0 = pksAV true true l ∧ E 1 = trmsAV true t ∧ E 2 = intsAV true a ∧ E 3 = intsAV true b ∧ E 4 = intsAV true e ∧ E 12 = .box 0 0 ∧ E 18 = .box 1 0 ∧ E 20 = .v (.int .i64 (1 + (F.length : Int))) ∧ E 21 = .v (.int .i64 1)) ?_ ?_
  · repeat' first
    | with_reducible refine reg_a ?_
    | simp [z0, z1, z2, z3, z4, z12, z18, z20]
  rintro E ⟨z0, z1, z2, z3, z4, z12, z18, z20, z21⟩
  refine seq_step ⟨[[.v (.int .i64 0), .v (.int .i64 0), intsAV true F], [.v (.int .i64 0), .v (.int .i64 0), .arr 68 (ver 68 + 1) 0 F.length]], arrW 68 (ver 68 + 1) 2 ((mlist 1 F.length).map intCells) ver⟩ (fun E => E 0 = pksAV true true l ∧ E 1 = trmsAV true t ∧ E 2 = intsAV true a ∧ E 3 = intsAV true b ∧ E 4 = intsAV true e ∧ E 12 = .box 0 0 ∧ E 18 = .box 1 0 ∧ E 20 = .v (.int .i64 (1 + (F.length : Int))) ∧ E 21 = .v (.int .i64 (1 + (F.length : Int)))) ?_ ?_
  · repeat' first
    | with_reducible refine reg_a ?_
    | with_reducible refine call_p (p_heldSet true F.length 1 0 0 (by omega) (by omega)) (by simp) ?_
    | simp [z0, z1, z2, z3, z4, z12, z18, z20, z21, htk]
  rintro E ⟨z0, z1, z2, z3, z4, z12, z18, z20, z21⟩
  refine if_skip ⟨[[.v (.int .i64 0), .v (.int .i64 0), intsAV true F], [.v (.int .i64 0), .v (.int .i64 0), .arr 68 (ver 68 + 1) 0 F.length]], arrW 68 (ver 68 + 1) 2 ((mlist 1 F.length).map intCells) ver⟩ (fun E => E 0 = pksAV true true l ∧ E 1 = trmsAV true t ∧ E 2 = intsAV true a ∧ E 3 = intsAV true b ∧ E 4 = intsAV true e ∧ E 12 = .box 0 0 ∧ E 18 = .box 1 0 ∧ E 20 = .v (.int .i64 (1 + (F.length : Int))) ∧ E 21 = .v (.int .i64 (1 + (F.length : Int)))) ?_ ?_
  · repeat' first
    | with_reducible refine reg_a ?_
    | simp [z0, z1, z2, z3, z4, z12, z18, z20, z21, hq2]
  rintro E ⟨z0, z1, z2, z3, z4, z12, z18, z20, z21⟩
  refine if_skip ⟨[[.v (.int .i64 0), .v (.int .i64 0), intsAV true F], [.v (.int .i64 0), .v (.int .i64 0), .arr 68 (ver 68 + 1) 0 F.length]], arrW 68 (ver 68 + 1) 2 ((mlist 1 F.length).map intCells) ver⟩ (fun E => E 0 = pksAV true true l ∧ E 1 = trmsAV true t ∧ E 2 = intsAV true a ∧ E 3 = intsAV true b ∧ E 4 = intsAV true e ∧ E 12 = .box 0 0 ∧ E 18 = .box 1 0 ∧ E 20 = .v (.int .i64 (1 + (F.length : Int)))) ?_ ?_
  · repeat' first
    | with_reducible refine reg_a ?_
    | simp [z0, z1, z2, z3, z4, z12, z18, z20, z21]
  rintro E ⟨z0, z1, z2, z3, z4, z12, z18, z20⟩
  refine seq_step ⟨[[.v (.int .i64 0), .v (.int .i64 0), intsAV true F], [.v (.int .i64 0), .v (.int .i64 0), .arr 68 (ver 68 + 1) 0 F.length], [.v (.int .i64 0), .v (.int .i64 0), intsAV false F]], arrW 68 (ver 68 + 1) 2 ((mlist 1 F.length).map intCells) ver⟩ (fun E => E 12 = .box 0 0 ∧ E 18 = .box 1 0 ∧ E 20 = .v (.int .i64 (1 + (F.length : Int))) ∧ E 22 = .box 2 0) ?_ ?_
  · repeat' first
    | with_reducible refine reg_a ?_
    | with_reducible refine call_p (t_pks true l hl) (by simp) ?_
    | with_reducible refine call_p (t_trms true t ht) (by simp) ?_
    | with_reducible refine call_p (t_ints true a ha) (by simp) ?_
    | with_reducible refine call_p (t_ints true b hb) (by simp) ?_
    | with_reducible refine call_p (t_ints true e he) (by simp) ?_
    | with_reducible refine call_p (hQ2) (by simp) ?_
    | simp [z0, z1, z2, z3, z4, z12, z18, z20]
  rintro E ⟨z12, z18, z20, z22⟩
  refine if_skip ⟨[[.v (.int .i64 0), .v (.int .i64 0), intsAV true F], [.v (.int .i64 0), .v (.int .i64 0), .arr 68 (ver 68 + 1) 0 F.length], [.v (.int .i64 0), .v (.int .i64 0), intsAV false F]], arrW 68 (ver 68 + 1) 2 ((mlist 1 F.length).map intCells) ver⟩ (fun E => E 18 = .box 1 0 ∧ E 20 = .v (.int .i64 (1 + (F.length : Int)))) ?_ ?_
  · repeat' first
    | with_reducible refine reg_a ?_
    | with_reducible refine call_p (e_set true true F (by omega) 0 0) (by simp) ?_
    | with_reducible refine call_p (e_set false true F (by omega) 0 0) (by simp) ?_
    | simp [z12, z18, z20, z22]
  rintro E ⟨z18, z20⟩
  refine seq_step ⟨[[.v (.int .i64 0), .v (.int .i64 0), intsAV true F], [.v (.int .i64 0), .v (.int .i64 0), .arr 68 (ver 68 + 1) 0 F.length], [.v (.int .i64 0), .v (.int .i64 0), intsAV false F]], arrW 68 (ver 68 + 1) 2 ((mlist 1 F.length).map intCells) ver⟩ (fun E => E 18 = .box 1 0 ∧ E 20 = .v (.int .i64 (1 + (F.length : Int))) ∧ E 21 = .v (.int .i64 1)) ?_ ?_
  · repeat' first
    | with_reducible refine reg_a ?_
    | simp [z18, z20]
  rintro E ⟨z18, z20, z21⟩
  refine seq_step ⟨[[.v (.int .i64 0), .v (.int .i64 0), intsAV true F], [.v (.int .i64 0), .v (.int .i64 0), .arr 68 (ver 68 + 1) 0 F.length], [.v (.int .i64 0), .v (.int .i64 0), intsAV false F]], arrW 68 (ver 68 + 1) 2 ((mlist 1 F.length).map intCells) ver⟩ (fun E => E 20 = .v (.int .i64 (1 + (F.length : Int))) ∧ E 21 = .v (.int .i64 (1 + (F.length : Int)))) ?_ ?_
  · repeat' first
    | with_reducible refine reg_a ?_
    | with_reducible refine call_p (p_heldSet true F.length 1 0 0 (by omega) (by omega)) (by simp) ?_
    | simp [z18, z20, z21, htk]
  rintro E ⟨z20, z21⟩
  refine if_skip ⟨[[.v (.int .i64 0), .v (.int .i64 0), intsAV true F], [.v (.int .i64 0), .v (.int .i64 0), .arr 68 (ver 68 + 1) 0 F.length], [.v (.int .i64 0), .v (.int .i64 0), intsAV false F]], arrW 68 (ver 68 + 1) 2 ((mlist 1 F.length).map intCells) ver⟩ (fun E => E 20 = .v (.int .i64 (1 + (F.length : Int))) ∧ E 21 = .v (.int .i64 (1 + (F.length : Int)))) ?_ ?_
  · repeat' first
    | with_reducible refine reg_a ?_
    | simp [z20, z21, hq2]
  rintro E ⟨z20, z21⟩
  refine if_skip ⟨[[.v (.int .i64 0), .v (.int .i64 0), intsAV true F], [.v (.int .i64 0), .v (.int .i64 0), .arr 68 (ver 68 + 1) 0 F.length], [.v (.int .i64 0), .v (.int .i64 0), intsAV false F]], arrW 68 (ver 68 + 1) 2 ((mlist 1 F.length).map intCells) ver⟩ (fun _ => True) ?_ ?_
  · repeat' first
    | with_reducible refine reg_a ?_
    | simp [z20, z21]
  rintro E _
  refine seq_step ⟨[[.v (.int .i64 0), .v (.int .i64 0), intsAV true F], [.v (.int .i64 0), .v (.int .i64 0), .arr 68 (ver 68 + 1) 0 F.length], [.v (.int .i64 0), .v (.int .i64 0), intsAV false F]], arrW 68 (ver 68 + 1) 2 ((mlist 1 F.length).map intCells) ver⟩ (fun E => E 10 = .v (.bool true)) ?_ ?_
  · repeat' first
    | with_reducible refine reg_a ?_
    | simp []
  rintro E z10
  simp [z10]

theorem l_cnd (l : List Pk) (hl : BigP l) (hls : StrP l) (t : List Trm) (ht : BigT t) (hts : StrT t) (a : List Int) (ha : BigI a) (b : List Int) (hb : BigI b) (e : List Int) (he : BigI e) :
    Pure Tryz.prog 5 [pksAV true true l, trmsAV true t, intsAV true a, intsAV true b, intsAV true e] (.v (.bool true)) := by
  by_cases g0 : (1048576 : Int) < (a.length : Int)
  · exact l_cnd0 l hl hls t ht hts a ha b hb e he g0
  by_cases g1 : (1048576 : Int) < (b.length : Int)
  · exact l_cnd1 l hl hls t ht hts a ha b hb e he g0 g1
  by_cases g2 : (1048576 : Int) < (e.length : Int)
  · exact l_cnd2 l hl hls t ht hts a ha b hb e he g0 g1 g2
  by_cases g3 : sz_pks l 1048576 < 0
  · exact l_cnd3 l hl hls t ht hts a ha b hb e he g0 g1 g2 g3
  by_cases g4 : sz_trms t (sz_pks l 1048576) < 0
  · exact l_cnd4 l hl hls t ht hts a ha b hb e he g0 g1 g2 g3 g4
  by_cases h : cdC l t a b e = 0
  · exact l_cndB l hl hls t ht hts a ha b hb e he g0 g1 g2 g3 g4 h
  · exact l_cndA l hl hls t ht hts a ha b hb e he g0 g1 g2 g3 g4 h

end Go.Proofs.YtokhnmchnfkiiaaGreat.Am
