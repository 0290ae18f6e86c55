/- The law about the terms that a set leaves unmet: what is to be shown of the row's function. No conditions. -/
import Derived.Test.YtokhnmchnfkiiaaAmC29
import Derived.Test.YtokhnmchnfkiiaaAmC32
namespace Go.Proofs.Ytokhnmchnfkiiaa.Am
open Go Go.RowKit Go.Proofs
set_option linter.unusedSimpArgs false
set_option linter.unusedVariables false

set_option maxHeartbeats 16000000 in
set_option maxRecDepth 10000 in
theorem l_unm0 (l : List Pk) (hl : BigP l) (hls : StrP l) (t : List Trm) (ht : BigT t) (hts : StrT t) (s : List Int) (hs : BigI s) (g0 : (1048576 : Int) < (s.length : Int)) :
    Pure Try.prog 5 [pksAV true true l, trmsAV true t, intsAV true s] (.v (.bool true)) := by
  obtain ⟨hl1, hl2⟩ := hl.len
  have ht4 : t.length ≤ 4611686018427387904 := by unfold BigT at ht; omega
  have hs3 : s.length ≤ 4611686018427387904 := by unfold BigI at hs; omega
  refine top_of_code (G := Gt) verst mixed0 Try.func5 rfl (by decide) (by simp [Try.f5]) (by simp) fun ver => ?_
  simp only [Try.f5, Gt]
  refine seq_step ⟨[], noArrs ver⟩ (fun E => E 0 = pksAV true true l ∧ E 1 = trmsAV true t ∧ E 2 = intsAV true s) ?_ ?_
  · repeat' first
    | with_reducible refine reg_a ?_
    | simp []
  rintro E ⟨z0, z1, z2⟩
  refine if_take ⟨[], noArrs ver⟩ (fun E => E 0 = pksAV true true l ∧ E 1 = trmsAV true t ∧ E 2 = intsAV true s) ?_ ?_
  · repeat' first
    | with_reducible refine reg_a ?_
    | simp [z0, z1, z2, g0]
  rintro E ⟨z0, z1, z2⟩
  repeat' first
    | with_reducible refine reg_a ?_
    | simp [z0, z1, z2]

set_option maxHeartbeats 16000000 in
set_option maxRecDepth 10000 in
theorem l_unm1 (l : List Pk) (hl : BigP l) (hls : StrP l) (t : List Trm) (ht : BigT t) (hts : StrT t) (s : List Int) (hs : BigI s) (g0 : ¬ (1048576 : Int) < (s.length : Int)) (g1 : sz_pks l 1048576 < 0) :
    Pure Try.prog 5 [pksAV true true l, trmsAV true t, intsAV true s] (.v (.bool true)) := by
  obtain ⟨hl1, hl2⟩ := hl.len
  have ht4 : t.length ≤ 4611686018427387904 := by unfold BigT at ht; omega
  have hs3 : s.length ≤ 4611686018427387904 := by unfold BigI at hs; omega
  refine top_of_code (G := Gt) verst mixed0 Try.func5 rfl (by decide) (by simp [Try.f5]) (by simp) fun ver => ?_
  simp only [Try.f5, Gt]
  refine seq_step ⟨[], noArrs ver⟩ (fun E => E 0 = pksAV true true l ∧ E 1 = trmsAV true t ∧ E 2 = intsAV true s) ?_ ?_
  · repeat' first
    | with_reducible refine reg_a ?_
    | simp []
  rintro E ⟨z0, z1, z2⟩
  refine if_skip ⟨[], noArrs ver⟩ (fun E => E 0 = pksAV true true l ∧ E 1 = trmsAV true t ∧ E 2 = intsAV true s) ?_ ?_
  · repeat' first
    | with_reducible refine reg_a ?_
    | simp [z0, z1, z2, g0]
  rintro E ⟨z0, z1, z2⟩
  refine seq_step ⟨[], noArrs ver⟩ (fun E => E 0 = pksAV true true l ∧ E 1 = trmsAV true t ∧ E 2 = intsAV true s ∧ E 7 = .v (.int .i64 1048576)) ?_ ?_
  · repeat' first
    | with_reducible refine reg_a ?_
    | simp [z0, z1, z2]
  rintro E ⟨z0, z1, z2, z7⟩
  refine seq_step ⟨[], noArrs ver⟩ (fun E => E 0 = pksAV true true l ∧ E 1 = trmsAV true t ∧ E 2 = intsAV true s ∧ E 7 = .v (.int .i64 (sz_pks l 1048576))) ?_ ?_
  · repeat' first
    | with_reducible refine reg_a ?_
    | with_reducible refine call_p (z_pks true l hl _) (by simp) ?_
    | simp [z0, z1, z2, z7]
  rintro E ⟨z0, z1, z2, z7⟩
  refine if_take ⟨[], noArrs ver⟩ (fun E => E 0 = pksAV true true l ∧ E 1 = trmsAV true t ∧ E 2 = intsAV true s ∧ E 7 = .v (.int .i64 (sz_pks l 1048576))) ?_ ?_
  · repeat' first
    | with_reducible refine reg_a ?_
    | simp [z0, z1, z2, z7, g1]
  rintro E ⟨z0, z1, z2, z7⟩
  repeat' first
    | with_reducible refine reg_a ?_
    | simp [z0, z1, z2, z7]

set_option maxHeartbeats 16000000 in
set_option maxRecDepth 10000 in
theorem l_unm2 (l : List Pk) (hl : BigP l) (hls : StrP l) (t : List Trm) (ht : BigT t) (hts : StrT t) (s : List Int) (hs : BigI s) (g0 : ¬ (1048576 : Int) < (s.length : Int)) (g1 : ¬ sz_pks l 1048576 < 0) (g2 : sz_trms t (sz_pks l 1048576) < 0) :
    Pure Try.prog 5 [pksAV true true l, trmsAV true t, intsAV true s] (.v (.bool true)) := by
  obtain ⟨hl1, hl2⟩ := hl.len
  have ht4 : t.length ≤ 4611686018427387904 := by unfold BigT at ht; omega
  have hs3 : s.length ≤ 4611686018427387904 := by unfold BigI at hs; omega
  refine top_of_code (G := Gt) verst mixed0 Try.func5 rfl (by decide) (by simp [Try.f5]) (by simp) fun ver => ?_
  simp only [Try.f5, Gt]
  refine seq_step ⟨[], noArrs ver⟩ (fun E => E 0 = pksAV true true l ∧ E 1 = trmsAV true t ∧ E 2 = intsAV true s) ?_ ?_
  · repeat' first
    | with_reducible refine reg_a ?_
    | simp []
  rintro E ⟨z0, z1, z2⟩
  refine if_skip ⟨[], noArrs ver⟩ (fun E => E 0 = pksAV true true l ∧ E 1 = trmsAV true t ∧ E 2 = intsAV true s) ?_ ?_
  · repeat' first
    | with_reducible refine reg_a ?_
    | simp [z0, z1, z2, g0]
  rintro E ⟨z0, z1, z2⟩
  refine seq_step ⟨[], noArrs ver⟩ (fun E => E 0 = pksAV true true l ∧ E 1 = trmsAV true t ∧ E 2 = intsAV true s ∧ E 7 = .v (.int .i64 1048576)) ?_ ?_
  · repeat' first
    | with_reducible refine reg_a ?_
    | simp [z0, z1, z2]
  rintro E ⟨z0, z1, z2, z7⟩
  refine seq_step ⟨[], noArrs ver⟩ (fun E => E 0 = pksAV true true l ∧ E 1 = trmsAV true t ∧ E 2 = intsAV true s ∧ E 7 = .v (.int .i64 (sz_pks l 1048576))) ?_ ?_
  · repeat' first
    | with_reducible refine reg_a ?_
    | with_reducible refine call_p (z_pks true l hl _) (by simp) ?_
    | simp [z0, z1, z2, z7]
  rintro E ⟨z0, z1, z2, z7⟩
  refine if_skip ⟨[], noArrs ver⟩ (fun E => E 0 = pksAV true true l ∧ E 1 = trmsAV true t ∧ E 2 = intsAV true s ∧ E 7 = .v (.int .i64 (sz_pks l 1048576))) ?_ ?_
  · repeat' first
    | with_reducible refine reg_a ?_
    | simp [z0, z1, z2, z7, g1]
  rintro E ⟨z0, z1, z2, z7⟩
  refine seq_step ⟨[], noArrs ver⟩ (fun E => E 0 = pksAV true true l ∧ E 1 = trmsAV true t ∧ E 2 = intsAV true s ∧ E 7 = .v (.int .i64 (sz_trms t (sz_pks l 1048576)))) ?_ ?_
  · repeat' first
    | with_reducible refine reg_a ?_
    | with_reducible refine call_p (z_trms true t ht _) (by simp) ?_
    | simp [z0, z1, z2, z7]
  rintro E ⟨z0, z1, z2, z7⟩
  refine if_take ⟨[], noArrs ver⟩ (fun E => E 0 = pksAV true true l ∧ E 1 = trmsAV true t ∧ E 2 = intsAV true s) ?_ ?_
  · repeat' first
    | with_reducible refine reg_a ?_
    | simp [z0, z1, z2, z7, g2]
  rintro E ⟨z0, z1, z2⟩
  repeat' first
    | with_reducible refine reg_a ?_
    | simp [z0, z1, z2]

set_option maxHeartbeats 16000000 in
set_option maxRecDepth 10000 in
theorem l_unmA (l : List Pk) (hl : BigP l) (hls : StrP l) (t : List Trm) (ht : BigT t) (hts : StrT t) (s : List Int) (hs : BigI s) (g0 : ¬ (1048576 : Int) < (s.length : Int)) (g1 : ¬ sz_pks l 1048576 < 0) (g2 : ¬ sz_trms t (sz_pks l 1048576) < 0) (h : unmF l t s = []) :
    Pure Try.prog 5 [pksAV true true l, trmsAV true t, intsAV true s] (.v (.bool true)) := by
  obtain ⟨hl1, hl2⟩ := hl.len
  have ht4 : t.length ≤ 4611686018427387904 := by unfold BigT at ht; omega
  have hs3 : s.length ≤ 4611686018427387904 := by unfold BigI at hs; omega
  have hmk := (sz_pks_le hl hls (by decide) (by decide) g1).1
  have hsz := (sz_pks_le hl hls (by decide) (by decide) g1).2
  have hst := (sz_trms_le ht hts hsz (by omega) g2).1
  have hst2 := (sz_trms_le ht hts hsz (by omega) g2).2
  have hmt : mkT t = 7 * t.length := rfl
  have hq : ¬ 1 + (mkPs l : Int) + (mkT t : Int) + (s.length : Int) < 0 := by omega
  have hP := p_unmetOf l hl1 hl2 t ht4 s hs3
  have hQ := q_unmetOfA l hl1 hl2 t (by omega) s (by omega) h
  rw [h] at hP
  have hE : ∀ c d : Bool, Pure Try.prog 30 [.sl c [], .sl d []] (.v (.bool true)) := fun c d => by simpa using e_trms c d [] (by simp)
  have hH : ∀ c : Bool, Pure Try.prog 36 [.sl c [], .v (.int .i64 1)] (.v (.int .i64 1)) := fun c => by simpa [mtrms] using p_heldTrms c 0 1 (by omega) (by omega)
  have hq1 : ¬ (1 : Int) < 0 := by omega
  refine top_of_code (G := Gt) verst mixed0 Try.func5 rfl (by decide) (by simp [Try.f5]) (by simp) fun ver => ?_
  simp only [Try.f5, Gt]
  refine seq_step ⟨[], noArrs ver⟩ (fun E => E 0 = pksAV true true l ∧ E 1 = trmsAV true t ∧ E 2 = intsAV true s) ?_ ?_
  · repeat' first
    | with_reducible refine reg_a ?_
    | simp []
  rintro E ⟨z0, z1, z2⟩
  refine if_skip ⟨[], noArrs ver⟩ (fun E => E 0 = pksAV true true l ∧ E 1 = trmsAV true t ∧ E 2 = intsAV true s) ?_ ?_
  · repeat' first
    | with_reducible refine reg_a ?_
    | simp [z0, z1, z2, g0]
  rintro E ⟨z0, z1, z2⟩
  refine seq_step ⟨[], noArrs ver⟩ (fun E => E 0 = pksAV true true l ∧ E 1 = trmsAV true t ∧ E 2 = intsAV true s ∧ E 7 = .v (.int .i64 1048576)) ?_ ?_
  · repeat' first
    | with_reducible refine reg_a ?_
    | simp [z0, z1, z2]
  rintro E ⟨z0, z1, z2, z7⟩
  refine seq_step ⟨[], noArrs ver⟩ (fun E => E 0 = pksAV true true l ∧ E 1 = trmsAV true t ∧ E 2 = intsAV true s ∧ E 7 = .v (.int .i64 (sz_pks l 1048576))) ?_ ?_
  · repeat' first
    | with_reducible refine reg_a ?_
    | with_reducible refine call_p (z_pks true l hl _) (by simp) ?_
    | simp [z0, z1, z2, z7]
  rintro E ⟨z0, z1, z2, z7⟩
  refine if_skip ⟨[], noArrs ver⟩ (fun E => E 0 = pksAV true true l ∧ E 1 = trmsAV true t ∧ E 2 = intsAV true s ∧ E 7 = .v (.int .i64 (sz_pks l 1048576))) ?_ ?_
  · repeat' first
    | with_reducible refine reg_a ?_
    | simp [z0, z1, z2, z7, g1]
  rintro E ⟨z0, z1, z2, z7⟩
  refine seq_step ⟨[], noArrs ver⟩ (fun E => E 0 = pksAV true true l ∧ E 1 = trmsAV true t ∧ E 2 = intsAV true s ∧ E 7 = .v (.int .i64 (sz_trms t (sz_pks l 1048576)))) ?_ ?_
  · repeat' first
    | with_reducible refine reg_a ?_
    | with_reducible refine call_p (z_trms true t ht _) (by simp) ?_
    | simp [z0, z1, z2, z7]
  rintro E ⟨z0, z1, z2, z7⟩
  refine if_skip ⟨[], noArrs ver⟩ (fun E => E 0 = pksAV true true l ∧ E 1 = trmsAV true t ∧ E 2 = intsAV true s) ?_ ?_
  · repeat' first
    | with_reducible refine reg_a ?_
    | simp [z0, z1, z2, z7, g2]
  rintro E ⟨z0, z1, z2⟩
  refine seq_step ⟨[], noArrs ver⟩ (fun E => E 0 = pksAV true true l ∧ E 1 = trmsAV true t ∧ E 2 = intsAV true s ∧ E 8 = .sl false []) ?_ ?_
  · repeat' first
    | with_reducible refine reg_a ?_
    | with_reducible refine call_p (t_pks true l hl) (by simp) ?_
    | with_reducible refine call_p (t_trms true t ht) (by simp) ?_
    | with_reducible refine call_p (t_ints true s hs) (by simp) ?_
    | with_reducible refine call_p (hP) (by simp) ?_
    | simp [z0, z1, z2]
  rintro E ⟨z0, z1, z2, z8⟩
  refine seq_step ⟨[], noArrs ver⟩ (fun E => E 0 = pksAV true true l ∧ E 1 = trmsAV true t ∧ E 2 = intsAV true s ∧ E 8 = .sl true [] ∧ E 9 = pksAV false false l) ?_ ?_
  · simp [z0, z1, z2, z8]
    refine reg_ok 0 [(0, pksAV true true l), (1, trmsAV true t), (2, intsAV true s), (8, .sl true [])] [] [] (by simp) (by intro i; simp) (by simp) (by simp [OldsK_cons, OldsK_nil, z0, z1, z2, z8]) (by simp [OldsB, OldsR]) ?_
    repeat' first
    | with_reducible refine call_p (t_pks true l hl) (by simp) ?_
    | simp [z0, z1, z2, z8]
  rintro E ⟨z0, z1, z2, z8, z9⟩
  refine seq_step ⟨[], noArrs ver⟩ (fun E => E 0 = pksAV true true l ∧ E 1 = trmsAV true t ∧ E 2 = intsAV true s ∧ E 8 = .sl true [] ∧ E 9 = pksAV false false l ∧ E 10 = trmsAV false t) ?_ ?_
  · repeat' first
    | with_reducible refine reg_a ?_
    | with_reducible refine call_p (t_trms true t ht) (by simp) ?_
    | simp [z0, z1, z2, z8, z9]
  rintro E ⟨z0, z1, z2, z8, z9, z10⟩
  refine seq_step ⟨[], noArrs ver⟩ (fun E => E 0 = pksAV true true l ∧ E 1 = trmsAV true t ∧ E 2 = intsAV true s ∧ E 8 = .sl true [] ∧ E 9 = pksAV false false l ∧ E 10 = trmsAV false t ∧ E 11 = intsAV false s) ?_ ?_
  · repeat' first
    | with_reducible refine reg_a ?_
    | with_reducible refine call_p (t_ints true s hs) (by simp) ?_
    | simp [z0, z1, z2, z8, z9, z10]
  rintro E ⟨z0, z1, z2, z8, z9, z10, z11⟩
  refine seq_step ⟨[], noArrs ver⟩ (fun E => E 0 = pksAV true true l ∧ E 1 = trmsAV true t ∧ E 2 = intsAV true s ∧ E 8 = .sl true [] ∧ E 9 = pksAV false false l ∧ E 10 = trmsAV false t ∧ E 11 = intsAV false s ∧ E 12 = .sl false []) ?_ ?_
  · repeat' first
    | with_reducible refine reg_a ?_
    | with_reducible refine call_p (hQ) (by simp) ?_
    | simp [z0, z1, z2, z8, z9, z10, z11]
  rintro E ⟨z0, z1, z2, z8, z9, z10, z11, z12⟩
  refine if_skip ⟨[], noArrs ver⟩ (fun E => E 0 = pksAV true true l ∧ E 1 = trmsAV true t ∧ E 2 = intsAV true s ∧ E 8 = .sl true [] ∧ E 9 = pksAV false false l ∧ E 10 = trmsAV false t ∧ E 11 = intsAV false s ∧ E 12 = .sl false []) ?_ ?_
  · repeat' first
    | with_reducible refine reg_a ?_
    | with_reducible refine call_p (hE _ _) (by simp) ?_
    | with_reducible refine call_p (e_trms false false t ht4) (by simp) ?_
    | simp [z0, z1, z2, z8, z9, z10, z11, z12]
  rintro E ⟨z0, z1, z2, z8, z9, z10, z11, z12⟩
  refine if_skip ⟨[], noArrs ver⟩ (fun E => E 0 = pksAV true true l ∧ E 1 = trmsAV true t ∧ E 2 = intsAV true s ∧ E 8 = .sl true [] ∧ E 9 = pksAV false false l ∧ E 10 = trmsAV false t ∧ E 11 = intsAV false s ∧ E 12 = .sl false []) ?_ ?_
  · repeat' first
    | with_reducible refine reg_a ?_
    | with_reducible refine call_p (t_pks true l hl) (by simp) ?_
    | with_reducible refine call_p (e_pks false false l hl1 hl2) (by simp) ?_
    | simp [z0, z1, z2, z8, z9, z10, z11, z12]
  rintro E ⟨z0, z1, z2, z8, z9, z10, z11, z12⟩
  refine if_skip ⟨[], noArrs ver⟩ (fun E => E 0 = pksAV true true l ∧ E 1 = trmsAV true t ∧ E 2 = intsAV true s ∧ E 8 = .sl true [] ∧ E 9 = pksAV false false l ∧ E 10 = trmsAV false t ∧ E 11 = intsAV false s ∧ E 12 = .sl false []) ?_ ?_
  · repeat' first
    | with_reducible refine reg_a ?_
    | with_reducible refine call_p (t_trms true t ht) (by simp) ?_
    | with_reducible refine call_p (hE _ _) (by simp) ?_
    | with_reducible refine call_p (e_trms false false t ht4) (by simp) ?_
    | simp [z0, z1, z2, z8, z9, z10, z11, z12]
  rintro E ⟨z0, z1, z2, z8, z9, z10, z11, z12⟩
  refine if_skip ⟨[], noArrs ver⟩ (fun E => E 0 = pksAV true true l ∧ E 1 = trmsAV true t ∧ E 2 = intsAV true s ∧ E 8 = .sl true [] ∧ E 9 = pksAV false false l ∧ E 10 = trmsAV false t ∧ E 11 = intsAV false s ∧ E 12 = .sl false []) ?_ ?_
  · repeat' first
    | with_reducible refine reg_a ?_
    | with_reducible refine call_p (t_ints true s hs) (by simp) ?_
    | with_reducible refine call_p (e_ints false false s hs3) (by simp) ?_
    | simp [z0, z1, z2, z8, z9, z10, z11, z12]
  rintro E ⟨z0, z1, z2, z8, z9, z10, z11, z12⟩
  refine seq_step ⟨[], noArrs ver⟩ (fun E => E 0 = pksAV true true l ∧ E 1 = trmsAV true t ∧ E 2 = intsAV true s ∧ E 8 = .sl true [] ∧ E 9 = pksAV false false l ∧ E 10 = trmsAV false t ∧ E 11 = intsAV false s ∧ E 12 = .sl false [] ∧ E 13 = .v (.int .i64 1)) ?_ ?_
  · repeat' first
    | with_reducible refine reg_a ?_
    | simp [z0, z1, z2, z8, z9, z10, z11, z12]
  rintro E ⟨z0, z1, z2, z8, z9, z10, z11, z12, z13⟩
  refine seq_step ⟨[], noArrs ver⟩ (fun E => E 0 = pksAV true true l ∧ E 1 = trmsAV true t ∧ E 2 = intsAV true s ∧ E 8 = .sl true [] ∧ E 10 = wtrmsAV t ∧ E 11 = wintsAV s ∧ E 12 = .sl false [] ∧ E 13 = .v (.int .i64 (1 + (mkPs l : Int)))) ?_ ?_
  · simp [z0, z1, z2, z8, z9, z10, z11, z12, z13]
    refine reg_k 2 ?_
    simp [z0, z1, z2, z8, z9, z10, z11, z12, z13]
    refine mark_b 0 [(0, pksAV true true l), (1, trmsAV true t), (2, intsAV true s), (8, .sl true []), (10, wtrmsAV t), (11, wintsAV s), (12, .sl false [])] [] [] (by simp) (w_pks l hl2 hl1 (1) (by omega) (by omega)) (by simp [WArgL]) (by simp) (by simp [StayB, StayR]) (by intro i; simp) (by simp) (by simp [WKeep_cons, WKeep_nil, z0, z1, z2, z8, z9, z10, z11, z12, z13]) ?_
    repeat' first
    | simp [z0, z1, z2, z8, z9, z10, z11, z12, z13]
  rintro E ⟨z0, z1, z2, z8, z10, z11, z12, z13⟩
  refine seq_step ⟨[], noArrs ver⟩ (fun E => E 0 = pksAV true true l ∧ E 1 = trmsAV true t ∧ E 2 = intsAV true s ∧ E 8 = .sl true [] ∧ E 11 = wintsAV s ∧ E 12 = .sl false [] ∧ E 13 = .v (.int .i64 (1 + (mkPs l : Int) + (mkT t : Int)))) ?_ ?_
  · simp [z0, z1, z2, z8, z10, z11, z12, z13]
    refine reg_k 2 ?_
    simp [z0, z1, z2, z8, z10, z11, z12, z13]
    refine mark_b 0 [(0, pksAV true true l), (1, trmsAV true t), (2, intsAV true s), (8, .sl true []), (11, wintsAV s), (12, .sl false [])] [] [] (by simp) (w_trms t (1 + (mkPs l : Int)) (by omega) (by omega)) (by simp [WArgL]) (by simp) (by simp [StayB, StayR]) (by intro i; simp) (by simp) (by simp [WKeep_cons, WKeep_nil, z0, z1, z2, z8, z10, z11, z12, z13]) ?_
    repeat' first
    | simp [z0, z1, z2, z8, z10, z11, z12, z13]
  rintro E ⟨z0, z1, z2, z8, z11, z12, z13⟩
  refine seq_step ⟨[], noArrs ver⟩ (fun E => E 0 = pksAV true true l ∧ E 1 = trmsAV true t ∧ E 2 = intsAV true s ∧ E 8 = .sl true [] ∧ E 12 = .sl false [] ∧ E 13 = .v (.int .i64 (1 + (mkPs l : Int) + (mkT t : Int) + (s.length : Int)))) ?_ ?_
  · simp [z0, z1, z2, z8, z11, z12, z13]
    refine reg_k 2 ?_
    simp [z0, z1, z2, z8, z11, z12, z13]
    refine mark_b 0 [(0, pksAV true true l), (1, trmsAV true t), (2, intsAV true s), (8, .sl true []), (12, .sl false [])] [] [] (by simp) (w_ints s (1 + (mkPs l : Int) + (mkT t : Int)) (by omega) (by omega)) (by simp [WArgL]) (by simp) (by simp [StayB, StayR]) (by intro i; simp) (by simp) (by simp [WKeep_cons, WKeep_nil, z0, z1, z2, z8, z11, z12, z13]) ?_
    repeat' first
    | simp [z0, z1, z2, z8, z11, z12, z13]
  rintro E ⟨z0, z1, z2, z8, z12, z13⟩
  refine if_skip ⟨[], noArrs ver⟩ (fun E => E 0 = pksAV true true l ∧ E 1 = trmsAV true t ∧ E 2 = intsAV true s ∧ E 8 = .sl true [] ∧ E 12 = .sl false []) ?_ ?_
  · repeat' first
    | with_reducible refine reg_a ?_
    | with_reducible refine call_p (hE _ _) (by simp) ?_
    | with_reducible refine call_p (e_trms false false t ht4) (by simp) ?_
    | simp [z0, z1, z2, z8, z12, z13, hq]
  rintro E ⟨z0, z1, z2, z8, z12⟩
  refine seq_step ⟨[], noArrs ver⟩ (fun E => E 0 = pksAV true true l ∧ E 1 = trmsAV true t ∧ E 2 = intsAV true s ∧ E 8 = .sl true [] ∧ E 12 = .sl false [] ∧ E 14 = .v (.int .i64 1)) ?_ ?_
  · repeat' first
    | with_reducible refine reg_a ?_
    | simp [z0, z1, z2, z8, z12]
  rintro E ⟨z0, z1, z2, z8, z12, z14⟩
  refine seq_step ⟨[], noArrs ver⟩ (fun E => E 0 = pksAV true true l ∧ E 1 = trmsAV true t ∧ E 2 = intsAV true s ∧ E 8 = .sl true [] ∧ E 12 = .sl false [] ∧ E 14 = .v (.int .i64 1)) ?_ ?_
  · repeat' first
    | with_reducible refine reg_a ?_
    | with_reducible refine call_p (p_markTrms0 false 1) (by simp) ?_
    | simp [z0, z1, z2, z8, z12, z14]
  rintro E ⟨z0, z1, z2, z8, z12, z14⟩
  refine seq_step ⟨[], noArrs ver⟩ (fun E => E 0 = pksAV true true l ∧ E 1 = trmsAV true t ∧ E 2 = intsAV true s ∧ E 8 = .sl true [] ∧ E 12 = .sl false [] ∧ E 14 = .v (.int .i64 1) ∧ E 15 = .v (.int .i64 1)) ?_ ?_
  · repeat' first
    | with_reducible refine reg_a ?_
    | simp [z0, z1, z2, z8, z12, z14]
  rintro E ⟨z0, z1, z2, z8, z12, z14, z15⟩
  refine seq_step ⟨[], noArrs ver⟩ (fun E => E 0 = pksAV true true l ∧ E 1 = trmsAV true t ∧ E 2 = intsAV true s ∧ E 8 = .sl true [] ∧ E 12 = .sl false [] ∧ E 14 = .v (.int .i64 1) ∧ E 15 = .v (.int .i64 1)) ?_ ?_
  · repeat' first
    | with_reducible refine reg_a ?_
    | with_reducible refine call_p (hH _) (by simp) ?_
    | simp [z0, z1, z2, z8, z12, z14, z15]
  rintro E ⟨z0, z1, z2, z8, z12, z14, z15⟩
  refine if_skip ⟨[], noArrs ver⟩ (fun E => E 0 = pksAV true true l ∧ E 1 = trmsAV true t ∧ E 2 = intsAV true s ∧ E 8 = .sl true [] ∧ E 12 = .sl false [] ∧ E 14 = .v (.int .i64 1) ∧ E 15 = .v (.int .i64 1)) ?_ ?_
  · repeat' first
    | with_reducible refine reg_a ?_
    | simp [z0, z1, z2, z8, z12, z14, z15, hq1]
  rintro E ⟨z0, z1, z2, z8, z12, z14, z15⟩
  refine if_skip ⟨[], noArrs ver⟩ (fun E => E 0 = pksAV true true l ∧ E 1 = trmsAV true t ∧ E 2 = intsAV true s ∧ E 8 = .sl true [] ∧ E 12 = .sl false [] ∧ E 14 = .v (.int .i64 1)) ?_ ?_
  · repeat' first
    | with_reducible refine reg_a ?_
    | simp [z0, z1, z2, z8, z12, z14, z15]
  rintro E ⟨z0, z1, z2, z8, z12, z14⟩
  refine seq_step ⟨[], noArrs ver⟩ (fun E => E 8 = .sl true [] ∧ E 12 = .sl false [] ∧ E 14 = .v (.int .i64 1) ∧ E 16 = .sl false []) ?_ ?_
  · repeat' first
    | with_reducible refine reg_a ?_
    | with_reducible refine call_p (t_pks true l hl) (by simp) ?_
    | with_reducible refine call_p (t_trms true t ht) (by simp) ?_
    | with_reducible refine call_p (t_ints true s hs) (by simp) ?_
    | with_reducible refine call_p (hQ) (by simp) ?_
    | simp [z0, z1, z2, z8, z12, z14]
  rintro E ⟨z8, z12, z14, z16⟩
  refine if_skip ⟨[], noArrs ver⟩ (fun E => E 12 = .sl false [] ∧ E 14 = .v (.int .i64 1)) ?_ ?_
  · repeat' first
    | with_reducible refine reg_a ?_
    | with_reducible refine call_p (hE _ _) (by simp) ?_
    | with_reducible refine call_p (e_trms false false t ht4) (by simp) ?_
    | simp [z8, z12, z14, z16]
  rintro E ⟨z12, z14⟩
  refine seq_step ⟨[], noArrs ver⟩ (fun E => E 12 = .sl false [] ∧ E 14 = .v (.int .i64 1) ∧ E 15 = .v (.int .i64 1)) ?_ ?_
  · repeat' first
    | with_reducible refine reg_a ?_
    | simp [z12, z14]
  rintro E ⟨z12, z14, z15⟩
  refine seq_step ⟨[], noArrs ver⟩ (fun E => E 14 = .v (.int .i64 1) ∧ E 15 = .v (.int .i64 1)) ?_ ?_
  · repeat' first
    | with_reducible refine reg_a ?_
    | with_reducible refine call_p (hH _) (by simp) ?_
    | simp [z12, z14, z15]
  rintro E ⟨z14, z15⟩
  refine if_skip ⟨[], noArrs ver⟩ (fun E => E 14 = .v (.int .i64 1) ∧ E 15 = .v (.int .i64 1)) ?_ ?_
  · repeat' first
    | with_reducible refine reg_a ?_
    | simp [z14, z15, hq1]
  rintro E ⟨z14, z15⟩
  refine if_skip ⟨[], noArrs ver⟩ (fun _ => True) ?_ ?_
  · repeat' first
    | with_reducible refine reg_a ?_
    | simp [z14, z15]
  rintro E _
  refine seq_step ⟨[], noArrs ver⟩ (fun E => E 6 = .v (.bool true)) ?_ ?_
  · repeat' first
    | with_reducible refine reg_a ?_
    | simp []
  rintro E z6
  simp [z6]

set_option maxHeartbeats 16000000 in
set_option maxRecDepth 10000 in
theorem l_unmB (l : List Pk) (hl : BigP l) (hls : StrP l) (t : List Trm) (ht : BigT t) (hts : StrT t) (s : List Int) (hs : BigI s) (g0 : ¬ (1048576 : Int) < (s.length : Int)) (g1 : ¬ sz_pks l 1048576 < 0) (g2 : ¬ sz_trms t (sz_pks l 1048576) < 0) (h : unmF l t s ≠ []) :
    Pure Try.prog 5 [pksAV true true l, trmsAV true t, intsAV true s] (.v (.bool true)) := by
  obtain ⟨hl1, hl2⟩ := hl.len
  have ht4 : t.length ≤ 4611686018427387904 := by unfold BigT at ht; omega
  have hs3 : s.length ≤ 4611686018427387904 := by unfold BigI at hs; omega
  have hmk := (sz_pks_le hl hls (by decide) (by decide) g1).1
  have hsz := (sz_pks_le hl hls (by decide) (by decide) g1).2
  have hst := (sz_trms_le ht hts hsz (by omega) g2).1
  have hst2 := (sz_trms_le ht hts hsz (by omega) g2).2
  have hmt : mkT t = 7 * t.length := rfl
  have hq : ¬ 1 + (mkPs l : Int) + (mkT t : Int) + (s.length : Int) < 0 := by omega
  have hP := p_unmetOf l hl1 hl2 t ht4 s hs3
  have hQ := q_unmetOfB l hl1 hl2 t (by omega) s (by omega) h
  have hln : (unmF l t s).length ≤ 4 := by
    obtain ⟨e1, e2, e3, e4⟩ := unmF_of h
    rw [e4]
    exact unmL_len (fun p hp => packF_ok ((catF_ok e1).2 p hp)) (places_of e3)
  obtain ⟨U, hU⟩ : ∃ U, U = unmF l t s := ⟨_, rfl⟩
  rw [← hU] at hP hQ hln
  have htk : List.take U.length (List.map Trm.cells (mtrms 1 U.length)) = List.map Trm.cells (mtrms 1 U.length) := List.take_of_length_le (by simp)
  have hQ2 : Pure Try.prog 29 [pksAV false false l, trmsAV false t, intsAV false s] (trmsAV false U) := by
    have := OCall.pure hQ (by simp) (by simp)
    simpa using this
  have hmu : (mkT U : Int) = 7 * (U.length : Int) := by unfold mkT; omega
  have hq2 : ¬ 1 + 7 * (U.length : Int) < 0 := by omega
  clear h
  refine top_of_code (G := Gt) verst mixed0 Try.func5 rfl (by decide) (by simp [Try.f5]) (by simp) fun ver => ?_
  simp only [Try.f5, Gt]
  refine seq_step ⟨[], noArrs ver⟩ (fun E => E 0 = pksAV true true l ∧ E 1 = trmsAV true t ∧ E 2 = intsAV true s) ?_ ?_
  · repeat' first
    | with_reducible refine reg_a ?_
    | simp []
  rintro E ⟨z0, z1, z2⟩
  refine if_skip ⟨[], noArrs ver⟩ (fun E => E 0 = pksAV true true l ∧ E 1 = trmsAV true t ∧ E 2 = intsAV true s) ?_ ?_
  · repeat' first
    | with_reducible refine reg_a ?_
    | simp [z0, z1, z2, g0]
  rintro E ⟨z0, z1, z2⟩
  refine seq_step ⟨[], noArrs ver⟩ (fun E => E 0 = pksAV true true l ∧ E 1 = trmsAV true t ∧ E 2 = intsAV true s ∧ E 7 = .v (.int .i64 1048576)) ?_ ?_
  · repeat' first
    | with_reducible refine reg_a ?_
    | simp [z0, z1, z2]
  rintro E ⟨z0, z1, z2, z7⟩
  refine seq_step ⟨[], noArrs ver⟩ (fun E => E 0 = pksAV true true l ∧ E 1 = trmsAV true t ∧ E 2 = intsAV true s ∧ E 7 = .v (.int .i64 (sz_pks l 1048576))) ?_ ?_
  · repeat' first
    | with_reducible refine reg_a ?_
    | with_reducible refine call_p (z_pks true l hl _) (by simp) ?_
    | simp [z0, z1, z2, z7]
  rintro E ⟨z0, z1, z2, z7⟩
  refine if_skip ⟨[], noArrs ver⟩ (fun E => E 0 = pksAV true true l ∧ E 1 = trmsAV true t ∧ E 2 = intsAV true s ∧ E 7 = .v (.int .i64 (sz_pks l 1048576))) ?_ ?_
  · repeat' first
    | with_reducible refine reg_a ?_
    | simp [z0, z1, z2, z7, g1]
  rintro E ⟨z0, z1, z2, z7⟩
  refine seq_step ⟨[], noArrs ver⟩ (fun E => E 0 = pksAV true true l ∧ E 1 = trmsAV true t ∧ E 2 = intsAV true s ∧ E 7 = .v (.int .i64 (sz_trms t (sz_pks l 1048576)))) ?_ ?_
  · repeat' first
    | with_reducible refine reg_a ?_
    | with_reducible refine call_p (z_trms true t ht _) (by simp) ?_
    | simp [z0, z1, z2, z7]
  rintro E ⟨z0, z1, z2, z7⟩
  refine if_skip ⟨[], noArrs ver⟩ (fun E => E 0 = pksAV true true l ∧ E 1 = trmsAV true t ∧ E 2 = intsAV true s) ?_ ?_
  · repeat' first
    | with_reducible refine reg_a ?_
    | simp [z0, z1, z2, z7, g2]
  rintro E ⟨z0, z1, z2⟩
  refine seq_step ⟨[], noArrs ver⟩ (fun E => E 0 = pksAV true true l ∧ E 1 = trmsAV true t ∧ E 2 = intsAV true s ∧ E 8 = trmsAV false U) ?_ ?_
  · repeat' first
    | with_reducible refine reg_a ?_
    | with_reducible refine call_p (t_pks true l hl) (by simp) ?_
    | with_reducible refine call_p (t_trms true t ht) (by simp) ?_
    | with_reducible refine call_p (t_ints true s hs) (by simp) ?_
    | with_reducible refine call_p (hP) (by simp) ?_
    | simp [z0, z1, z2]
  rintro E ⟨z0, z1, z2, z8⟩
  refine seq_step ⟨[], noArrs ver⟩ (fun E => E 0 = pksAV true true l ∧ E 1 = trmsAV true t ∧ E 2 = intsAV true s ∧ E 8 = trmsAV true U ∧ E 9 = pksAV false false l) ?_ ?_
  · simp [z0, z1, z2, z8]
    refine reg_ok 0 [(0, pksAV true true l), (1, trmsAV true t), (2, intsAV true s), (8, trmsAV true U)] [] [] (by simp) (by intro i; simp) (by simp) (by simp [OldsK_cons, OldsK_nil, z0, z1, z2, z8]) (by simp [OldsB, OldsR]) ?_
    repeat' first
    | with_reducible refine call_p (t_pks true l hl) (by simp) ?_
    | simp [z0, z1, z2, z8]
  rintro E ⟨z0, z1, z2, z8, z9⟩
  refine seq_step ⟨[], noArrs ver⟩ (fun E => E 0 = pksAV true true l ∧ E 1 = trmsAV true t ∧ E 2 = intsAV true s ∧ E 8 = trmsAV true U ∧ E 9 = pksAV false false l ∧ E 10 = trmsAV false t) ?_ ?_
  · repeat' first
    | with_reducible refine reg_a ?_
    | with_reducible refine call_p (t_trms true t ht) (by simp) ?_
    | simp [z0, z1, z2, z8, z9]
  rintro E ⟨z0, z1, z2, z8, z9, z10⟩
  refine seq_step ⟨[], noArrs ver⟩ (fun E => E 0 = pksAV true true l ∧ E 1 = trmsAV true t ∧ E 2 = intsAV true s ∧ E 8 = trmsAV true U ∧ E 9 = pksAV false false l ∧ E 10 = trmsAV false t ∧ E 11 = intsAV false s) ?_ ?_
  · repeat' first
    | with_reducible refine reg_a ?_
    | with_reducible refine call_p (t_ints true s hs) (by simp) ?_
    | simp [z0, z1, z2, z8, z9, z10]
  rintro E ⟨z0, z1, z2, z8, z9, z10, z11⟩
  refine seq_step ⟨[], arrW 46 (ver 46 + 1) 28 (U.map Trm.cells) ver⟩ (fun E => E 0 = pksAV true true l ∧ E 1 = trmsAV true t ∧ E 2 = intsAV true s ∧ E 8 = trmsAV true U ∧ E 9 = pksAV false false l ∧ E 10 = trmsAV false t ∧ E 11 = intsAV false s ∧ E 12 = .arr 46 (ver 46 + 1) 0 U.length) ?_ ?_
  · repeat' first
    | with_reducible refine reg_a ?_
    | with_reducible refine call_n 46 hQ (by simp) ?_
    | simp [z0, z1, z2, z8, z9, z10, z11, noArrs_put]
  rintro E ⟨z0, z1, z2, z8, z9, z10, z11, z12⟩
  refine if_skip ⟨[], arrW 46 (ver 46 + 1) 28 (U.map Trm.cells) ver⟩ (fun E => E 0 = pksAV true true l ∧ E 1 = trmsAV true t ∧ E 2 = intsAV true s ∧ E 8 = trmsAV true U ∧ E 9 = pksAV false false l ∧ E 10 = trmsAV false t ∧ E 11 = intsAV false s ∧ E 12 = .arr 46 (ver 46 + 1) 0 U.length) ?_ ?_
  · repeat' first
    | with_reducible refine reg_a ?_
    | with_reducible refine call_p (e_trms true true U (by omega)) (by simp) ?_
    | with_reducible refine call_p (e_trms false true U (by omega)) (by simp) ?_
    | with_reducible refine call_p (e_trms false false t ht4) (by simp) ?_
    | simp [z0, z1, z2, z8, z9, z10, z11, z12]
  rintro E ⟨z0, z1, z2, z8, z9, z10, z11, z12⟩
  refine if_skip ⟨[], arrW 46 (ver 46 + 1) 28 (U.map Trm.cells) ver⟩ (fun E => E 0 = pksAV true true l ∧ E 1 = trmsAV true t ∧ E 2 = intsAV true s ∧ E 8 = trmsAV true U ∧ E 9 = pksAV false false l ∧ E 10 = trmsAV false t ∧ E 11 = intsAV false s ∧ E 12 = .arr 46 (ver 46 + 1) 0 U.length) ?_ ?_
  · repeat' first
    | with_reducible refine reg_a ?_
    | with_reducible refine call_p (t_pks true l hl) (by simp) ?_
    | with_reducible refine call_p (e_pks false false l hl1 hl2) (by simp) ?_
    | simp [z0, z1, z2, z8, z9, z10, z11, z12]
  rintro E ⟨z0, z1, z2, z8, z9, z10, z11, z12⟩
  refine if_skip ⟨[], arrW 46 (ver 46 + 1) 28 (U.map Trm.cells) ver⟩ (fun E => E 0 = pksAV true true l ∧ E 1 = trmsAV true t ∧ E 2 = intsAV true s ∧ E 8 = trmsAV true U ∧ E 9 = pksAV false false l ∧ E 10 = trmsAV false t ∧ E 11 = intsAV false s ∧ E 12 = .arr 46 (ver 46 + 1) 0 U.length) ?_ ?_
  · repeat' first
    | with_reducible refine reg_a ?_
    | with_reducible refine call_p (t_trms true t ht) (by simp) ?_
    | with_reducible refine call_p (e_trms true true U (by omega)) (by simp) ?_
    | with_reducible refine call_p (e_trms false true U (by omega)) (by simp) ?_
    | with_reducible refine call_p (e_trms false false t ht4) (by simp) ?_
    | simp [z0, z1, z2, z8, z9, z10, z11, z12]
  rintro E ⟨z0, z1, z2, z8, z9, z10, z11, z12⟩
  refine if_skip ⟨[], arrW 46 (ver 46 + 1) 28 (U.map Trm.cells) ver⟩ (fun E => E 0 = pksAV true true l ∧ E 1 = trmsAV true t ∧ E 2 = intsAV true s ∧ E 8 = trmsAV true U ∧ E 9 = pksAV false false l ∧ E 10 = trmsAV false t ∧ E 11 = intsAV false s ∧ E 12 = .arr 46 (ver 46 + 1) 0 U.length) ?_ ?_
  · repeat' first
    | with_reducible refine reg_a ?_
    | with_reducible refine call_p (t_ints true s hs) (by simp) ?_
    | with_reducible refine call_p (e_ints false false s hs3) (by simp) ?_
    | simp [z0, z1, z2, z8, z9, z10, z11, z12]
  rintro E ⟨z0, z1, z2, z8, z9, z10, z11, z12⟩
  refine seq_step ⟨[], arrW 46 (ver 46 + 1) 28 (U.map Trm.cells) ver⟩ (fun E => E 0 = pksAV true true l ∧ E 1 = trmsAV true t ∧ E 2 = intsAV true s ∧ E 8 = trmsAV true U ∧ E 9 = pksAV false false l ∧ E 10 = trmsAV false t ∧ E 11 = intsAV false s ∧ E 12 = .arr 46 (ver 46 + 1) 0 U.length ∧ E 13 = .v (.int .i64 1)) ?_ ?_
  · repeat' first
    | with_reducible refine reg_a ?_
    | simp [z0, z1, z2, z8, z9, z10, z11, z12]
  rintro E ⟨z0, z1, z2, z8, z9, z10, z11, z12, z13⟩
  refine seq_step ⟨[], arrW 46 (ver 46 + 1) 28 (U.map Trm.cells) ver⟩ (fun E => E 0 = pksAV true true l ∧ E 1 = trmsAV true t ∧ E 2 = intsAV true s ∧ E 8 = trmsAV true U ∧ E 10 = wtrmsAV t ∧ E 11 = wintsAV s ∧ E 12 = .arr 46 (ver 46 + 1) 0 U.length ∧ E 13 = .v (.int .i64 (1 + (mkPs l : Int)))) ?_ ?_
  · simp [z0, z1, z2, z8, z9, z10, z11, z12, z13]
    refine reg_k 2 ?_
    simp [z0, z1, z2, z8, z9, z10, z11, z12, z13]
    refine mark_b 0 [(0, pksAV true true l), (1, trmsAV true t), (2, intsAV true s), (8, trmsAV true U), (10, wtrmsAV t), (11, wintsAV s), (12, .arr 46 (ver 46 + 1) 0 U.length)] [] [] (by simp) (w_pks l hl2 hl1 (1) (by omega) (by omega)) (by simp [WArgL]) (by simp) (by simp [StayB, StayR]) (arrW_stay (stayr_map U stayc_trm)) (by simp) (by simp [WKeep_cons, WKeep_nil, z0, z1, z2, z8, z9, z10, z11, z12, z13]) ?_
    repeat' first
    | simp [z0, z1, z2, z8, z9, z10, z11, z12, z13]
  rintro E ⟨z0, z1, z2, z8, z10, z11, z12, z13⟩
  refine seq_step ⟨[], arrW 46 (ver 46 + 1) 28 (U.map Trm.cells) ver⟩ (fun E => E 0 = pksAV true true l ∧ E 1 = trmsAV true t ∧ E 2 = intsAV true s ∧ E 8 = trmsAV true U ∧ E 11 = wintsAV s ∧ E 12 = .arr 46 (ver 46 + 1) 0 U.length ∧ E 13 = .v (.int .i64 (1 + (mkPs l : Int) + (mkT t : Int)))) ?_ ?_
  · simp [z0, z1, z2, z8, z10, z11, z12, z13]
    refine reg_k 2 ?_
    simp [z0, z1, z2, z8, z10, z11, z12, z13]
    refine mark_b 0 [(0, pksAV true true l), (1, trmsAV true t), (2, intsAV true s), (8, trmsAV true U), (11, wintsAV s), (12, .arr 46 (ver 46 + 1) 0 U.length)] [] [] (by simp) (w_trms t (1 + (mkPs l : Int)) (by omega) (by omega)) (by simp [WArgL]) (by simp) (by simp [StayB, StayR]) (arrW_stay (stayr_map U stayc_trm)) (by simp) (by simp [WKeep_cons, WKeep_nil, z0, z1, z2, z8, z10, z11, z12, z13]) ?_
    repeat' first
    | simp [z0, z1, z2, z8, z10, z11, z12, z13]
  rintro E ⟨z0, z1, z2, z8, z11, z12, z13⟩
  refine seq_step ⟨[], arrW 46 (ver 46 + 1) 28 (U.map Trm.cells) ver⟩ (fun E => E 0 = pksAV true true l ∧ E 1 = trmsAV true t ∧ E 2 = intsAV true s ∧ E 8 = trmsAV true U ∧ E 12 = .arr 46 (ver 46 + 1) 0 U.length ∧ E 13 = .v (.int .i64 (1 + (mkPs l : Int) + (mkT t : Int) + (s.length : Int)))) ?_ ?_
  · simp [z0, z1, z2, z8, z11, z12, z13]
    refine reg_k 2 ?_
    simp [z0, z1, z2, z8, z11, z12, z13]
    refine mark_b 0 [(0, pksAV true true l), (1, trmsAV true t), (2, intsAV true s), (8, trmsAV true U), (12, .arr 46 (ver 46 + 1) 0 U.length)] [] [] (by simp) (w_ints s (1 + (mkPs l : Int) + (mkT t : Int)) (by omega) (by omega)) (by simp [WArgL]) (by simp) (by simp [StayB, StayR]) (arrW_stay (stayr_map U stayc_trm)) (by simp) (by simp [WKeep_cons, WKeep_nil, z0, z1, z2, z8, z11, z12, z13]) ?_
    repeat' first
    | simp [z0, z1, z2, z8, z11, z12, z13]
  rintro E ⟨z0, z1, z2, z8, z12, z13⟩
  refine if_skip ⟨[], arrW 46 (ver 46 + 1) 28 (U.map Trm.cells) ver⟩ (fun E => E 0 = pksAV true true l ∧ E 1 = trmsAV true t ∧ E 2 = intsAV true s ∧ E 8 = trmsAV true U ∧ E 12 = .arr 46 (ver 46 + 1) 0 U.length) ?_ ?_
  · repeat' first
    | with_reducible refine reg_a ?_
    | with_reducible refine call_p (e_trms true true U (by omega)) (by simp) ?_
    | with_reducible refine call_p (e_trms false true U (by omega)) (by simp) ?_
    | with_reducible refine call_p (e_trms false false t ht4) (by simp) ?_
    | simp [z0, z1, z2, z8, z12, z13, hq]
  rintro E ⟨z0, z1, z2, z8, z12⟩
  refine seq_step ⟨[], arrW 46 (ver 46 + 1) 28 (U.map Trm.cells) ver⟩ (fun E => E 0 = pksAV true true l ∧ E 1 = trmsAV true t ∧ E 2 = intsAV true s ∧ E 8 = trmsAV true U ∧ E 12 = .arr 46 (ver 46 + 1) 0 U.length ∧ E 14 = .v (.int .i64 1)) ?_ ?_
  · repeat' first
    | with_reducible refine reg_a ?_
    | simp [z0, z1, z2, z8, z12]
  rintro E ⟨z0, z1, z2, z8, z12, z14⟩
  refine seq_step ⟨[], arrW 46 (ver 46 + 1) 28 ((mtrms 1 U.length).map Trm.cells) ver⟩ (fun E => E 0 = pksAV true true l ∧ E 1 = trmsAV true t ∧ E 2 = intsAV true s ∧ E 8 = trmsAV true U ∧ E 12 = .arr 46 (ver 46 + 1) 0 U.length ∧ E 14 = .v (.int .i64 (1 + 7 * (U.length : Int)))) ?_ ?_
  · repeat' first
    | with_reducible refine reg_a ?_
    | with_reducible refine call_s 46 (ver 46 + 1) 28 (U.map Trm.cells) (by simp) (o_markTrms U 1 (by omega) (by omega)) (by simp) (by simp) (fr_trm _) ?_
    | simp [z0, z1, z2, z8, z12, z14, arrW_put, hmu]
  rintro E ⟨z0, z1, z2, z8, z12, z14⟩
  refine seq_step ⟨[], arrW 46 (ver 46 + 1) 28 ((mtrms 1 U.length).map Trm.cells) ver⟩ (fun E => E 0 = pksAV true true l ∧ E 1 = trmsAV true t ∧ E 2 = intsAV true s ∧ E 8 = trmsAV true U ∧ E 12 = .arr 46 (ver 46 + 1) 0 U.length ∧ E 14 = .v (.int .i64 (1 + 7 * (U.length : Int))) ∧ E 15 = .v (.int .i64 1)) ?_ ?_
  · repeat' first
    | with_reducible refine reg_a ?_
    | simp [z0, z1, z2, z8, z12, z14]
  rintro E ⟨z0, z1, z2, z8, z12, z14, z15⟩
  refine seq_step ⟨[], arrW 46 (ver 46 + 1) 28 ((mtrms 1 U.length).map Trm.cells) ver⟩ (fun E => E 0 = pksAV true true l ∧ E 1 = trmsAV true t ∧ E 2 = intsAV true s ∧ E 8 = trmsAV true U ∧ E 12 = .arr 46 (ver 46 + 1) 0 U.length ∧ E 14 = .v (.int .i64 (1 + 7 * (U.length : Int))) ∧ E 15 = .v (.int .i64 (1 + 7 * (U.length : Int)))) ?_ ?_
  · repeat' first
    | with_reducible refine reg_a ?_
    | with_reducible refine call_p (p_heldTrms true U.length 1 (by omega) (by omega)) (by simp) ?_
    | simp [z0, z1, z2, z8, z12, z14, z15, htk]
  rintro E ⟨z0, z1, z2, z8, z12, z14, z15⟩
  refine if_skip ⟨[], arrW 46 (ver 46 + 1) 28 ((mtrms 1 U.length).map Trm.cells) ver⟩ (fun E => E 0 = pksAV true true l ∧ E 1 = trmsAV true t ∧ E 2 = intsAV true s ∧ E 8 = trmsAV true U ∧ E 12 = .arr 46 (ver 46 + 1) 0 U.length ∧ E 14 = .v (.int .i64 (1 + 7 * (U.length : Int))) ∧ E 15 = .v (.int .i64 (1 + 7 * (U.length : Int)))) ?_ ?_
  · repeat' first
    | with_reducible refine reg_a ?_
    | simp [z0, z1, z2, z8, z12, z14, z15, hq2]
  rintro E ⟨z0, z1, z2, z8, z12, z14, z15⟩
  refine if_skip ⟨[], arrW 46 (ver 46 + 1) 28 ((mtrms 1 U.length).map Trm.cells) ver⟩ (fun E => E 0 = pksAV true true l ∧ E 1 = trmsAV true t ∧ E 2 = intsAV true s ∧ E 8 = trmsAV true U ∧ E 12 = .arr 46 (ver 46 + 1) 0 U.length ∧ E 14 = .v (.int .i64 (1 + 7 * (U.length : Int)))) ?_ ?_
  · repeat' first
    | with_reducible refine reg_a ?_
    | simp [z0, z1, z2, z8, z12, z14, z15]
  rintro E ⟨z0, z1, z2, z8, z12, z14⟩
  refine seq_step ⟨[], arrW 46 (ver 46 + 1) 28 ((mtrms 1 U.length).map Trm.cells) ver⟩ (fun E => E 8 = trmsAV true U ∧ E 12 = .arr 46 (ver 46 + 1) 0 U.length ∧ E 14 = .v (.int .i64 (1 + 7 * (U.length : Int))) ∧ E 16 = trmsAV false U) ?_ ?_
  · repeat' first
    | with_reducible refine reg_a ?_
    | with_reducible refine call_p (t_pks true l hl) (by simp) ?_
    | with_reducible refine call_p (t_trms true t ht) (by simp) ?_
    | with_reducible refine call_p (t_ints true s hs) (by simp) ?_
    | with_reducible refine call_p (hQ2) (by simp) ?_
    | simp [z0, z1, z2, z8, z12, z14]
  rintro E ⟨z8, z12, z14, z16⟩
  refine if_skip ⟨[], arrW 46 (ver 46 + 1) 28 ((mtrms 1 U.length).map Trm.cells) ver⟩ (fun E => E 12 = .arr 46 (ver 46 + 1) 0 U.length ∧ E 14 = .v (.int .i64 (1 + 7 * (U.length : Int)))) ?_ ?_
  · repeat' first
    | with_reducible refine reg_a ?_
    | with_reducible refine call_p (e_trms true true U (by omega)) (by simp) ?_
    | with_reducible refine call_p (e_trms false true U (by omega)) (by simp) ?_
    | with_reducible refine call_p (e_trms false false t ht4) (by simp) ?_
    | simp [z8, z12, z14, z16]
  rintro E ⟨z12, z14⟩
  refine seq_step ⟨[], arrW 46 (ver 46 + 1) 28 ((mtrms 1 U.length).map Trm.cells) ver⟩ (fun E => E 12 = .arr 46 (ver 46 + 1) 0 U.length ∧ E 14 = .v (.int .i64 (1 + 7 * (U.length : Int))) ∧ E 15 = .v (.int .i64 1)) ?_ ?_
  · repeat' first
    | with_reducible refine reg_a ?_
    | simp [z12, z14]
  rintro E ⟨z12, z14, z15⟩
  refine seq_step ⟨[], arrW 46 (ver 46 + 1) 28 ((mtrms 1 U.length).map Trm.cells) ver⟩ (fun E => E 14 = .v (.int .i64 (1 + 7 * (U.length : Int))) ∧ E 15 = .v (.int .i64 (1 + 7 * (U.length : Int)))) ?_ ?_
  · repeat' first
    | with_reducible refine reg_a ?_
    | with_reducible refine call_p (p_heldTrms true U.length 1 (by omega) (by omega)) (by simp) ?_
    | simp [z12, z14, z15, htk]
  rintro E ⟨z14, z15⟩
  refine if_skip ⟨[], arrW 46 (ver 46 + 1) 28 ((mtrms 1 U.length).map Trm.cells) ver⟩ (fun E => E 14 = .v (.int .i64 (1 + 7 * (U.length : Int))) ∧ E 15 = .v (.int .i64 (1 + 7 * (U.length : Int)))) ?_ ?_
  · repeat' first
    | with_reducible refine reg_a ?_
    | simp [z14, z15, hq2]
  rintro E ⟨z14, z15⟩
  refine if_skip ⟨[], arrW 46 (ver 46 + 1) 28 ((mtrms 1 U.length).map Trm.cells) ver⟩ (fun _ => True) ?_ ?_
  · repeat' first
    | with_reducible refine reg_a ?_
    | simp [z14, z15]
  rintro E _
  refine seq_step ⟨[], arrW 46 (ver 46 + 1) 28 ((mtrms 1 U.length).map Trm.cells) ver⟩ (fun E => E 6 = .v (.bool true)) ?_ ?_
  · repeat' first
    | with_reducible refine reg_a ?_
    | simp []
  rintro E z6
  simp [z6]

theorem l_unm (l : List Pk) (hl : BigP l) (hls : StrP l) (t : List Trm) (ht : BigT t) (hts : StrT t) (s : List Int) (hs : BigI s) :
    Pure Try.prog 5 [pksAV true true l, trmsAV true t, intsAV true s] (.v (.bool true)) := by
  by_cases g0 : (1048576 : Int) < (s.length : Int)
  · exact l_unm0 l hl hls t ht hts s hs g0
  by_cases g1 : sz_pks l 1048576 < 0
  · exact l_unm1 l hl hls t ht hts s hs g0 g1
  by_cases g2 : sz_trms t (sz_pks l 1048576) < 0
  · exact l_unm2 l hl hls t ht hts s hs g0 g1 g2
  by_cases h : unmF l t s = []
  · exact l_unmA l hl hls t ht hts s hs g0 g1 g2 h
  · exact l_unmB l hl hls t ht hts s hs g0 g1 g2 h

end Go.Proofs.Ytokhnmchnfkiiaa.Am
