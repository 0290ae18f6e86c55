/- The law about the names that a package mentions: what is to be shown of the row's function. No conditions. -/
import Derived.Test.YtokhnmchnfkiiaaAmC40
import Derived.Test.YtokhnmchnfkiiaaAmC32
namespace Go.Proofs.Ytokhnmchnfkiiaa.Am
open Go Go.RowKit Go.Proofs
set_option linter.unusedSimpArgs false
set_option linter.unusedVariables false

set_option maxHeartbeats 16000000 in
set_option maxRecDepth 10000 in
theorem l_ment0 (p : Pk) (hp : p.Big) (hps : p.Str) (g0 : szPk p 1048576 < 0) :
    Pure Try.prog 6 [p.av true] (.v (.bool true)) := by
  have hp5 := hp.len
  refine top_of_code (G := Gt) verst mixed0 Try.func6 rfl (by decide) (by simp [Try.f6]) (by simp) fun ver => ?_
  simp only [Try.f6, Gt]
  refine seq_step ⟨[p.cells true], noArrs ver⟩ (fun E => E 1 = .box 0 0) ?_ ?_
  · repeat' first
    | with_reducible refine reg_a ?_
    | simp []
  rintro E z1
  refine seq_step ⟨[p.cells true], noArrs ver⟩ (fun E => E 1 = .box 0 0 ∧ E 3 = .v (.int .i64 1048576)) ?_ ?_
  · repeat' first
    | with_reducible refine reg_a ?_
    | simp [z1]
  rintro E ⟨z1, z3⟩
  refine seq_step ⟨[p.cells true], noArrs ver⟩ (fun E => E 1 = .box 0 0 ∧ E 3 = .v (.int .i64 (szPk p 1048576))) ?_ ?_
  · repeat' first
    | with_reducible refine reg_a ?_
    | with_reducible refine call_p (z_pk true p hp _) (by simp) ?_
    | simp [z1, z3]
  rintro E ⟨z1, z3⟩
  refine if_take ⟨[p.cells true], noArrs ver⟩ (fun E => E 1 = .box 0 0) ?_ ?_
  · repeat' first
    | with_reducible refine reg_a ?_
    | simp [z1, z3, g0]
  rintro E z1
  repeat' first
    | with_reducible refine reg_a ?_
    | simp [z1]

set_option maxHeartbeats 16000000 in
set_option maxRecDepth 10000 in
theorem l_mentA (p : Pk) (hp : p.Big) (hps : p.Str) (g0 : ¬ szPk p 1048576 < 0) (h : packF p ≠ 0) :
    Pure Try.prog 6 [p.av true] (.v (.bool true)) := by
  have hp5 := hp.len
  have hsz := (szPk_le hp hps (by decide) (by decide) g0)
  have hq : ¬ 1 + (mkP p : Int) < 0 := by omega
  have hP := p_mentionsOf false p hp5
  have hQ := q_mentionsOfA false p hp5 h
  rw [show mentF p = [] by simp [mentF, h]] at hP
  obtain ⟨k, hk⟩ : ∃ k, k = packF p := ⟨_, rfl⟩
  rw [← hk] at hP hQ
  clear hk h
  simp only [List.map_nil] at hP
  have hE : ∀ c d : Bool, Pure Try.prog 39 [.agg [.v (.int .i64 k), .sl c []], .agg [.v (.int .i64 k), .sl d []]] (.v (.bool true)) := fun c d => by simpa using e_names c d [] (by simp) k
  have hq1 : ¬ (1 : Int) < 0 := by omega
  refine top_of_code (G := Gt) verst mixed0 Try.func6 rfl (by decide) (by simp [Try.f6]) (by simp) fun ver => ?_
  simp only [Try.f6, Gt]
  refine seq_step ⟨[p.cells true], noArrs ver⟩ (fun E => E 1 = .box 0 0) ?_ ?_
  · repeat' first
    | with_reducible refine reg_a ?_
    | simp []
  rintro E z1
  refine seq_step ⟨[p.cells true], noArrs ver⟩ (fun E => E 1 = .box 0 0 ∧ E 3 = .v (.int .i64 1048576)) ?_ ?_
  · repeat' first
    | with_reducible refine reg_a ?_
    | simp [z1]
  rintro E ⟨z1, z3⟩
  refine seq_step ⟨[p.cells true], noArrs ver⟩ (fun E => E 1 = .box 0 0 ∧ E 3 = .v (.int .i64 (szPk p 1048576))) ?_ ?_
  · repeat' first
    | with_reducible refine reg_a ?_
    | with_reducible refine call_p (z_pk true p hp _) (by simp) ?_
    | simp [z1, z3]
  rintro E ⟨z1, z3⟩
  refine if_skip ⟨[p.cells true], noArrs ver⟩ (fun E => E 1 = .box 0 0) ?_ ?_
  · repeat' first
    | with_reducible refine reg_a ?_
    | simp [z1, z3, g0]
  rintro E z1
  refine seq_step ⟨[p.cells true, [.v (.int .i64 k), .sl false []]], noArrs ver⟩ (fun E => E 1 = .box 0 0 ∧ E 4 = .box 1 0) ?_ ?_
  · repeat' first
    | with_reducible refine reg_a ?_
    | with_reducible refine call_p (t_pk true p hp) (by simp) ?_
    | with_reducible refine call_p (hP) (by simp) ?_
    | simp [z1]
  rintro E ⟨z1, z4⟩
  refine seq_step ⟨[p.cells true, [.v (.int .i64 k), .sl true []], p.cells false], noArrs ver⟩ (fun E => E 1 = .box 0 0 ∧ E 4 = .box 1 0 ∧ E 5 = .box 2 0) ?_ ?_
  · simp [z1, z4]
    refine reg_ok 0 [(1, .box 0 0), (4, .box 1 0)] [p.cells true, [.v (.int .i64 k), .sl false []]] [p.cells true, [.v (.int .i64 k), .sl true []]] (by simp) (by intro i; simp) (by simp) (by simp [OldsK_cons, OldsK_nil, z1, z4]) (by simp [OldsB, OldsR]) ?_
    repeat' first
    | with_reducible refine call_p (t_pk true p hp) (by simp) ?_
    | simp [z1, z4]
  rintro E ⟨z1, z4, z5⟩
  refine seq_step ⟨[p.cells true, [.v (.int .i64 k), .sl true []], p.cells false, [.v (.int .i64 k), .sl false []]], noArrs ver⟩ (fun E => E 1 = .box 0 0 ∧ E 4 = .box 1 0 ∧ E 5 = .box 2 0 ∧ E 6 = .box 3 0) ?_ ?_
  · repeat' first
    | with_reducible refine reg_a ?_
    | with_reducible refine call_p (hQ) (by simp) ?_
    | simp [z1, z4, z5]
  rintro E ⟨z1, z4, z5, z6⟩
  refine if_skip ⟨[p.cells true, [.v (.int .i64 k), .sl true []], p.cells false, [.v (.int .i64 k), .sl false []]], noArrs ver⟩ (fun E => E 1 = .box 0 0 ∧ E 4 = .box 1 0 ∧ E 5 = .box 2 0 ∧ E 6 = .box 3 0) ?_ ?_
  · repeat' first
    | with_reducible refine reg_a ?_
    | with_reducible refine call_p (hE _ _) (by simp) ?_
    | simp [z1, z4, z5, z6]
  rintro E ⟨z1, z4, z5, z6⟩
  refine if_skip ⟨[p.cells true, [.v (.int .i64 k), .sl true []], p.cells false, [.v (.int .i64 k), .sl false []]], noArrs ver⟩ (fun E => E 1 = .box 0 0 ∧ E 4 = .box 1 0 ∧ E 5 = .box 2 0 ∧ E 6 = .box 3 0) ?_ ?_
  · repeat' first
    | with_reducible refine reg_a ?_
    | with_reducible refine adraw_all (by kernel_rfl) ?_
    | with_reducible refine call_p (t_pk true p hp) (by simp) ?_
    | with_reducible refine call_p (e_pk false false p hp5) (by simp) ?_
    | simp [z1, z4, z5, z6]
  rintro E ⟨z1, z4, z5, z6⟩
  refine seq_step ⟨[p.cells true, [.v (.int .i64 k), .sl true []], p.cells false, [.v (.int .i64 k), .sl false []]], noArrs ver⟩ (fun E => E 1 = .box 0 0 ∧ E 4 = .box 1 0 ∧ E 5 = .box 2 0 ∧ E 6 = .box 3 0 ∧ E 7 = .v (.int .i64 1)) ?_ ?_
  · repeat' first
    | with_reducible refine reg_a ?_
    | simp [z1, z4, z5, z6]
  rintro E ⟨z1, z4, z5, z6, z7⟩
  refine seq_step ⟨[p.cells true, [.v (.int .i64 k), .sl true []], [.dead, .dead, .dead, .dead, .dead, .dead, .dead, .dead], [.v (.int .i64 k), .sl false []]], noArrs ver⟩ (fun E => E 1 = .box 0 0 ∧ E 4 = .box 1 0 ∧ E 6 = .box 3 0 ∧ E 7 = .v (.int .i64 (1 + (mkP p : Int)))) ?_ ?_
  · simp [z1, z4, z5, z6, z7]
    refine reg_k 2 ?_
    simp [z1, z4, z5, z6, z7]
    refine mark_b 0 [(1, .box 0 0), (4, .box 1 0), (6, .box 3 0)] [p.cells true, [.v (.int .i64 k), .sl true []], p.cells false, [.v (.int .i64 k), .sl false []]] [p.cells true, [.v (.int .i64 k), .sl true []], [.dead, .dead, .dead, .dead, .dead, .dead, .dead, .dead], [.v (.int .i64 k), .sl false []]] (by simp) (w_pk p hp5 (1) (by omega) (by omega)) (⟨.inl (.agg _ _ rfl (wilds_pk p)), by simp, trivial⟩) (by simp) (by simp [StayB, StayR]) (by intro i; simp) (by simp) (by simp [WKeep_cons, WKeep_nil, z1, z4, z5, z6, z7]) ?_
    repeat' first
    | simp [z1, z4, z5, z6, z7]
  rintro E ⟨z1, z4, z6, z7⟩
  refine if_skip ⟨[p.cells true, [.v (.int .i64 k), .sl true []], [.dead, .dead, .dead, .dead, .dead, .dead, .dead, .dead], [.v (.int .i64 k), .sl false []]], noArrs ver⟩ (fun E => E 1 = .box 0 0 ∧ E 4 = .box 1 0 ∧ E 6 = .box 3 0) ?_ ?_
  · repeat' first
    | with_reducible refine reg_a ?_
    | with_reducible refine call_p (hE _ _) (by simp) ?_
    | simp [z1, z4, z6, z7, hq]
  rintro E ⟨z1, z4, z6⟩
  refine seq_step ⟨[p.cells true, [.v (.int .i64 k), .sl true []], [.dead, .dead, .dead, .dead, .dead, .dead, .dead, .dead], [.v (.int .i64 k), .sl false []]], noArrs ver⟩ (fun E => E 1 = .box 0 0 ∧ E 4 = .box 1 0 ∧ E 6 = .box 3 0 ∧ E 8 = .v (.int .i64 1)) ?_ ?_
  · repeat' first
    | with_reducible refine reg_a ?_
    | simp [z1, z4, z6]
  rintro E ⟨z1, z4, z6, z8⟩
  refine seq_step ⟨[p.cells true, [.v (.int .i64 k), .sl true []], [.dead, .dead, .dead, .dead, .dead, .dead, .dead, .dead], [.v (.int .i64 k), .sl false []]], noArrs ver⟩ (fun E => E 1 = .box 0 0 ∧ E 4 = .box 1 0 ∧ E 6 = .box 3 0 ∧ E 8 = .v (.int .i64 1)) ?_ ?_
  · repeat' first
    | with_reducible refine reg_a ?_
    | with_reducible refine call_p (p_markNames0 false 1 k) (by simp) ?_
    | simp [z1, z4, z6, z8]
  rintro E ⟨z1, z4, z6, z8⟩
  refine seq_step ⟨[p.cells true, [.v (.int .i64 k), .sl true []], [.dead, .dead, .dead, .dead, .dead, .dead, .dead, .dead], [.v (.int .i64 k), .sl false []]], noArrs ver⟩ (fun E => E 1 = .box 0 0 ∧ E 4 = .box 1 0 ∧ E 6 = .box 3 0 ∧ E 8 = .v (.int .i64 1) ∧ E 9 = .v (.int .i64 1)) ?_ ?_
  · repeat' first
    | with_reducible refine reg_a ?_
    | simp [z1, z4, z6, z8]
  rintro E ⟨z1, z4, z6, z8, z9⟩
  refine seq_step ⟨[p.cells true, [.v (.int .i64 k), .sl true []], [.dead, .dead, .dead, .dead, .dead, .dead, .dead, .dead], [.v (.int .i64 k), .sl false []]], noArrs ver⟩ (fun E => E 1 = .box 0 0 ∧ E 4 = .box 1 0 ∧ E 6 = .box 3 0 ∧ E 8 = .v (.int .i64 1) ∧ E 9 = .v (.int .i64 1)) ?_ ?_
  · repeat' first
    | with_reducible refine reg_a ?_
    | with_reducible refine call_p (p_heldNames0 _ 1 k (by omega) (by omega)) (by simp) ?_
    | simp [z1, z4, z6, z8, z9]
  rintro E ⟨z1, z4, z6, z8, z9⟩
  refine if_skip ⟨[p.cells true, [.v (.int .i64 k), .sl true []], [.dead, .dead, .dead, .dead, .dead, .dead, .dead, .dead], [.v (.int .i64 k), .sl false []]], noArrs ver⟩ (fun E => E 1 = .box 0 0 ∧ E 4 = .box 1 0 ∧ E 6 = .box 3 0 ∧ E 8 = .v (.int .i64 1) ∧ E 9 = .v (.int .i64 1)) ?_ ?_
  · repeat' first
    | with_reducible refine reg_a ?_
    | simp [z1, z4, z6, z8, z9, hq1]
  rintro E ⟨z1, z4, z6, z8, z9⟩
  refine if_skip ⟨[p.cells true, [.v (.int .i64 k), .sl true []], [.dead, .dead, .dead, .dead, .dead, .dead, .dead, .dead], [.v (.int .i64 k), .sl false []]], noArrs ver⟩ (fun E => E 1 = .box 0 0 ∧ E 4 = .box 1 0 ∧ E 6 = .box 3 0 ∧ E 8 = .v (.int .i64 1)) ?_ ?_
  · repeat' first
    | with_reducible refine reg_a ?_
    | simp [z1, z4, z6, z8, z9]
  rintro E ⟨z1, z4, z6, z8⟩
  refine seq_step ⟨[p.cells true, [.v (.int .i64 k), .sl true []], [.dead, .dead, .dead, .dead, .dead, .dead, .dead, .dead], [.v (.int .i64 k), .sl false []], [.v (.int .i64 k), .sl false []]], noArrs ver⟩ (fun E => E 4 = .box 1 0 ∧ E 6 = .box 3 0 ∧ E 8 = .v (.int .i64 1) ∧ E 10 = .box 4 0) ?_ ?_
  · repeat' first
    | with_reducible refine reg_a ?_
    | with_reducible refine call_p (t_pk true p hp) (by simp) ?_
    | with_reducible refine call_p (hQ) (by simp) ?_
    | simp [z1, z4, z6, z8]
  rintro E ⟨z4, z6, z8, z10⟩
  refine if_skip ⟨[p.cells true, [.v (.int .i64 k), .sl true []], [.dead, .dead, .dead, .dead, .dead, .dead, .dead, .dead], [.v (.int .i64 k), .sl false []], [.v (.int .i64 k), .sl false []]], noArrs ver⟩ (fun E => E 6 = .box 3 0 ∧ E 8 = .v (.int .i64 1)) ?_ ?_
  · repeat' first
    | with_reducible refine reg_a ?_
    | with_reducible refine call_p (hE _ _) (by simp) ?_
    | simp [z4, z6, z8, z10]
  rintro E ⟨z6, z8⟩
  refine seq_step ⟨[p.cells true, [.v (.int .i64 k), .sl true []], [.dead, .dead, .dead, .dead, .dead, .dead, .dead, .dead], [.v (.int .i64 k), .sl false []], [.v (.int .i64 k), .sl false []]], noArrs ver⟩ (fun E => E 6 = .box 3 0 ∧ E 8 = .v (.int .i64 1) ∧ E 9 = .v (.int .i64 1)) ?_ ?_
  · repeat' first
    | with_reducible refine reg_a ?_
    | simp [z6, z8]
  rintro E ⟨z6, z8, z9⟩
  refine seq_step ⟨[p.cells true, [.v (.int .i64 k), .sl true []], [.dead, .dead, .dead, .dead, .dead, .dead, .dead, .dead], [.v (.int .i64 k), .sl false []], [.v (.int .i64 k), .sl false []]], noArrs ver⟩ (fun E => E 8 = .v (.int .i64 1) ∧ E 9 = .v (.int .i64 1)) ?_ ?_
  · repeat' first
    | with_reducible refine reg_a ?_
    | with_reducible refine call_p (p_heldNames0 _ 1 k (by omega) (by omega)) (by simp) ?_
    | simp [z6, z8, z9]
  rintro E ⟨z8, z9⟩
  refine if_skip ⟨[p.cells true, [.v (.int .i64 k), .sl true []], [.dead, .dead, .dead, .dead, .dead, .dead, .dead, .dead], [.v (.int .i64 k), .sl false []], [.v (.int .i64 k), .sl false []]], noArrs ver⟩ (fun E => E 8 = .v (.int .i64 1) ∧ E 9 = .v (.int .i64 1)) ?_ ?_
  · repeat' first
    | with_reducible refine reg_a ?_
    | simp [z8, z9, hq1]
  rintro E ⟨z8, z9⟩
  refine if_skip ⟨[p.cells true, [.v (.int .i64 k), .sl true []], [.dead, .dead, .dead, .dead, .dead, .dead, .dead, .dead], [.v (.int .i64 k), .sl false []], [.v (.int .i64 k), .sl false []]], noArrs ver⟩ (fun _ => True) ?_ ?_
  · repeat' first
    | with_reducible refine reg_a ?_
    | simp [z8, z9]
  rintro E _
  refine seq_step ⟨[p.cells true, [.v (.int .i64 k), .sl true []], [.dead, .dead, .dead, .dead, .dead, .dead, .dead, .dead], [.v (.int .i64 k), .sl false []], [.v (.int .i64 k), .sl false []]], noArrs ver⟩ (fun E => E 2 = .v (.bool true)) ?_ ?_
  · repeat' first
    | with_reducible refine reg_a ?_
    | simp []
  rintro E z2
  simp [z2]

set_option maxHeartbeats 16000000 in
set_option maxRecDepth 10000 in
theorem l_mentB (p : Pk) (hp : p.Big) (hps : p.Str) (g0 : ¬ szPk p 1048576 < 0) (h : packF p = 0) :
    Pure Try.prog 6 [p.av true] (.v (.bool true)) := by
  have hp5 := hp.len
  have hsz := (szPk_le hp hps (by decide) (by decide) g0)
  have hq : ¬ 1 + (mkP p : Int) < 0 := by omega
  have hP := p_mentionsOf false p hp5
  have hQ := q_mentionsOfB false p hp5 h
  rw [show mentF p = putS [] (mentT p) by simp [mentF, h], h] at hP
  have hln : (putS [] (mentT p)).length ≤ 20 := by
    have h1 := mentT_len (packF_ok h)
    have h2 := putS_len (mentT p) []
    simp only [List.length_nil] at h2
    omega
  obtain ⟨F, hF⟩ : ∃ F, F = putS [] (mentT p) := ⟨_, rfl⟩
  rw [← hF] at hP hQ hln
  have htk : List.take F.length (List.map strCells (mstrs 1 F.length)) = List.map strCells (mstrs 1 F.length) := List.take_of_length_le (by simp)
  have hQ2 : Pure Try.prog 38 [p.av false] (.agg [.v (.int .i64 0), .sl false (F.map strCells)]) := by
    have := OCall.pure hQ (by simp) (by simp)
    simpa using this
  have hq2 : ¬ 1 + (F.length : Int) < 0 := by omega
  clear h hF
  refine top_of_code (G := Gt) verst mixed0 Try.func6 rfl (by decide) (by simp [Try.f6]) (by simp) fun ver => ?_
  simp only [Try.f6, Gt]
  refine seq_step ⟨[p.cells true], noArrs ver⟩ (fun E => E 1 = .box 0 0) ?_ ?_
  · repeat' first
    | with_reducible refine reg_a ?_
    | simp []
  rintro E z1
  refine seq_step ⟨[p.cells true], noArrs ver⟩ (fun E => E 1 = .box 0 0 ∧ E 3 = .v (.int .i64 1048576)) ?_ ?_
  · repeat' first
    | with_reducible refine reg_a ?_
    | simp [z1]
  rintro E ⟨z1, z3⟩
  refine seq_step ⟨[p.cells true], noArrs ver⟩ (fun E => E 1 = .box 0 0 ∧ E 3 = .v (.int .i64 (szPk p 1048576))) ?_ ?_
  · repeat' first
    | with_reducible refine reg_a ?_
    | with_reducible refine call_p (z_pk true p hp _) (by simp) ?_
    | simp [z1, z3]
  rintro E ⟨z1, z3⟩
  refine if_skip ⟨[p.cells true], noArrs ver⟩ (fun E => E 1 = .box 0 0) ?_ ?_
  · repeat' first
    | with_reducible refine reg_a ?_
    | simp [z1, z3, g0]
  rintro E z1
  refine seq_step ⟨[p.cells true, [.v (.int .i64 0), .sl false (F.map strCells)]], noArrs ver⟩ (fun E => E 1 = .box 0 0 ∧ E 4 = .box 1 0) ?_ ?_
  · repeat' first
    | with_reducible refine reg_a ?_
    | with_reducible refine call_p (t_pk true p hp) (by simp) ?_
    | with_reducible refine call_p (hP) (by simp) ?_
    | simp [z1]
  rintro E ⟨z1, z4⟩
  refine seq_step ⟨[p.cells true, [.v (.int .i64 0), .sl true (F.map strCells)], p.cells false], noArrs ver⟩ (fun E => E 1 = .box 0 0 ∧ E 4 = .box 1 0 ∧ E 5 = .box 2 0) ?_ ?_
  · simp [z1, z4]
    refine reg_ok 0 [(1, .box 0 0), (4, .box 1 0)] [p.cells true, [.v (.int .i64 0), .sl false (F.map strCells)]] [p.cells true, [.v (.int .i64 0), .sl true (F.map strCells)]] (by simp) (by intro i; simp) (by simp) (by simp [OldsK_cons, OldsK_nil, z1, z4]) (by simp [OldsB, OldsR]) ?_
    repeat' first
    | with_reducible refine call_p (t_pk true p hp) (by simp) ?_
    | simp [z1, z4]
  rintro E ⟨z1, z4, z5⟩
  refine seq_step ⟨[p.cells true, [.v (.int .i64 0), .sl true (F.map strCells)], p.cells false, [.v (.int .i64 0), .arr 22 (ver 22 + 1) 0 F.length]], arrW 22 (ver 22 + 1) 9 (F.map strCells) ver⟩ (fun E => E 1 = .box 0 0 ∧ E 4 = .box 1 0 ∧ E 5 = .box 2 0 ∧ E 6 = .box 3 0) ?_ ?_
  · repeat' first
    | with_reducible refine reg_a ?_
    | with_reducible refine call_n 22 hQ (by simp) ?_
    | simp [z1, z4, z5, noArrs_put]
  rintro E ⟨z1, z4, z5, z6⟩
  refine if_skip ⟨[p.cells true, [.v (.int .i64 0), .sl true (F.map strCells)], p.cells false, [.v (.int .i64 0), .arr 22 (ver 22 + 1) 0 F.length]], arrW 22 (ver 22 + 1) 9 (F.map strCells) ver⟩ (fun E => E 1 = .box 0 0 ∧ E 4 = .box 1 0 ∧ E 5 = .box 2 0 ∧ E 6 = .box 3 0) ?_ ?_
  · repeat' first
    | with_reducible refine reg_a ?_
    | with_reducible refine call_p (e_names true true F (by omega) 0) (by simp) ?_
    | with_reducible refine call_p (e_names false true F (by omega) 0) (by simp) ?_
    | simp [z1, z4, z5, z6]
  rintro E ⟨z1, z4, z5, z6⟩
  refine if_skip ⟨[p.cells true, [.v (.int .i64 0), .sl true (F.map strCells)], p.cells false, [.v (.int .i64 0), .arr 22 (ver 22 + 1) 0 F.length]], arrW 22 (ver 22 + 1) 9 (F.map strCells) ver⟩ (fun E => E 1 = .box 0 0 ∧ E 4 = .box 1 0 ∧ E 5 = .box 2 0 ∧ E 6 = .box 3 0) ?_ ?_
  · repeat' first
    | with_reducible refine reg_a ?_
    | with_reducible refine adraw_all (by kernel_rfl) ?_
    | with_reducible refine call_p (t_pk true p hp) (by simp) ?_
    | with_reducible refine call_p (e_pk false false p hp5) (by simp) ?_
    | simp [z1, z4, z5, z6]
  rintro E ⟨z1, z4, z5, z6⟩
  refine seq_step ⟨[p.cells true, [.v (.int .i64 0), .sl true (F.map strCells)], p.cells false, [.v (.int .i64 0), .arr 22 (ver 22 + 1) 0 F.length]], arrW 22 (ver 22 + 1) 9 (F.map strCells) ver⟩ (fun E => E 1 = .box 0 0 ∧ E 4 = .box 1 0 ∧ E 5 = .box 2 0 ∧ E 6 = .box 3 0 ∧ E 7 = .v (.int .i64 1)) ?_ ?_
  · repeat' first
    | with_reducible refine reg_a ?_
    | simp [z1, z4, z5, z6]
  rintro E ⟨z1, z4, z5, z6, z7⟩
  refine seq_step ⟨[p.cells true, [.v (.int .i64 0), .sl true (F.map strCells)], [.dead, .dead, .dead, .dead, .dead, .dead, .dead, .dead], [.v (.int .i64 0), .arr 22 (ver 22 + 1) 0 F.length]], arrW 22 (ver 22 + 1) 9 (F.map strCells) ver⟩ (fun E => E 1 = .box 0 0 ∧ E 4 = .box 1 0 ∧ E 6 = .box 3 0 ∧ E 7 = .v (.int .i64 (1 + (mkP p : Int)))) ?_ ?_
  · simp [z1, z4, z5, z6, z7]
    refine reg_k 2 ?_
    simp [z1, z4, z5, z6, z7]
    refine mark_b 0 [(1, .box 0 0), (4, .box 1 0), (6, .box 3 0)] [p.cells true, [.v (.int .i64 0), .sl true (F.map strCells)], p.cells false, [.v (.int .i64 0), .arr 22 (ver 22 + 1) 0 F.length]] [p.cells true, [.v (.int .i64 0), .sl true (F.map strCells)], [.dead, .dead, .dead, .dead, .dead, .dead, .dead, .dead], [.v (.int .i64 0), .arr 22 (ver 22 + 1) 0 F.length]] (by simp) (w_pk p hp5 (1) (by omega) (by omega)) (⟨.inl (.agg _ _ rfl (wilds_pk p)), by simp, trivial⟩) (by simp) (by simp [StayB, StayR]) (arrW_stay (stayr_map F stayc_str)) (by simp) (by simp [WKeep_cons, WKeep_nil, z1, z4, z5, z6, z7]) ?_
    repeat' first
    | simp [z1, z4, z5, z6, z7]
  rintro E ⟨z1, z4, z6, z7⟩
  refine if_skip ⟨[p.cells true, [.v (.int .i64 0), .sl true (F.map strCells)], [.dead, .dead, .dead, .dead, .dead, .dead, .dead, .dead], [.v (.int .i64 0), .arr 22 (ver 22 + 1) 0 F.length]], arrW 22 (ver 22 + 1) 9 (F.map strCells) ver⟩ (fun E => E 1 = .box 0 0 ∧ E 4 = .box 1 0 ∧ E 6 = .box 3 0) ?_ ?_
  · repeat' first
    | with_reducible refine reg_a ?_
    | with_reducible refine call_p (e_names true true F (by omega) 0) (by simp) ?_
    | with_reducible refine call_p (e_names false true F (by omega) 0) (by simp) ?_
    | simp [z1, z4, z6, z7, hq]
  rintro E ⟨z1, z4, z6⟩
  refine seq_step ⟨[p.cells true, [.v (.int .i64 0), .sl true (F.map strCells)], [.dead, .dead, .dead, .dead, .dead, .dead, .dead, .dead], [.v (.int .i64 0), .arr 22 (ver 22 + 1) 0 F.length]], arrW 22 (ver 22 + 1) 9 (F.map strCells) ver⟩ (fun E => E 1 = .box 0 0 ∧ E 4 = .box 1 0 ∧ E 6 = .box 3 0 ∧ E 8 = .v (.int .i64 1)) ?_ ?_
  · repeat' first
    | with_reducible refine reg_a ?_
    | simp [z1, z4, z6]
  rintro E ⟨z1, z4, z6, z8⟩
  refine seq_step ⟨[p.cells true, [.v (.int .i64 0), .sl true (F.map strCells)], [.dead, .dead, .dead, .dead, .dead, .dead, .dead, .dead], [.v (.int .i64 0), .arr 22 (ver 22 + 1) 0 F.length]], arrW 22 (ver 22 + 1) 9 ((mstrs 1 F.length).map strCells) ver⟩ (fun E => E 1 = .box 0 0 ∧ E 4 = .box 1 0 ∧ E 6 = .box 3 0 ∧ E 8 = .v (.int .i64 (1 + (F.length : Int)))) ?_ ?_
  · repeat' first
    | with_reducible refine reg_a ?_
    | with_reducible refine call_s 22 (ver 22 + 1) 9 (F.map strCells) (by simp) (o_markNames F 1 0 (by omega) (by omega)) (by simp) (by simp) (fr_str _) ?_
    | simp [z1, z4, z6, z8, arrW_put]
  rintro E ⟨z1, z4, z6, z8⟩
  refine seq_step ⟨[p.cells true, [.v (.int .i64 0), .sl true (F.map strCells)], [.dead, .dead, .dead, .dead, .dead, .dead, .dead, .dead], [.v (.int .i64 0), .arr 22 (ver 22 + 1) 0 F.length]], arrW 22 (ver 22 + 1) 9 ((mstrs 1 F.length).map strCells) ver⟩ (fun E => E 1 = .box 0 0 ∧ E 4 = .box 1 0 ∧ E 6 = .box 3 0 ∧ E 8 = .v (.int .i64 (1 + (F.length : Int))) ∧ E 9 = .v (.int .i64 1)) ?_ ?_
  · repeat' first
    | with_reducible refine reg_a ?_
    | simp [z1, z4, z6, z8]
  rintro E ⟨z1, z4, z6, z8, z9⟩
  refine seq_step ⟨[p.cells true, [.v (.int .i64 0), .sl true (F.map strCells)], [.dead, .dead, .dead, .dead, .dead, .dead, .dead, .dead], [.v (.int .i64 0), .arr 22 (ver 22 + 1) 0 F.length]], arrW 22 (ver 22 + 1) 9 ((mstrs 1 F.length).map strCells) ver⟩ (fun E => E 1 = .box 0 0 ∧ E 4 = .box 1 0 ∧ E 6 = .box 3 0 ∧ E 8 = .v (.int .i64 (1 + (F.length : Int))) ∧ E 9 = .v (.int .i64 (1 + (F.length : Int)))) ?_ ?_
  · repeat' first
    | with_reducible refine reg_a ?_
    | with_reducible refine call_p (p_heldNames true F.length 1 0 (by omega) (by omega)) (by simp) ?_
    | simp [z1, z4, z6, z8, z9, htk]
  rintro E ⟨z1, z4, z6, z8, z9⟩
  refine if_skip ⟨[p.cells true, [.v (.int .i64 0), .sl true (F.map strCells)], [.dead, .dead, .dead, .dead, .dead, .dead, .dead, .dead], [.v (.int .i64 0), .arr 22 (ver 22 + 1) 0 F.length]], arrW 22 (ver 22 + 1) 9 ((mstrs 1 F.length).map strCells) ver⟩ (fun E => E 1 = .box 0 0 ∧ E 4 = .box 1 0 ∧ E 6 = .box 3 0 ∧ E 8 = .v (.int .i64 (1 + (F.length : Int))) ∧ E 9 = .v (.int .i64 (1 + (F.length : Int)))) ?_ ?_
  · repeat' first
    | with_reducible refine reg_a ?_
    | simp [z1, z4, z6, z8, z9, hq2]
  rintro E ⟨z1, z4, z6, z8, z9⟩
  refine if_skip ⟨[p.cells true, [.v (.int .i64 0), .sl true (F.map strCells)], [.dead, .dead, .dead, .dead, .dead, .dead, .dead, .dead], [.v (.int .i64 0), .arr 22 (ver 22 + 1) 0 F.length]], arrW 22 (ver 22 + 1) 9 ((mstrs 1 F.length).map strCells) ver⟩ (fun E => E 1 = .box 0 0 ∧ E 4 = .box 1 0 ∧ E 6 = .box 3 0 ∧ E 8 = .v (.int .i64 (1 + (F.length : Int)))) ?_ ?_
  · repeat' first
    | with_reducible refine reg_a ?_
    | simp [z1, z4, z6, z8, z9]
  rintro E ⟨z1, z4, z6, z8⟩
  refine seq_step ⟨[p.cells true, [.v (.int .i64 0), .sl true (F.map strCells)], [.dead, .dead, .dead, .dead, .dead, .dead, .dead, .dead], [.v (.int .i64 0), .arr 22 (ver 22 + 1) 0 F.length], [.v (.int .i64 0), .sl false (F.map strCells)]], arrW 22 (ver 22 + 1) 9 ((mstrs 1 F.length).map strCells) ver⟩ (fun E => E 4 = .box 1 0 ∧ E 6 = .box 3 0 ∧ E 8 = .v (.int .i64 (1 + (F.length : Int))) ∧ E 10 = .box 4 0) ?_ ?_
  · repeat' first
    | with_reducible refine reg_a ?_
    | with_reducible refine call_p (t_pk true p hp) (by simp) ?_
    | with_reducible refine call_p (hQ2) (by simp) ?_
    | simp [z1, z4, z6, z8]
  rintro E ⟨z4, z6, z8, z10⟩
  refine if_skip ⟨[p.cells true, [.v (.int .i64 0), .sl true (F.map strCells)], [.dead, .dead, .dead, .dead, .dead, .dead, .dead, .dead], [.v (.int .i64 0), .arr 22 (ver 22 + 1) 0 F.length], [.v (.int .i64 0), .sl false (F.map strCells)]], arrW 22 (ver 22 + 1) 9 ((mstrs 1 F.length).map strCells) ver⟩ (fun E => E 6 = .box 3 0 ∧ E 8 = .v (.int .i64 (1 + (F.length : Int)))) ?_ ?_
  · repeat' first
    | with_reducible refine reg_a ?_
    | with_reducible refine call_p (e_names true true F (by omega) 0) (by simp) ?_
    | with_reducible refine call_p (e_names false true F (by omega) 0) (by simp) ?_
    | simp [z4, z6, z8, z10]
  rintro E ⟨z6, z8⟩
  refine seq_step ⟨[p.cells true, [.v (.int .i64 0), .sl true (F.map strCells)], [.dead, .dead, .dead, .dead, .dead, .dead, .dead, .dead], [.v (.int .i64 0), .arr 22 (ver 22 + 1) 0 F.length], [.v (.int .i64 0), .sl false (F.map strCells)]], arrW 22 (ver 22 + 1) 9 ((mstrs 1 F.length).map strCells) ver⟩ (fun E => E 6 = .box 3 0 ∧ E 8 = .v (.int .i64 (1 + (F.length : Int))) ∧ E 9 = .v (.int .i64 1)) ?_ ?_
  · repeat' first
    | with_reducible refine reg_a ?_
    | simp [z6, z8]
  rintro E ⟨z6, z8, z9⟩
  refine seq_step ⟨[p.cells true, [.v (.int .i64 0), .sl true (F.map strCells)], [.dead, .dead, .dead, .dead, .dead, .dead, .dead, .dead], [.v (.int .i64 0), .arr 22 (ver 22 + 1) 0 F.length], [.v (.int .i64 0), .sl false (F.map strCells)]], arrW 22 (ver 22 + 1) 9 ((mstrs 1 F.length).map strCells) ver⟩ (fun E => E 8 = .v (.int .i64 (1 + (F.length : Int))) ∧ E 9 = .v (.int .i64 (1 + (F.length : Int)))) ?_ ?_
  · repeat' first
    | with_reducible refine reg_a ?_
    | with_reducible refine call_p (p_heldNames true F.length 1 0 (by omega) (by omega)) (by simp) ?_
    | simp [z6, z8, z9, htk]
  rintro E ⟨z8, z9⟩
  refine if_skip ⟨[p.cells true, [.v (.int .i64 0), .sl true (F.map strCells)], [.dead, .dead, .dead, .dead, .dead, .dead, .dead, .dead], [.v (.int .i64 0), .arr 22 (ver 22 + 1) 0 F.length], [.v (.int .i64 0), .sl false (F.map strCells)]], arrW 22 (ver 22 + 1) 9 ((mstrs 1 F.length).map strCells) ver⟩ (fun E => E 8 = .v (.int .i64 (1 + (F.length : Int))) ∧ E 9 = .v (.int .i64 (1 + (F.length : Int)))) ?_ ?_
  · repeat' first
    | with_reducible refine reg_a ?_
    | simp [z8, z9, hq2]
  rintro E ⟨z8, z9⟩
  refine if_skip ⟨[p.cells true, [.v (.int .i64 0), .sl true (F.map strCells)], [.dead, .dead, .dead, .dead, .dead, .dead, .dead, .dead], [.v (.int .i64 0), .arr 22 (ver 22 + 1) 0 F.length], [.v (.int .i64 0), .sl false (F.map strCells)]], arrW 22 (ver 22 + 1) 9 ((mstrs 1 F.length).map strCells) ver⟩ (fun _ => True) ?_ ?_
  · repeat' first
    | with_reducible refine reg_a ?_
    | simp [z8, z9]
  rintro E _
  refine seq_step ⟨[p.cells true, [.v (.int .i64 0), .sl true (F.map strCells)], [.dead, .dead, .dead, .dead, .dead, .dead, .dead, .dead], [.v (.int .i64 0), .arr 22 (ver 22 + 1) 0 F.length], [.v (.int .i64 0), .sl false (F.map strCells)]], arrW 22 (ver 22 + 1) 9 ((mstrs 1 F.length).map strCells) ver⟩ (fun E => E 2 = .v (.bool true)) ?_ ?_
  · repeat' first
    | with_reducible refine reg_a ?_
    | simp []
  rintro E z2
  simp [z2]

theorem l_ment (p : Pk) (hp : p.Big) (hps : p.Str) :
    Pure Try.prog 6 [p.av true] (.v (.bool true)) := by
  by_cases g0 : szPk p 1048576 < 0
  · exact l_ment0 p hp hps g0
  by_cases h : packF p = 0
  · exact l_mentB p hp hps g0 h
  · exact l_mentA p hp hps g0 h

end Go.Proofs.Ytokhnmchnfkiiaa.Am
