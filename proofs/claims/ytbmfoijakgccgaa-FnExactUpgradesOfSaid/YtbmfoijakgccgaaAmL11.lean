/- The law about the packages that are newer than a set's: what is to be shown of the row's function. No conditions. -/
import Derived.Test.YtbmfoijakgccgaaAmL3
import Derived.Test.YtbmfoijakgccgaaAmC26
import Derived.Test.YtbmfoijakgccgaaAmC24
namespace Go.Proofs.Ytbmfoijakgccgaa.Am
open Go Go.RowKit Go.Proofs
set_option linter.unusedSimpArgs false
set_option linter.unusedVariables false

theorem mkPs_len : ∀ l : List Pk, l.length ≤ mkPs l
  | [] => by simp
  | p :: l => by
    have := mkPs_len l
    simp only [mkPs, List.length_cons]
    omega

set_option maxHeartbeats 16000000 in
set_option maxRecDepth 10000 in
theorem l_upg0 (l : List Pk) (hp : BigP l) (hps : StrP l) (s : List Int) (hs : BigI s) (g0 : 1048576 < s.length) :
    Pure Try.prog 18 [pksAV true true l, intsAV true s] (.v (.bool true)) := by
  obtain ⟨h1, h2⟩ := hp.len
  have h3 : s.length ≤ 4611686018427387904 := by unfold BigI at hs; omega
  have h8 : l.length * 8 ≤ 140737488355328 := by have := hp.1; omega
  have g0' : (1048576 : Int) < s.length := by omega
  refine top_of_code (G := Gt) verst mixed0 Try.func18 rfl (by decide) (by simp [Try.f18]) (by simp) fun ver => ?_
  simp only [Try.f18, Gt]
  repeat' first
    | with_reducible refine reg_a ?_
    | simp [g0']

set_option maxHeartbeats 16000000 in
set_option maxRecDepth 10000 in
theorem l_upg1 (l : List Pk) (hp : BigP l) (hps : StrP l) (s : List Int) (hs : BigI s) (g0 : ¬ 1048576 < s.length) (g1 : sz_pks l 1048576 < 0) :
    Pure Try.prog 18 [pksAV true true l, intsAV true s] (.v (.bool true)) := by
  obtain ⟨h1, h2⟩ := hp.len
  have h3 : s.length ≤ 4611686018427387904 := by unfold BigI at hs; omega
  have h8 : l.length * 8 ≤ 140737488355328 := by have := hp.1; omega
  have g0' : ¬ (1048576 : Int) < s.length := by omega
  refine top_of_code (G := Gt) verst mixed0 Try.func18 rfl (by decide) (by simp [Try.f18]) (by simp) fun ver => ?_
  simp only [Try.f18, Gt]
  repeat' first
    | with_reducible refine reg_a ?_
    | with_reducible refine call_p (z_pks true l hp _) (by simp) ?_
    | simp [g0', g1]

set_option maxHeartbeats 16000000 in
set_option maxRecDepth 10000 in
theorem l_upgA (l : List Pk) (hp : BigP l) (hps : StrP l) (s : List Int) (hs : BigI s) (g0 : ¬ 1048576 < s.length) (g1 : ¬ sz_pks l 1048576 < 0) (h : (upgF l s).1 ≠ 0 ∨ l = []) :
    Pure Try.prog 18 [pksAV true true l, intsAV true s] (.v (.bool true)) := by
  obtain ⟨h1, h2⟩ := hp.len
  have h3 : s.length ≤ 4611686018427387904 := by unfold BigI at hs; omega
  have h8 : l.length * 8 ≤ 140737488355328 := by have := hp.1; omega
  have hmk := (sz_pks_le hp hps (by decide) (by decide) g1).1
  have hsz := (sz_pks_le hp hps (by decide) (by decide) g1).2
  have g0' : ¬ (1048576 : Int) < s.length := by omega
  have hP := p_upg false false false l h8 h2 s h3
  have hnil : (upgF l s).2 = [] := by
    rcases h with h | rfl
    · simp only [upgF] at h ⊢
      split
      · rfl
      · simp_all
    · simp only [upgF]
      split
      · rfl
      · simp [upgL, allI]
  have hE : ∀ (c d : Bool) (k : Int), Pure Try.prog 74 [.agg [.v (.int .i64 k), .v (.int .i64 0), .sl c []], .agg [.v (.int .i64 k), .v (.int .i64 0), .sl d []]] (.v (.bool true)) := fun c d k => by simpa using e_set c d [] (by simp) k 0
  obtain ⟨k, hk⟩ : ∃ k, k = (upgF l s).1 := ⟨_, rfl⟩
  have hQ := q_upgA false false false l h1 h2 s h3 h
  rw [← hk, setRes] at hQ
  rw [hnil, ← hk, setRes] at hP
  clear hk h hnil
  have hq : ¬ 1 + (mkPs l : Int) + (s.length : Int) < 0 := by omega
  refine top_of_code (G := Gt) verst mixed0 Try.func18 rfl (by decide) (by simp [Try.f18]) (by simp) fun ver => ?_
  simp only [Try.f18, Gt]
  repeat' first
    | with_reducible refine reg_a ?_
    | with_reducible refine call_p (z_pks true l hp _) (by simp) ?_
    | with_reducible refine call_p (t_pks true l hp) (by simp) ?_
    | with_reducible refine call_p (t_ints true s hs) (by simp) ?_
    | simp [g0', g1]
  refine call_p hP (by simp) ?_
  simp
  refine reg_o2 2 [[.v (.int .i64 k), .v (.int .i64 0), intsAV false []]] [[.v (.int .i64 k), .v (.int .i64 0), intsAV true []]] (by simp) (by intro i; simp [noArrs]) (by simp [List.range_succ]) (by simp [OldsB, OldsR]) ?_
  repeat' first
    | with_reducible refine call_p (t_pks true l hp) (by simp) ?_
    | with_reducible refine call_p (t_ints true s hs) (by simp) ?_
    | with_reducible refine reg_a ?_
    | simp
  refine call_p hQ (by simp) ?_
  simp
  repeat' first
    | with_reducible refine call_p (t_pks true l hp) (by simp) ?_
    | with_reducible refine call_p (t_ints true s hs) (by simp) ?_
    | with_reducible refine call_p (e_pks false false l h1 h2) (by simp) ?_
    | with_reducible refine call_p (e_ints false false s h3) (by simp) ?_
    | with_reducible refine call_p (hE _ _ k) (by simp) ?_
    | (refine reg_k 2 ?_; simp; refine mark_k 2 [(8, wintsAV s)] (w_pks l h2 h1 1 (by omega) (by omega)) (by simp [WArgL]) (by simp) (by simp) (by intro i; simp [noArrs]) (by simp [List.range_succ]) (by simp) ?_)
    | (refine reg_k 2 ?_; simp; refine mark_k 2 [] (w_ints s (1 + mkPs l) (by omega) (by omega)) (by simp [WArgL]) (by simp) (by simp) (by intro i; simp [noArrs]) (by simp [List.range_succ]) (by simp) ?_)
    | with_reducible refine call_p (p_markSet0 false 1 k 0) (by simp) ?_
    | with_reducible refine call_p (p_heldSet0 false 1 k 0 (by omega) (by omega)) (by simp) ?_
    | with_reducible refine call_p hQ (by simp) ?_
    | with_reducible refine reg_a ?_
    | simp [hq]

set_option maxHeartbeats 16000000 in
set_option maxRecDepth 10000 in
theorem l_upgB (l : List Pk) (hp : BigP l) (hps : StrP l) (s : List Int) (hs : BigI s) (g0 : ¬ 1048576 < s.length) (g1 : ¬ sz_pks l 1048576 < 0) (h : (upgF l s).1 = 0) (h0 : l ≠ []) :
    Pure Try.prog 18 [pksAV true true l, intsAV true s] (.v (.bool true)) := by
  obtain ⟨h1, h2⟩ := hp.len
  have h3 : s.length ≤ 4611686018427387904 := by unfold BigI at hs; omega
  have h8 : l.length * 8 ≤ 140737488355328 := by have := hp.1; omega
  have hmk := (sz_pks_le hp hps (by decide) (by decide) g1).1
  have hsz := (sz_pks_le hp hps (by decide) (by decide) g1).2
  obtain ⟨cs, hcs⟩ : ∃ cs, cs = (upgF l s).2 := ⟨_, rfl⟩
  have hcl : cs.length ≤ l.length := by
    rw [hcs]
    simp only [upgF]
    split
    · simp
    · exact Nat.le_trans (List.length_filter_le _ _) (by simp)
  have hln := mkPs_len l
  have g0' : ¬ (1048576 : Int) < s.length := by omega
  have hP := p_upg false false false l h8 h2 s h3
  rw [h, ← hcs, setRes] at hP
  have hQ := q_upgB false false false l h8 h2 s h3 h h0
  rw [← hcs, setRes] at hQ
  have htk : List.take cs.length (List.map intCells (mlist 1 cs.length)) = List.map intCells (mlist 1 cs.length) := List.take_of_length_le (by simp)
  have hQ2 : Pure Try.prog 78 [pksAV false false l, intsAV false s] (.agg [.v (.int .i64 0), .v (.int .i64 0), intsAV false cs]) := by
    have := OCall.pure hQ (by simp) (by simp)
    simpa using this
  have hq2 : ¬ 1 + (cs.length : Int) < 0 := by omega
  have hq : ¬ 1 + (mkPs l : Int) + (s.length : Int) < 0 := by omega
  refine top_of_code (G := Gt) verst mixed0 Try.func18 rfl (by decide) (by simp [Try.f18]) (by simp) fun ver => ?_
  simp only [Try.f18, Gt]
  repeat' first
    | with_reducible refine reg_a ?_
    | with_reducible refine call_p (z_pks true l hp _) (by simp) ?_
    | with_reducible refine call_p (t_pks true l hp) (by simp) ?_
    | with_reducible refine call_p (t_ints true s hs) (by simp) ?_
    | simp [g0', g1]
  refine call_p hP (by simp) ?_
  simp
  refine reg_o2 2 [[.v (.int .i64 0), .v (.int .i64 0), intsAV false cs]] [[.v (.int .i64 0), .v (.int .i64 0), intsAV true cs]] (by simp) (by intro i; simp [noArrs]) (by simp [List.range_succ]) (by simp [OldsB, OldsR]) ?_
  repeat' first
    | with_reducible refine call_p (t_pks true l hp) (by simp) ?_
    | with_reducible refine call_p (t_ints true s hs) (by simp) ?_
    | with_reducible refine reg_a ?_
    | simp
  refine call_n 33 hQ (by simp) ?_
  simp
  repeat' first
    | with_reducible refine call_p (t_pks true l hp) (by simp) ?_
    | with_reducible refine call_p (t_ints true s hs) (by simp) ?_
    | with_reducible refine call_p (e_pks false false l h1 h2) (by simp) ?_
    | with_reducible refine call_p (e_ints false false s h3) (by simp) ?_
    | with_reducible refine call_p (e_set true true cs (by omega) 0 0) (by simp) ?_
    | with_reducible refine call_p (e_set false true cs (by omega) 0 0) (by simp) ?_
    | (refine reg_k 2 ?_; simp; refine mark_k 2 [(8, wintsAV s)] (w_pks l h2 h1 1 (by omega) (by omega)) (by simp [WArgL]) (by simp) (by simp) (by intro i; by_cases hi : i = 33 <;> simp [hi, noArrs]; done) (by simp [List.range_succ]) (by simp) ?_)
    | (refine reg_k 2 ?_; simp; refine mark_k 2 [] (w_ints s (1 + mkPs l) (by omega) (by omega)) (by simp [WArgL]) (by simp) (by simp) (by intro i; by_cases hi : i = 33 <;> simp [hi, noArrs]; done) (by simp [List.range_succ]) (by simp) ?_)
    | with_reducible refine call_s 33 ((noArrs ver 33).ver + 1) 2 (cs.map intCells) (by simp) (o_markSet cs 1 0 0 (by omega) (by omega)) (by simp) (by simp) (fr_int _) ?_
    | with_reducible refine call_p (p_heldSet true cs.length 1 0 0 (by omega) (by omega)) (by simp) ?_
    | with_reducible refine call_p hQ2 (by simp) ?_
    | with_reducible refine reg_a ?_
    | simp [hq, hq2, htk]

theorem l_upg (l : List Pk) (hp : BigP l) (hps : StrP l) (s : List Int) (hs : BigI s) :
    Pure Try.prog 18 [pksAV true true l, intsAV true s] (.v (.bool true)) := by
  by_cases g0 : 1048576 < s.length
  · exact l_upg0 l hp hps s hs g0
  · by_cases g1 : sz_pks l 1048576 < 0
    · exact l_upg1 l hp hps s hs g0 g1
    · by_cases h : (upgF l s).1 ≠ 0 ∨ l = []
      · exact l_upgA l hp hps s hs g0 g1 h
      · simp only [ne_eq, not_or, Decidable.not_not] at h
        exact l_upgB l hp hps s hs g0 g1 h.1 h.2

end Go.Proofs.Ytbmfoijakgccgaa.Am
