/- The law about the packages that give a term: what is to be shown of the row's function. No conditions. -/
import Derived.Test.YtbmfoijakgccgaaAmL3
import Derived.Test.YtbmfoijakgccgaaAmC23
import Derived.Test.YtbmfoijakgccgaaAmC24
namespace Go.Proofs.Ytbmfoijakgccgaa.Am
open Go Go.RowKit Go.Proofs
set_option linter.unusedSimpArgs false
set_option linter.unusedVariables false

set_option maxHeartbeats 16000000 in
set_option maxRecDepth 10000 in
theorem l_givers0 (l : List Pk) (hp : BigP l) (hps : StrP l) (s : List Int) (hs : BigI s) (t : Trm) (ht : t.n.size ≤ 140737488355328) (g0 : 1048576 < s.length) :
    Pure Try.prog 17 [pksAV true true l, intsAV true s, t.av] (.v (.bool true)) := by
  obtain ⟨h1, h2⟩ := hp.len
  have h3 : s.length ≤ 4611686018427387904 := by unfold BigI at hs; omega
  have g0' : (1048576 : Int) < s.length := by omega
  refine top_of_code (G := Gt) verst mixed0 Try.func17 rfl (by decide) (by simp [Try.f17]) (by simp) fun ver => ?_
  simp only [Try.f17, Gt]
  repeat' first
    | with_reducible refine reg_a ?_
    | simp [g0']

set_option maxHeartbeats 16000000 in
set_option maxRecDepth 10000 in
theorem l_givers1 (l : List Pk) (hp : BigP l) (hps : StrP l) (s : List Int) (hs : BigI s) (t : Trm) (ht : t.n.size ≤ 140737488355328) (g0 : ¬ 1048576 < s.length) (g1 : sz_pks l 1048576 < 0) :
    Pure Try.prog 17 [pksAV true true l, intsAV true s, t.av] (.v (.bool true)) := by
  obtain ⟨h1, h2⟩ := hp.len
  have h3 : s.length ≤ 4611686018427387904 := by unfold BigI at hs; omega
  have g0' : ¬ (1048576 : Int) < s.length := by omega
  refine top_of_code (G := Gt) verst mixed0 Try.func17 rfl (by decide) (by simp [Try.f17]) (by simp) fun ver => ?_
  simp only [Try.f17, Gt]
  repeat' first
    | with_reducible refine reg_a ?_
    | with_reducible refine call_p (z_pks true l hp _) (by simp) ?_
    | with_reducible refine call_p (z_term t _) (by simp) ?_
    | simp [g0', g1]

set_option maxHeartbeats 16000000 in
set_option maxRecDepth 10000 in
theorem l_givers2 (l : List Pk) (hp : BigP l) (hps : StrP l) (s : List Int) (hs : BigI s) (t : Trm) (ht : t.n.size ≤ 140737488355328) (g0 : ¬ 1048576 < s.length) (g1 : ¬ sz_pks l 1048576 < 0) (g2 : szT t (sz_pks l 1048576) < 0) :
    Pure Try.prog 17 [pksAV true true l, intsAV true s, t.av] (.v (.bool true)) := by
  obtain ⟨h1, h2⟩ := hp.len
  have h3 : s.length ≤ 4611686018427387904 := by unfold BigI at hs; omega
  have g0' : ¬ (1048576 : Int) < s.length := by omega
  refine top_of_code (G := Gt) verst mixed0 Try.func17 rfl (by decide) (by simp [Try.f17]) (by simp) fun ver => ?_
  simp only [Try.f17, Gt]
  repeat' first
    | with_reducible refine reg_a ?_
    | with_reducible refine call_p (z_pks true l hp _) (by simp) ?_
    | with_reducible refine call_p (z_term t _) (by simp) ?_
    | simp [g0', g1, g2]

set_option maxHeartbeats 16000000 in
set_option maxRecDepth 10000 in
theorem l_giversA (l : List Pk) (hp : BigP l) (hps : StrP l) (s : List Int) (hs : BigI s) (t : Trm) (ht : t.n.size ≤ 140737488355328) (g0 : ¬ 1048576 < s.length) (g1 : ¬ sz_pks l 1048576 < 0) (g2 : ¬ szT t (sz_pks l 1048576) < 0) (h : (giversF l s t).1 ≠ 0 ∨ s = []) :
    Pure Try.prog 17 [pksAV true true l, intsAV true s, t.av] (.v (.bool true)) := by
  obtain ⟨h1, h2⟩ := hp.len
  have h3 : s.length ≤ 4611686018427387904 := by unfold BigI at hs; omega
  have hmk := (sz_pks_le hp hps (by decide) (by decide) g1).1
  have hsz := (sz_pks_le hp hps (by decide) (by decide) g1).2
  have g0' : ¬ (1048576 : Int) < s.length := by omega
  have hP := p_givers false false false l h1 h2 s hs t
  have hnil : (giversF l s t).2 = [] := by
    rcases h with h | rfl
    · simp only [giversF] at h ⊢
      split
      · rfl
      · split
        · rfl
        · simp_all
    · simp only [giversF, List.filter_nil]
      split
      · rfl
      · split <;> rfl
  have hE : ∀ (c d : Bool) (k : Int), Pure Try.prog 74 [.agg [.v (.int .i64 k), .v (.int .i64 0), .sl c []], .agg [.v (.int .i64 k), .v (.int .i64 0), .sl d []]] (.v (.bool true)) := fun c d k => by simpa using e_set c d [] (by simp) k 0
  obtain ⟨k, hk⟩ : ∃ k, k = (giversF l s t).1 := ⟨_, rfl⟩
  have hQ := q_giversA false false false l h1 h2 s h3 t h
  rw [← hk, setRes] at hQ
  rw [hnil, ← hk, setRes] at hP
  clear hk h hnil
  have hq : ¬ 1 + (mkPs l : Int) + (s.length : Int) < 0 := by omega
  refine top_of_code (G := Gt) verst mixed0 Try.func17 rfl (by decide) (by simp [Try.f17]) (by simp) fun ver => ?_
  simp only [Try.f17, Gt]
  repeat' first
    | (with_reducible refine And.intro (fun h => ?_) (fun _ => ?_); (exfalso; simp at h; done))
    | with_reducible refine reg_a ?_
    | with_reducible refine call_p (z_pks true l hp _) (by simp) ?_
    | with_reducible refine call_p (z_term t _) (by simp) ?_
    | simp [g0', g1, g2]
  refine adraw_f 7 (by decide +kernel) ?_
  repeat' first
    | with_reducible refine call_f (t_pks true l hp) (by simp) ?_
    | with_reducible refine call_f (t_ints true s hs) (by simp) ?_
    | with_reducible refine call_f (p_toTerm _ _ _ _ _ _ _) (by simp) ?_
    | with_reducible refine call_f hP (by simp) ?_
    | simp
  refine reg_o2 3 [t.cells, [.v (.int .i64 k), .v (.int .i64 0), intsAV false []]] [t.cells, [.v (.int .i64 k), .v (.int .i64 0), intsAV true []]] (by simp) (by intro i; simp [noArrs]) (by simp [List.range_succ]) (by simp [OldsB, OldsR]) ?_
  repeat' first
    | with_reducible refine call_p (t_pks true l hp) (by simp) ?_
    | with_reducible refine call_p (t_ints true s hs) (by simp) ?_
    | with_reducible refine call_p (p_toTerm _ _ _ _ _ _ _) (by simp) ?_
    | with_reducible refine call_p hQ (by simp) ?_
    | with_reducible refine call_p (e_pks false false l h1 h2) (by simp) ?_
    | with_reducible refine call_p (e_ints false false s h3) (by simp) ?_
    | with_reducible refine call_p (hE _ _ k) (by simp) ?_
    | (refine reg_k 2 ?_; simp; refine mark_k 3 [(10, wintsAV s)] (w_pks l h2 h1 1 (by omega) (by omega)) (by simp [WArgL]) (by simp) (by simp) (by intro i; simp [noArrs]) (by simp [List.range_succ]) (by simp) ?_)
    | (refine reg_k 2 ?_; simp; refine mark_k 3 [] (w_ints s (1 + mkPs l) (by omega) (by omega)) (by simp [WArgL]) (by simp) (by simp) (by intro i; simp [noArrs]) (by simp [List.range_succ]) (by simp) ?_)
    | with_reducible refine call_p (p_markSet0 false 1 k 0) (by simp) ?_
    | with_reducible refine call_p (p_heldSet0 false 1 k 0 (by omega) (by omega)) (by simp) ?_
    | with_reducible refine reg_a ?_
    | (refine adraw_f 7 (by decide +kernel) ?_)
    | with_reducible refine call_f (t_pks true l hp) (by simp) ?_
    | with_reducible refine call_f (t_ints true s hs) (by simp) ?_
    | with_reducible refine call_f (p_toTerm _ _ _ _ _ _ _) (by simp) ?_
    | with_reducible refine call_f hQ (by simp) ?_
    | simp [hq]

set_option maxHeartbeats 16000000 in
set_option maxRecDepth 10000 in
theorem l_giversB (l : List Pk) (hp : BigP l) (hps : StrP l) (s : List Int) (hs : BigI s) (t : Trm) (ht : t.n.size ≤ 140737488355328) (g0 : ¬ 1048576 < s.length) (g1 : ¬ sz_pks l 1048576 < 0) (g2 : ¬ szT t (sz_pks l 1048576) < 0) (h : (giversF l s t).1 = 0) (h0 : s ≠ []) :
    Pure Try.prog 17 [pksAV true true l, intsAV true s, t.av] (.v (.bool true)) := by
  obtain ⟨h1, h2⟩ := hp.len
  have h3 : s.length ≤ 4611686018427387904 := by unfold BigI at hs; omega
  have hmk := (sz_pks_le hp hps (by decide) (by decide) g1).1
  have hsz := (sz_pks_le hp hps (by decide) (by decide) g1).2
  obtain ⟨cs, hcs⟩ : ∃ cs, cs = (giversF l s t).2 := ⟨_, rfl⟩
  have hcl : cs.length ≤ s.length := by
    rw [hcs]
    simp only [giversF]
    split
    · simp
    · split
      · simp
      · exact List.length_filter_le _ _
  have g0' : ¬ (1048576 : Int) < s.length := by omega
  have hP := p_givers false false false l h1 h2 s hs t
  rw [h, ← hcs, setRes] at hP
  have hQ := q_giversB false false false l h1 h2 s hs t h h0
  rw [← hcs, setRes] at hQ
  have htk : List.take cs.length (List.map intCells (mlist 1 cs.length)) = List.map intCells (mlist 1 cs.length) := List.take_of_length_le (by simp)
  have hQ2 : Pure Try.prog 73 [pksAV false false l, intsAV false s, t.av] (.agg [.v (.int .i64 0), .v (.int .i64 0), intsAV false cs]) := by
    have := OCall.pure hQ (by simp) (by simp)
    simpa using this
  have hq2 : ¬ 1 + (cs.length : Int) < 0 := by omega
  have hq : ¬ 1 + (mkPs l : Int) + (s.length : Int) < 0 := by omega
  refine top_of_code (G := Gt) verst mixed0 Try.func17 rfl (by decide) (by simp [Try.f17]) (by simp) fun ver => ?_
  simp only [Try.f17, Gt]
  repeat' first
    | (with_reducible refine And.intro (fun h => ?_) (fun _ => ?_); (exfalso; simp at h; done))
    | with_reducible refine reg_a ?_
    | with_reducible refine call_p (z_pks true l hp _) (by simp) ?_
    | with_reducible refine call_p (z_term t _) (by simp) ?_
    | simp [g0', g1, g2]
  refine adraw_f 7 (by decide +kernel) ?_
  repeat' first
    | with_reducible refine call_f (t_pks true l hp) (by simp) ?_
    | with_reducible refine call_f (t_ints true s hs) (by simp) ?_
    | with_reducible refine call_f (p_toTerm _ _ _ _ _ _ _) (by simp) ?_
    | with_reducible refine call_f hP (by simp) ?_
    | simp
  refine reg_o2 3 [t.cells, [.v (.int .i64 0), .v (.int .i64 0), intsAV false cs]] [t.cells, [.v (.int .i64 0), .v (.int .i64 0), intsAV true cs]] (by simp) (by intro i; simp [noArrs]) (by simp [List.range_succ]) (by simp [OldsB, OldsR]) ?_
  repeat' first
    | with_reducible refine call_p (t_pks true l hp) (by simp) ?_
    | with_reducible refine call_p (t_ints true s hs) (by simp) ?_
    | with_reducible refine call_p (p_toTerm _ _ _ _ _ _ _) (by simp) ?_
    | with_reducible refine call_n 44 hQ (by simp) ?_
    | with_reducible refine call_p (e_pks false false l h1 h2) (by simp) ?_
    | with_reducible refine call_p (e_ints false false s h3) (by simp) ?_
    | with_reducible refine call_p (e_set true true cs (by omega) 0 0) (by simp) ?_
    | with_reducible refine call_p (e_set false true cs (by omega) 0 0) (by simp) ?_
    | (refine reg_k 2 ?_; simp; refine mark_k 3 [(10, wintsAV s)] (w_pks l h2 h1 1 (by omega) (by omega)) (by simp [WArgL]) (by simp) (by simp) (by intro i; by_cases hi : i = 44 <;> simp [hi, noArrs]; done) (by simp [List.range_succ]) (by simp) ?_)
    | (refine reg_k 2 ?_; simp; refine mark_k 3 [] (w_ints s (1 + mkPs l) (by omega) (by omega)) (by simp [WArgL]) (by simp) (by simp) (by intro i; by_cases hi : i = 44 <;> simp [hi, noArrs]; done) (by simp [List.range_succ]) (by simp) ?_)
    | with_reducible refine call_s 44 ((noArrs ver 44).ver + 1) 2 (cs.map intCells) (by simp) (o_markSet cs 1 0 0 (by omega) (by omega)) (by simp) (by simp) (fr_int _) ?_
    | with_reducible refine call_p (p_heldSet true cs.length 1 0 0 (by omega) (by omega)) (by simp) ?_
    | with_reducible refine reg_a ?_
    | (refine adraw_f 7 (by decide +kernel) ?_)
    | with_reducible refine call_f (t_pks true l hp) (by simp) ?_
    | with_reducible refine call_f (t_ints true s hs) (by simp) ?_
    | with_reducible refine call_f (p_toTerm _ _ _ _ _ _ _) (by simp) ?_
    | with_reducible refine call_f hQ2 (by simp) ?_
    | simp [hq, hq2, htk]

theorem l_givers (l : List Pk) (hp : BigP l) (hps : StrP l) (s : List Int) (hs : BigI s) (t : Trm) (ht : t.n.size ≤ 140737488355328) :
    Pure Try.prog 17 [pksAV true true l, intsAV true s, t.av] (.v (.bool true)) := by
  by_cases g0 : 1048576 < s.length
  · exact l_givers0 l hp hps s hs t ht g0
  · by_cases g1 : sz_pks l 1048576 < 0
    · exact l_givers1 l hp hps s hs t ht g0 g1
    · by_cases g2 : szT t (sz_pks l 1048576) < 0
      · exact l_givers2 l hp hps s hs t ht g0 g1 g2
      · by_cases h : (giversF l s t).1 ≠ 0 ∨ s = []
        · exact l_giversA l hp hps s hs t ht g0 g1 g2 h
        · simp only [ne_eq, not_or, Decidable.not_not] at h
          exact l_giversB l hp hps s hs t ht g0 g1 g2 h.1 h.2

end Go.Proofs.Ytbmfoijakgccgaa.Am
