/- The packages that give a term, as the program finds them. No conditions. -/
import Derived.Test.YtbmfoijakgccgaaAmC22
namespace Go.Proofs.Ytbmfoijakgccgaa.Am
open Go Go.RowKit Go.Proofs
set_option linter.unusedSimpArgs false
set_option linter.unusedVariables false

theorem q_givers1 (a b : Bool) (c : List Pk) (hb : CatOk c) (t : Trm) (n : Int) (hn : 0 ≤ n ∧ n.toNat < c.length) (x : List AV) (y : List AV) :
    BCall Try.prog 140 [.v (.int .i64 n), .box 0 0, .box 1 0] [[pksAV a b c], t.cells, x, y] (.v (.bool (givesF (pkAt c n) t))) := by
  obtain ⟨q1, q2⟩ := hn
  have hg := pkAt_get q2
  have hok := hb _ (pkAt_mem q2)
  refine bcode Try.func140 rfl (by decide) (by simp [Try.f140]) (by simp) fun ver => ?_
  simp only [Try.f140, Gb]
  simp
  refine adraw_all (by kernel_rfl) ?_
  simp [q1, hg]
  refine call_p (q_gives b (pkAt c n) (by have := hok.1; omega) t) (by simp) ?_
  simp

theorem q_giversA (a b k : Bool) (c : List Pk) (hc : c.length ≤ 4611686018427387904) (hb : ∀ p ∈ c, p.Len) (s : List Int) (hs : s.length ≤ 4611686018427387904) (t : Trm) (h : (giversF c s t).1 ≠ 0 ∨ s = []) : Pure Try.prog 73 [pksAV a b c, intsAV k s, t.av] (setRes (giversF c s t).1 (.sl false [])) := by
  simp only [setRes]
  by_cases h1 : setF c s = 0
  · by_cases h2 : trmF t = 0
    · have e : giversF c s t = (0, s.filter fun x => givesF (pkAt c x) t) := by simp [giversF, h1, h2]
      rw [e] at h ⊢
      simp only [ne_eq, not_true_eq_false, false_or] at h
      subst h
      refine pure_of_code (G := (G0)) vers0 mixed0 Try.func73 rfl (by decide) (by simp [Try.f73]) (by simp) fun ver => ?_
      simp only [Try.f73, G0]
      simp
      refine adraw_all (by kernel_rfl) ?_
      simp
      refine call_p (q_setFault a b k c hc hb [] hs) (by simp) ?_
      simp
      refine call_p (q_trm t) (by simp) ?_
      simp [h1, h2, sealRows, sealCells, List.range_succ]
      refine call_p (q_first false [0, 0] (by simp)) (by simp) ?_
      simp [orF]
      refine call_b (q_those0 k 140 [.box 0 0, .box 1 0] [[pksAV a b c], t.cells, [.v (.int .i64 0), .v (.int .i64 0), .sl true []]] (fun _ => rfl) (fun _ => rfl)) rfl ?_
      simp
    · have e : giversF c s t = (trmF t, []) := by simp [giversF, h1, h2]
      rw [e]
      refine pure_of_code (G := (G0)) vers0 mixed0 Try.func73 rfl (by decide) (by simp [Try.f73]) (by simp) fun ver => ?_
      simp only [Try.f73, G0]
      simp
      refine adraw_all (by kernel_rfl) ?_
      simp
      refine call_p (q_setFault a b k c hc hb s hs) (by simp) ?_
      simp
      refine call_p (q_trm t) (by simp) ?_
      simp [h1, sealRows, sealCells, List.range_succ]
      refine call_p (q_first false [0, trmF t] (by simp)) (by simp) ?_
      simp [orF, h2]
  · have e : giversF c s t = (setF c s, []) := by simp [giversF, h1]
    rw [e]
    refine pure_of_code (G := (G0)) vers0 mixed0 Try.func73 rfl (by decide) (by simp [Try.f73]) (by simp) fun ver => ?_
    simp only [Try.f73, G0]
    simp
    refine adraw_all (by kernel_rfl) ?_
    simp
    refine call_p (q_setFault a b k c hc hb s hs) (by simp) ?_
    simp
    refine call_p (q_trm t) (by simp) ?_
    simp [sealRows, sealCells, List.range_succ]
    refine call_p (q_first false [setF c s, trmF t] (by simp)) (by simp) ?_
    simp [orF, h1]

theorem q_giversB (a b k : Bool) (c : List Pk) (hc : c.length ≤ 4611686018427387904) (hb : ∀ p ∈ c, p.Len) (s : List Int) (hs : s.length * 8 ≤ 140737488355328) (t : Trm) (h : (giversF c s t).1 = 0) (h0 : s ≠ []) :
    OCall Try.prog 73 none [pksAV a b c, intsAV k s, t.av] (some (false, 2, (giversF c s t).2.map intCells)) (setRes 0 (.arr 0 0 0 (giversF c s t).2.length)) := by
  have hs2 : s.length ≤ 4611686018427387904 := by omega
  have h1 : setF c s = 0 := by
    by_cases q : setF c s = 0
    · exact q
    · simp [giversF, q] at h
  have h2 : trmF t = 0 := by
    by_cases q : trmF t = 0
    · exact q
    · simp [giversF, h1, q] at h
  have e : giversF c s t = (0, s.filter fun x => givesF (pkAt c x) t) := by simp [giversF, h1, h2]
  rw [e]
  obtain ⟨hcat, hpl, _, _⟩ := setF_facts h1
  cases s with
  | nil => exact absurd rfl h0
  | cons x0 s0 =>
  simp only [setRes]
  refine own_of_code (G := Go1 21) (verso 21) mixed0 Try.func73 rfl (by decide) (by simp [Try.f73]) 21 (by simp) (by intro s e es h; cases h; exact fr_int _) ?_
  obtain ⟨L, hL⟩ : ∃ L, L = (x0 :: s0).filter fun x => givesF (pkAt c x) t := ⟨_, rfl⟩
  simp only [Try.f73, Go1, inArrs]
  rw [← hL]
  simp
  refine adraw_all (by kernel_rfl) ?_
  simp
  refine call_p (q_setFault a b k c hc hb (x0 :: s0) hs2) (by simp) ?_
  simp
  refine call_p (q_trm t) (by simp) ?_
  simp [h1, h2, sealRows, sealCells, List.range_succ]
  refine call_p (q_first false [0, 0] (by simp)) (by simp) ?_
  simp [orF]
  have hbs : ∀ cs ∈ [[pksAV a b c], t.cells, [AV.v (.int .i64 0), AV.v (.int .i64 0), AV.sl true []]], ∀ c ∈ cs, c.closed := by
    intro cs hcs x hx
    simp only [List.mem_cons, List.not_mem_nil, or_false] at hcs
    rcases hcs with rfl | rfl | rfl
    · simp at hx
      subst hx
      exact closed_pks a b c
    · simp at hx
      rcases hx with rfl | rfl | rfl | rfl | rfl | rfl | rfl <;> exact .v _
    · simp at hx
      rcases hx with rfl | rfl
      · exact .v _
      · exact .sl _ _ (by simp)
  have ht := q_those k x0 s0 (by simpa using hs) 140 [.box 0 0, .box 1 0] [[pksAV a b c], t.cells, [.v (.int .i64 0), .v (.int .i64 0), .sl true []]] (fun x => givesF (pkAt c x) t) (fun _ => rfl) (fun _ => rfl) ?_ ?_ fun x hx => q_givers1 a b c hcat t x (hpl x hx) _ _
  · rw [← hL] at ht
    refine call_nb 21 ht ?_ ?_ ?_ ?_
    · rfl
    · intro a ha
      rcases List.mem_cons.1 ha with rfl | ha
      · exact closed_ints k (x0 :: s0)
      · simp at ha
        subst ha
        exact .clo _ _ _ (by simp) (by simp; exact ⟨.box _ _, .box _ _⟩)
    · exact hbs
    · simp
  · exact hbs
  · simp
    exact ⟨.box _ _, .box _ _⟩

end Go.Proofs.Ytbmfoijakgccgaa.Am
