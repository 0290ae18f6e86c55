/- The laws about consistent sets and terms that hold: what is to be shown of the rows' functions. No conditions. -/
import Derived.Test.YtbmfoijakgccgaaAmL3
import Derived.Test.YtbmfoijakgccgaaAmC15
namespace Go.Proofs.Ytbmfoijakgccgaa.Am
open Go Go.RowKit Go.Proofs
set_option linter.unusedSimpArgs false
set_option linter.unusedVariables false

set_option maxHeartbeats 4000000 in
set_option maxRecDepth 10000 in
theorem l_cons (l : List Pk) (hp : BigP l) (s : List Int) (hs : BigI s) : Pure Try.prog 12 [pksAV true true l, intsAV true s] (.v (.bool true)) := by
  obtain ⟨h1, h2⟩ := hp.len
  have h3 : s.length ≤ 4611686018427387904 := by unfold BigI at hs; omega
  refine pure_of_code (G := G0) vers0 mixed0 Try.func12 rfl (by decide) (by simp [Try.f12]) (by simp) fun ver => ?_
  simp only [Try.f12, G0]
  repeat' first
    | with_reducible refine And.intro ?_ ?_
    | with_reducible intro _
    | (first | with_reducible refine adraw_f 2 (by decide +kernel) ?_ | with_reducible refine adraw_f 3 (by decide +kernel) ?_ | with_reducible refine adraw_f 4 (by decide +kernel) ?_ | with_reducible refine adraw_f 5 (by decide +kernel) ?_ | with_reducible refine adraw_f 6 (by decide +kernel) ?_ | with_reducible refine adraw_f 7 (by decide +kernel) ?_ | with_reducible refine adraw_f 8 (by decide +kernel) ?_ | with_reducible refine adraw_f 9 (by decide +kernel) ?_ | with_reducible refine adraw_f 10 (by decide +kernel) ?_ | with_reducible refine adraw_f 11 (by decide +kernel) ?_ | with_reducible refine adraw_cut 0 (by decide +kernel) ?_ | with_reducible refine adraw_cut 1 (by decide +kernel) ?_ | with_reducible refine adraw_cut 2 (by decide +kernel) ?_ | with_reducible refine adraw_cut 3 (by decide +kernel) ?_ | with_reducible refine adraw_cut 4 (by decide +kernel) ?_ | with_reducible refine adraw_cut 5 (by decide +kernel) ?_ | with_reducible refine adraw_cut 6 (by decide +kernel) ?_ | with_reducible refine adraw_cut 7 (by decide +kernel) ?_ | with_reducible refine adraw_cut 8 (by decide +kernel) ?_ | with_reducible refine adraw_cut 9 (by decide +kernel) ?_ | with_reducible refine adraw_all (by kernel_rfl) ?_)
    | with_reducible refine call_p (z_pks true l hp _) (by simp) ?_
    | with_reducible refine call_f (z_pks true l hp _) (by simp) ?_
    | with_reducible refine call_p (t_pks true l hp) (by simp) ?_
    | with_reducible refine call_f (t_pks true l hp) (by simp) ?_
    | with_reducible refine call_p (t_ints true s hs) (by simp) ?_
    | with_reducible refine call_f (t_ints true s hs) (by simp) ?_
    | with_reducible refine call_p (p_cons false false false l h1 h2 s h3) (by simp) ?_
    | with_reducible refine call_f (p_cons false false false l h1 h2 s h3) (by simp) ?_
    | with_reducible refine call_p (q_cons false false false l h1 h2 s h3) (by simp) ?_
    | with_reducible refine call_f (q_cons false false false l h1 h2 s h3) (by simp) ?_
    | with_reducible refine call_p (e_pks false false l h1 h2) (by simp) ?_
    | with_reducible refine call_f (e_pks false false l h1 h2) (by simp) ?_
    | with_reducible refine call_p (e_ints false false s h3) (by simp) ?_
    | with_reducible refine call_f (e_ints false false s h3) (by simp) ?_
    | simp (config := { contextual := true, maxSteps := 4000000 }) [*, -Int.not_le, -Int.not_lt]

theorem trmsF_all : ∀ l : List Trm, decide (trmsF l = 0) = l.all fun t => decide (trmF t = 0)
  | [] => by simp [trmsF]
  | t :: l => by
    have := trmsF_all l
    unfold trmsF
    split <;> simp_all
noncomputable def holdsF (c : List Pk) (s : List Int) (l : List Trm) : Bool := consF c s && holdsB c s l

theorem p_holdsAll (a b k k' : Bool) (c : List Pk) (hc : c.length ≤ 4611686018427387904) (hb : ∀ p ∈ c, p.Len) (s : List Int) (hs : s.length ≤ 4611686018427387904) (l : List Trm) (hl : l.length ≤ 4611686018427387904) : Pure Try.prog 62 [pksAV a b c, intsAV k s, trmsAV k' l] (.v (.bool (holdsF c s l))) := by
  refine pure_of_code (G := (G0)) vers0 mixed0 Try.func62 rfl (by decide) (by simp [Try.f62]) (by simp) fun ver => ?_
  simp only [Try.f62, G0]
  simp
  refine call_p (p_cons a b k c hc hb s hs) (by simp) ?_
  cases h : consF c s with
  | false => simp [holdsF, h]
  | true =>
    have h0 : setF c s = 0 := by simp [consF] at h; exact h.1
    obtain ⟨h1, h2, h3, h4⟩ := setF_facts h0
    simp
    refine call_p (p_holdsB a b k k' c h1 s h3 h2 l hl) (by simp) ?_
    simp [holdsF, h]

theorem q_holdsAll (a b k k' : Bool) (c : List Pk) (hc : c.length ≤ 4611686018427387904) (hb : ∀ p ∈ c, p.Len) (s : List Int) (hs : s.length ≤ 4611686018427387904) (l : List Trm) (hl : l.length ≤ 4611686018427387904) : Pure Try.prog 63 [pksAV a b c, intsAV k s, trmsAV k' l] (.v (.bool (holdsF c s l))) := by
  have e := trmsF_all l
  have e2 : holdsB c s l = ((l.all fun t => decide (trmF t = 0)) && l.all fun t => givenF c s t (-1)) := by
    unfold holdsB
    induction l with
    | nil => rfl
    | cons t l ih => simp only [List.all_cons]; rw [ih (by simp at hl; omega) (trmsF_all l)]; ac_rfl
  refine pure_of_code (G := (G0)) vers0 mixed0 Try.func63 rfl (by decide) (by simp [Try.f63]) (by simp) fun ver => ?_
  simp only [Try.f63, G0]
  simp
  refine call_p (q_setFault a b k c hc hb s hs) (by simp) ?_
  by_cases h : setF c s = 0
  · simp [h]
    refine call_p (q_trms k' l hl) (by simp) ?_
    by_cases ht : trmsF l = 0
    · simp [ht]
      refine call_p (q_holds a b k k' c s h l hl) (by simp) ?_
      rw [ht] at e
      simp [holdsF, consF, h, e2, ← e]
    · have e3 : (l.all fun t => decide (trmF t = 0)) = false := by rw [← e]; simp [ht]
      simp only [holdsF, consF, e2, e3]
      simp [ht]
  · simp [h, holdsF, consF]

set_option maxHeartbeats 4000000 in
set_option maxRecDepth 10000 in
theorem l_holdsAll (l : List Pk) (hp : BigP l) (s : List Int) (hs : BigI s) (t : List Trm) (ht : BigT t) : Pure Try.prog 14 [pksAV true true l, intsAV true s, trmsAV true t] (.v (.bool true)) := by
  obtain ⟨h1, h2⟩ := hp.len
  have h3 : s.length ≤ 4611686018427387904 := by unfold BigI at hs; omega
  have h4 : t.length ≤ 4611686018427387904 := by unfold BigT at ht; omega
  refine pure_of_code (G := G0) vers0 mixed0 Try.func14 rfl (by decide) (by simp [Try.f14]) (by simp) fun ver => ?_
  simp only [Try.f14, G0]
  repeat' first
    | with_reducible refine And.intro ?_ ?_
    | with_reducible intro _
    | (first | with_reducible refine adraw_f 2 (by decide +kernel) ?_ | with_reducible refine adraw_f 3 (by decide +kernel) ?_ | with_reducible refine adraw_f 4 (by decide +kernel) ?_ | with_reducible refine adraw_f 5 (by decide +kernel) ?_ | with_reducible refine adraw_f 6 (by decide +kernel) ?_ | with_reducible refine adraw_f 7 (by decide +kernel) ?_ | with_reducible refine adraw_f 8 (by decide +kernel) ?_ | with_reducible refine adraw_f 9 (by decide +kernel) ?_ | with_reducible refine adraw_f 10 (by decide +kernel) ?_ | with_reducible refine adraw_f 11 (by decide +kernel) ?_ | with_reducible refine adraw_cut 0 (by decide +kernel) ?_ | with_reducible refine adraw_cut 1 (by decide +kernel) ?_ | with_reducible refine adraw_cut 2 (by decide +kernel) ?_ | with_reducible refine adraw_cut 3 (by decide +kernel) ?_ | with_reducible refine adraw_cut 4 (by decide +kernel) ?_ | with_reducible refine adraw_cut 5 (by decide +kernel) ?_ | with_reducible refine adraw_cut 6 (by decide +kernel) ?_ | with_reducible refine adraw_cut 7 (by decide +kernel) ?_ | with_reducible refine adraw_cut 8 (by decide +kernel) ?_ | with_reducible refine adraw_cut 9 (by decide +kernel) ?_ | with_reducible refine adraw_all (by kernel_rfl) ?_)
    | with_reducible refine call_p (z_pks true l hp _) (by simp) ?_
    | with_reducible refine call_f (z_pks true l hp _) (by simp) ?_
    | with_reducible refine call_p (z_trms true t ht _) (by simp) ?_
    | with_reducible refine call_f (z_trms true t ht _) (by simp) ?_
    | with_reducible refine call_p (t_pks true l hp) (by simp) ?_
    | with_reducible refine call_f (t_pks true l hp) (by simp) ?_
    | with_reducible refine call_p (t_trms true t ht) (by simp) ?_
    | with_reducible refine call_f (t_trms true t ht) (by simp) ?_
    | with_reducible refine call_p (t_ints true s hs) (by simp) ?_
    | with_reducible refine call_f (t_ints true s hs) (by simp) ?_
    | with_reducible refine call_p (p_holdsAll false false false false l h1 h2 s h3 t h4) (by simp) ?_
    | with_reducible refine call_f (p_holdsAll false false false false l h1 h2 s h3 t h4) (by simp) ?_
    | with_reducible refine call_p (q_holdsAll false false false false l h1 h2 s h3 t h4) (by simp) ?_
    | with_reducible refine call_f (q_holdsAll false false false false l h1 h2 s h3 t h4) (by simp) ?_
    | with_reducible refine call_p (e_pks false false l h1 h2) (by simp) ?_
    | with_reducible refine call_f (e_pks false false l h1 h2) (by simp) ?_
    | with_reducible refine call_p (e_ints false false s h3) (by simp) ?_
    | with_reducible refine call_f (e_ints false false s h3) (by simp) ?_
    | with_reducible refine call_p (e_trms false false t h4) (by simp) ?_
    | with_reducible refine call_f (e_trms false false t h4) (by simp) ?_
    | simp (config := { contextual := true, maxSteps := 4000000 }) [*, -Int.not_le, -Int.not_lt]

end Go.Proofs.Ytbmfoijakgccgaa.Am
