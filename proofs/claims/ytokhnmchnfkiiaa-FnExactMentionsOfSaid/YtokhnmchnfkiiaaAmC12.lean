/- What a set gives. No conditions. -/
import Derived.Test.YtokhnmchnfkiiaaAmC11
namespace Go.Proofs.Ytokhnmchnfkiiaa.Am
open Go Go.RowKit Go.Proofs
set_option linter.unusedSimpArgs false
set_option linter.unusedVariables false

/-- One of a set, but one, gives a term. -/
def givenF (c : List Pk) (s : List Int) (t : Trm) (m : Int) : Bool := s.any fun k => decide (¬ k = m) && givesF (pkAt c k) t
def metF (c : List Pk) (s : List Int) (l : List Trm) : Bool := l.any fun t => givenF c s t (-1)
@[reducible] def CatOk (c : List Pk) : Prop := ∀ p ∈ c, p.Ok

theorem p_given (a b k : Bool) (c : List Pk) (hb : CatOk c) (s : List Int) (hs : s.length ≤ 4611686018427387904) (hp : Places c.length s) (t : Trm) (m : Int) : Pure Try.prog 135 [pksAV a b c, intsAV k s, t.av, .v (.int .i64 m)] (.v (.bool (givenF c s t m))) := by
  refine pure_of_code (G := (G0)) vers0 mixed0 Try.func135 rfl (by decide) (by simp [Try.f135]) (by simp) fun ver => ?_
  simp only [Try.f135, G0]
  simp
  refine aloop (α := Nat) (fun i => ⟨envOf [(0, pksAV a b c), (1, intsAV k s), (3, .v (.int .i64 m)), (6, .box 0 0), (9, .v (.int .i64 i))], ⟨[t.cells], noArrs ver⟩⟩)
    (fun i => i ≤ s.length ∧ givenF c (s.drop i) t m = givenF c s t m) (fun i => s.length - i) 0 (less_envOf (by simp) rfl fun _ => rfl) (by simp) ?_
  rintro i ⟨hk, hm⟩
  by_cases hlt : i < s.length
  · have hw := wrapS hlt hs
    rw [drop_get hlt, givenF, List.any_cons] at hm
    obtain ⟨q1, q2⟩ := hp _ (List.getElem_mem hlt)
    have hg := pkAt_get q2
    have hok := hb _ (pkAt_mem q2)
    simp [hlt]
    refine adraw_all (by kernel_rfl) ?_
    by_cases h : s[i] = m
    · simp [hlt, h]
      exact ⟨i + 1, less_envOf (by simp [hw]) rfl fun _ => rfl, ⟨by omega, by simpa [h, givenF] using hm⟩, by omega⟩
    · simp [hlt, h, q1, hg]
      refine call_p (p_gives b (pkAt c s[i]) (by have := hok.1; omega) t) (by simp) ?_
      cases h2 : givesF (pkAt c s[i]) t with
      | true =>
        simp
        simpa [h, h2] using hm
      | false =>
        simp
        exact ⟨i + 1, less_envOf (by simp [hw]) rfl fun _ => rfl, ⟨by omega, by simpa [h, h2, givenF] using hm⟩, by omega⟩
  · rw [List.drop_eq_nil_of_le (by omega)] at hm
    simp [hlt]
    simpa [givenF] using hm

theorem p_met (a b k k' : Bool) (c : List Pk) (hb : CatOk c) (s : List Int) (hs : s.length ≤ 4611686018427387904) (hp : Places c.length s) (l : List Trm) (hl : l.length ≤ 4611686018427387904) : Pure Try.prog 116 [pksAV a b c, intsAV k s, trmsAV k' l] (.v (.bool (metF c s l))) := by
  refine pure_of_code (G := (G0)) vers0 mixed0 Try.func116 rfl (by decide) (by simp [Try.f116]) (by simp) fun ver => ?_
  simp only [Try.f116, G0]
  simp
  refine aloop (α := Nat) (fun i => ⟨envOf [(0, pksAV a b c), (1, intsAV k s), (2, trmsAV k' l), (7, .v (.int .i64 i))], ⟨[], noArrs ver⟩⟩)
    (fun i => i ≤ l.length ∧ metF c s (l.drop i) = metF c s l) (fun i => l.length - i) 0 (less_envOf (by simp) rfl fun _ => rfl) (by simp) ?_
  rintro i ⟨hk, hm⟩
  by_cases hlt : i < l.length
  · have hw := wrapS hlt hl
    rw [drop_get hlt, metF, List.any_cons] at hm
    simp [hlt]
    refine call_p (p_given a b k c hb s hs hp l[i] (-1)) (by simp) ?_
    cases h2 : givenF c s l[i] (-1) with
    | true =>
      simp
      simpa [h2] using hm
    | false =>
      simp
      exact ⟨i + 1, less_envOf (by simp [hw]) rfl fun _ => rfl, ⟨by omega, by simpa [h2, metF] using hm⟩, by omega⟩
  · rw [List.drop_eq_nil_of_le (by omega)] at hm
    simp [hlt]
    simpa [metF] using hm

/-- The other way round: some package of the set gives one of the terms. -/
theorem met_any (c : List Pk) (s : List Int) (hp : ∀ k ∈ s, 0 ≤ k) (l : List Trm) : (s.any fun k => l.any (givesF (pkAt c k))) = metF c s l := by
  rw [Bool.eq_iff_iff]
  simp only [metF, givenF, List.any_eq_true, Bool.and_eq_true, decide_eq_true_eq]
  constructor
  · rintro ⟨k, hk, t, ht, h⟩
    exact ⟨t, ht, k, hk, by have := hp k hk; omega, h⟩
  · rintro ⟨t, ht, k, hk, _, h⟩
    exact ⟨k, hk, t, ht, h⟩

/-- Cells that are the same when they are handed on. -/
def StabC (c : AV) : Prop := ∀ m, lend1 m c = c
theorem stab_of {bs : List (List AV)} (h : ∀ b ∈ bs, ∀ c ∈ b, StabC c) : Stab bs := by
  intro a
  unfold lentBoxes
  conv => rhs; rw [← List.map_id bs]
  refine List.map_congr_left fun b hb => ?_
  conv => rhs; rw [id, ← List.map_id b]
  exact List.map_congr_left fun c hc => h b hb c hc _
theorem stabC_v (x : Value) : StabC (.v x) := fun _ => rfl
theorem stabC_sl (k : Bool) (es : List (List AV)) : StabC (.sl k es) := fun _ => rfl

end Go.Proofs.Ytokhnmchnfkiiaa.Am
