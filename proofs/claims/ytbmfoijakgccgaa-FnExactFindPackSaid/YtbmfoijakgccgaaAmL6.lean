/- The law about finding packages: what is to be shown of the row's function. No conditions. -/
import Derived.Test.YtbmfoijakgccgaaAmL3
namespace Go.Proofs.Ytbmfoijakgccgaa.Am
open Go Go.RowKit Go.Proofs
set_option linter.unusedSimpArgs false
set_option linter.unusedVariables false

def findPackF (l : List Pk) (n : ByteArray) (v : Ver) : AV := if catF l ≠ 0 then intRes (catF l) 0 else if idxQ (isPk n v) l 0 < 0 then intRes 4 0 else intRes 0 (idxQ (isPk n v) l 0)

theorem idx_in {α : Type} (q : α → Bool) : ∀ (l : List α) (k : Int), 0 ≤ k → k + l.length ≤ 4611686018427387904 → -1 ≤ idxQ q l k ∧ idxQ q l k < k + l.length + 1
  | [], k, h, _ => by simp [idxQ]; omega
  | a :: l, k, h, hb => by
    unfold idxQ
    simp only [List.length_cons] at hb ⊢
    split
    · omega
    · have := idx_in q l (k + 1) (by omega) (by omega)
      omega

theorem p_findPack (c d : Bool) (l : List Pk) (hl : l.length ≤ 4611686018427387904) (hb : ∀ p ∈ l, p.Len) (n : ByteArray) (v : Ver) : ∃ k m, findPackF l n v = intRes k m ∧ Pure Try.prog 41 [pksAV c d l, .v (.string n), v.av] (findPackF l n v) ∧ Pure Try.prog 35 [pksAV c d l, .v (.string n), v.av] (findPackF l n v) := by
  have hi := idx_in (isPk n v) l 0 (Int.le_refl _) (by omega)
  have hw : IntKind.i64.wrap (idxQ (isPk n v) l 0) = idxQ (isPk n v) l 0 := IntWalk.i64_in _ (by omega)
  by_cases h1 : catF l = 0
  · have e : findPackF l n v = if idxQ (isPk n v) l 0 < 0 then intRes 4 0 else intRes 0 (idxQ (isPk n v) l 0) := by rw [findPackF, if_neg (by simp [h1])]
    rw [e]
    by_cases h2 : idxQ (isPk n v) l 0 < 0
    · rw [if_pos h2]
      refine ⟨_, _, rfl, ?_, ?_⟩
      · refine pure_of_code (G := (G0)) vers0 mixed0 Try.func41 rfl (by decide) (by simp [Try.f41]) (by simp) fun ver => ?_
        simp only [Try.f41, G0]
        simp
        refine call_p (p_cat c d l hl hb) (by simp) ?_
        simp [h1]
        refine call_p (p_find c d l hl n v) (by simp) ?_
        simp [h2]
      · refine pure_of_code (G := (G0)) vers0 mixed0 Try.func35 rfl (by decide) (by simp [Try.f35]) (by simp) fun ver => ?_
        simp only [Try.f35, G0]
        simp
        refine call_p (q_cat c d l hl hb) (by simp) ?_
        simp [h1]
        refine call_p (q_find c d l hl n v) (by simp) ?_
        simp [h2]
    · rw [if_neg h2]
      refine ⟨_, _, rfl, ?_, ?_⟩
      · refine pure_of_code (G := (G0)) vers0 mixed0 Try.func41 rfl (by decide) (by simp [Try.f41]) (by simp) fun ver => ?_
        simp only [Try.f41, G0]
        simp
        refine call_p (p_cat c d l hl hb) (by simp) ?_
        simp [h1]
        refine call_p (p_find c d l hl n v) (by simp) ?_
        simp [h2, hw]
      · refine pure_of_code (G := (G0)) vers0 mixed0 Try.func35 rfl (by decide) (by simp [Try.f35]) (by simp) fun ver => ?_
        simp only [Try.f35, G0]
        simp
        refine call_p (q_cat c d l hl hb) (by simp) ?_
        simp [h1]
        refine call_p (q_find c d l hl n v) (by simp) ?_
        simp [h2, hw]
  · have e : findPackF l n v = intRes (catF l) 0 := by rw [findPackF, if_pos h1]
    rw [e]
    refine ⟨_, _, rfl, ?_, ?_⟩
    · refine pure_of_code (G := (G0)) vers0 mixed0 Try.func41 rfl (by decide) (by simp [Try.f41]) (by simp) fun ver => ?_
      simp only [Try.f41, G0]
      simp
      refine call_p (p_cat c d l hl hb) (by simp) ?_
      simp [h1]
    · refine pure_of_code (G := (G0)) vers0 mixed0 Try.func35 rfl (by decide) (by simp [Try.f35]) (by simp) fun ver => ?_
      simp only [Try.f35, G0]
      simp
      refine call_p (q_cat c d l hl hb) (by simp) ?_
      simp [h1]

set_option maxHeartbeats 4000000 in
set_option maxRecDepth 10000 in
theorem l_findPack (l : List Pk) (hp : BigP l) (n : ByteArray) (v : Ver) : Pure Try.prog 7 [pksAV true true l, .v (.string n), v.av] (.v (.bool true)) := by
  obtain ⟨h1, h2⟩ := hp.len
  obtain ⟨k, m, he, hP, hQ⟩ := p_findPack false false l h1 h2 n v
  rw [he] at hP hQ
  refine pure_of_code (G := G0) vers0 mixed0 Try.func7 rfl (by decide) (by simp [Try.f7]) (by simp) fun ver => ?_
  simp only [Try.f7, G0]
  repeat' first
    | with_reducible refine And.intro ?_ ?_
    | with_reducible intro _
    | (first | with_reducible refine adraw_f 2 (by decide +kernel) ?_ | with_reducible refine adraw_f 3 (by decide +kernel) ?_ | with_reducible refine adraw_f 4 (by decide +kernel) ?_ | with_reducible refine adraw_f 5 (by decide +kernel) ?_ | with_reducible refine adraw_f 6 (by decide +kernel) ?_ | with_reducible refine adraw_f 7 (by decide +kernel) ?_ | with_reducible refine adraw_f 8 (by decide +kernel) ?_ | with_reducible refine adraw_f 9 (by decide +kernel) ?_ | with_reducible refine adraw_f 10 (by decide +kernel) ?_ | with_reducible refine adraw_f 11 (by decide +kernel) ?_ | with_reducible refine adraw_cut 0 (by decide +kernel) ?_ | with_reducible refine adraw_cut 1 (by decide +kernel) ?_ | with_reducible refine adraw_cut 2 (by decide +kernel) ?_ | with_reducible refine adraw_cut 3 (by decide +kernel) ?_ | with_reducible refine adraw_cut 4 (by decide +kernel) ?_ | with_reducible refine adraw_cut 5 (by decide +kernel) ?_ | with_reducible refine adraw_cut 6 (by decide +kernel) ?_ | with_reducible refine adraw_cut 7 (by decide +kernel) ?_ | with_reducible refine adraw_cut 8 (by decide +kernel) ?_ | with_reducible refine adraw_cut 9 (by decide +kernel) ?_ | with_reducible refine adraw_all (by kernel_rfl) ?_)
    | with_reducible refine call_p (z_pks true l hp _) (by simp) ?_
    | with_reducible refine call_f (z_pks true l hp _) (by simp) ?_
    | with_reducible refine call_p (t_pks true l hp) (by simp) ?_
    | with_reducible refine call_f (t_pks true l hp) (by simp) ?_
    | with_reducible refine call_p (p_toVersion _ _ _) (by simp) ?_
    | with_reducible refine call_f (p_toVersion _ _ _) (by simp) ?_
    | with_reducible refine call_p (hP) (by simp) ?_
    | with_reducible refine call_f (hP) (by simp) ?_
    | with_reducible refine call_p (hQ) (by simp) ?_
    | with_reducible refine call_f (hQ) (by simp) ?_
    | with_reducible refine call_p (e_intRes k m) (by simp) ?_
    | with_reducible refine call_f (e_intRes k m) (by simp) ?_
    | with_reducible refine call_p (e_pks false false l h1 h2) (by simp) ?_
    | with_reducible refine call_f (e_pks false false l h1 h2) (by simp) ?_
    | simp (config := { contextual := true, maxSteps := 4000000 }) [*, -Int.not_le, -Int.not_lt]

end Go.Proofs.Ytbmfoijakgccgaa.Am
