/- The law about the newest package of a term: what is to be shown of the row's function. No conditions. -/
import Derived.Test.YtbmfoijakgccgaaAmL3
namespace Go.Proofs.Ytbmfoijakgccgaa.Am
open Go Go.RowKit Go.Proofs
set_option linter.unusedSimpArgs false
set_option linter.unusedVariables false

def newC (c : List Pk) (t : Trm) (p : Pk) (m : Int) : Bool := decide (p.n = t.n) && (givesF p t && (decide (m < 0) || decide (0 < cmpF p.v.a p.v.b p.v.c (pkAt c m).v.a (pkAt c m).v.b (pkAt c m).v.c)))
def newR (c : List Pk) (t : Trm) : List Pk → Nat → Int → Int
  | [], _, m => m
  | p :: l, i, m => newR c t l (i + 1) (if newC c t p m = true then (i : Int) else m)
noncomputable def newA (c : List Pk) (t : Trm) : Int × Int := if ¬ catF c = 0 then (catF c, 0) else if ¬ trmF t = 0 then (trmF t, 0) else if newR c t c 0 (-1) < 0 then (4, 0) else (0, newR c t c 0 (-1))

set_option maxHeartbeats 4000000 in
set_option maxRecDepth 10000 in
theorem p_newest (a b : Bool) (c : List Pk) (hc : c.length ≤ 4611686018427387904) (hb : ∀ p ∈ c, p.Len) (t : Trm) : Pure Try.prog 32 [pksAV a b c, t.av] (intRes (newA c t).1 (newA c t).2) := by
  by_cases h1 : catF c = 0
  · by_cases h2 : trmF t = 0
    · have e : newA c t = if newR c t c 0 (-1) < 0 then (4, 0) else (0, newR c t c 0 (-1)) := by simp [newA, h1, h2]
      rw [e]
      refine pure_of_code (G := (G0)) vers0 mixed0 Try.func32 rfl (by decide) (by simp [Try.f32]) (by simp) fun ver => ?_
      simp only [Try.f32, G0]
      simp
      refine call_p (p_cat a b c hc hb) (by simp) ?_
      simp [h1]
      refine call_p (p_trm t) (by simp) ?_
      simp [h2]
      refine aloop (α := Nat × Int) (fun d => ⟨envOf [(0, pksAV a b c), (3, .box 0 0), (4, .box 1 0), (7, .v (.int .i64 d.2)), (8, .v (.int .i64 d.1))], ⟨[t.cells, [.v (.int .i64 0), .v (.int .i64 0)]], noArrs ver⟩⟩)
        (fun d => d.1 ≤ c.length ∧ (0 ≤ d.2 → d.2.toNat < c.length) ∧ newR c t (c.drop d.1) d.1 d.2 = newR c t c 0 (-1)) (fun d => c.length - d.1) (0, -1) (less_envOf (by simp) rfl fun _ => rfl) (by simp) ?_
      rintro ⟨i, m⟩ ⟨hk, hi, hm⟩
      simp only at hk hi hm ⊢
      by_cases hlt : i < c.length
      · have hw := wrapS hlt hc
        rw [drop_get hlt, newR] at hm
        have hmem : c[i] ∈ c := List.getElem_mem hlt
        simp [hlt]
        refine adraw_all (by kernel_rfl) ?_
        simp [hlt]
        by_cases hn : c[i].n = t.n
        · have hn2 : (c[i].n = t.n) = True := eq_true hn
          simp (config := { maxSteps := 4000000 }) [hn2, hlt]
          refine call_p (p_gives b c[i] (hb _ hmem).1 t) (by simp) ?_
          cases hg : givesF c[i] t with
          | false =>
            have hcn : newC c t c[i] m = false := by simp [newC, hg]
            rw [hcn] at hm
            simp
            exact ⟨i + 1, m, less_envOf (by simp [hw]) rfl fun _ => rfl, ⟨by omega, hi, by simpa using hm⟩, by omega⟩
          | true =>
            by_cases hm0 : m < 0
            · have hcn : newC c t c[i] m = true := by simp [newC, hn, hg, hm0]
              rw [hcn] at hm
              simp [hm0]
              exact ⟨i + 1, i, less_envOf (by simp [hw]) rfl fun _ => rfl, ⟨by omega, fun _ => by omega, by simpa using hm⟩, by omega⟩
            · have hmi := hi (by omega)
              have hgm := pkAt_get hmi
              simp [hm0, hlt, show (0 : Int) ≤ m by omega, hgm]
              refine call_p (p_compareVersions _ _ _ _ _ _) (by simp) ?_
              by_cases h4 : 0 < cmpF c[i].v.a c[i].v.b c[i].v.c (pkAt c m).v.a (pkAt c m).v.b (pkAt c m).v.c
              · have hcn : newC c t c[i] m = true := by simp [newC, hn, hg, h4]
                rw [hcn] at hm
                simp [h4]
                exact ⟨i + 1, i, less_envOf (by simp [hw]) rfl fun _ => rfl, ⟨by omega, fun _ => by omega, by simpa using hm⟩, by omega⟩
              · have hcn : newC c t c[i] m = false := by simp [newC, hm0, h4]
                rw [hcn] at hm
                simp [h4]
                exact ⟨i + 1, m, less_envOf (by simp [hw]) rfl fun _ => rfl, ⟨by omega, hi, by simpa using hm⟩, by omega⟩
        · have hcn : newC c t c[i] m = false := by simp [newC, hn]
          rw [hcn] at hm
          simp (config := { maxSteps := 4000000 }) [hn]
          exact ⟨i + 1, m, less_envOf (by simp [hw]) rfl fun _ => rfl, ⟨by omega, hi, by simpa using hm⟩, by omega⟩
      · rw [List.drop_eq_nil_of_le (by omega), newR] at hm
        rw [← hm]
        by_cases hm0 : m < 0 <;> simp [hlt, hm0]
    · have e : newA c t = (trmF t, 0) := by simp [newA, h1, h2]
      rw [e]
      refine pure_of_code (G := (G0)) vers0 mixed0 Try.func32 rfl (by decide) (by simp [Try.f32]) (by simp) fun ver => ?_
      simp only [Try.f32, G0]
      simp
      refine call_p (p_cat a b c hc hb) (by simp) ?_
      simp [h1]
      refine call_p (p_trm t) (by simp) ?_
      simp [h2]
  · have e : newA c t = (catF c, 0) := by simp [newA, h1]
    rw [e]
    refine pure_of_code (G := (G0)) vers0 mixed0 Try.func32 rfl (by decide) (by simp [Try.f32]) (by simp) fun ver => ?_
    simp only [Try.f32, G0]
    simp
    refine call_p (p_cat a b c hc hb) (by simp) ?_
    simp [h1]

set_option maxHeartbeats 4000000 in
set_option maxRecDepth 10000 in
theorem q_newest (a b : Bool) (c : List Pk) (hc : c.length ≤ 4611686018427387904) (hb : ∀ p ∈ c, p.Len) (t : Trm) : Pure Try.prog 31 [pksAV a b c, t.av] (intRes (newA c t).1 (newA c t).2) := by
  by_cases h1 : catF c = 0
  · by_cases h2 : trmF t = 0
    · have e : newA c t = if newR c t c 0 (-1) < 0 then (4, 0) else (0, newR c t c 0 (-1)) := by simp [newA, h1, h2]
      rw [e]
      refine pure_of_code (G := (G0)) vers0 mixed0 Try.func31 rfl (by decide) (by simp [Try.f31]) (by simp) fun ver => ?_
      simp only [Try.f31, G0]
      simp
      refine adraw_all (by kernel_rfl) ?_
      simp
      refine call_p (q_cat a b c hc hb) (by simp) ?_
      simp
      refine call_p (q_trm t) (by simp) ?_
      simp [h1, h2, sealRows, sealCells, List.range_succ]
      refine call_p (q_first false [0, 0] (by simp)) (by simp) ?_
      simp [orF]
      refine aloop (α := Nat × Int × List (List AV)) (fun d => ⟨envOf [(0, pksAV a b c), (3, .box 0 0), (4, .box 1 0), (6, .v (.int .i64 d.2.1)), (19, pksAV a b c), (20, .v (.int .i64 c.length)), (21, .v (.int .i64 d.1))], ⟨t.cells :: [.v (.int .i64 0), .v (.int .i64 0)] :: d.2.2, noArrs ver⟩⟩)
        (fun d => d.1 ≤ c.length ∧ (0 ≤ d.2.1 → d.2.1.toNat < c.length) ∧ newR c t (c.drop d.1) d.1 d.2.1 = newR c t c 0 (-1)) (fun d => c.length - d.1) (0, -1, []) (less_envOf (by simp) rfl fun _ => rfl) (by simp) ?_
      rintro ⟨i, m, bs⟩ ⟨hk, hi, hm⟩
      simp only at hk hi hm ⊢
      by_cases hlt : i < c.length
      · have hw := wrapS hlt hc
        rw [drop_get hlt, newR] at hm
        have hmem : c[i] ∈ c := List.getElem_mem hlt
        have hok := packF_ok ((catF_ok h1).2 _ hmem)
        simp [hlt]
        refine adraw_all (by kernel_rfl) ?_
        simp [hlt]
        by_cases hn : c[i].n = t.n
        · have hn2 : (c[i].n = t.n) = True := eq_true hn
          simp (config := { maxSteps := 4000000 }) [hn2, hlt]
          refine call_p (q_gives b c[i] (by have := hok.1; omega) t) (by simp) ?_
          cases hg : givesF c[i] t with
          | false =>
            have hcn : newC c t c[i] m = false := by simp [newC, hg]
            rw [hcn] at hm
            simp
            exact ⟨i + 1, m, ⟨_, less_envOf (by simp [hw]) rfl fun _ => rfl⟩, ⟨by omega, hi, by simpa using hm⟩, by omega⟩
          | true =>
            by_cases hm0 : m < 0
            · have hcn : newC c t c[i] m = true := by simp [newC, hn, hg, hm0]
              rw [hcn] at hm
              simp [hm0]
              exact ⟨i + 1, i, ⟨_, less_envOf (by simp [hw]) rfl fun _ => rfl⟩, ⟨by omega, fun _ => by omega, by simpa using hm⟩, by omega⟩
            · have hmi := hi (by omega)
              have hgm := pkAt_get hmi
              simp [hm0, hlt, show (0 : Int) ≤ m by omega, hgm]
              refine call_p (p_compare _ _ _ _ _ _) (by simp) ?_
              by_cases h4 : 0 < cmpF c[i].v.a c[i].v.b c[i].v.c (pkAt c m).v.a (pkAt c m).v.b (pkAt c m).v.c
              · have hcn : newC c t c[i] m = true := by simp [newC, hn, hg, h4]
                rw [hcn] at hm
                simp [h4]
                exact ⟨i + 1, i, ⟨_, less_envOf (by simp [hw]) rfl fun _ => rfl⟩, ⟨by omega, fun _ => by omega, by simpa using hm⟩, by omega⟩
              · have hcn : newC c t c[i] m = false := by simp [newC, hm0, h4]
                rw [hcn] at hm
                simp [h4]
                exact ⟨i + 1, m, ⟨_, less_envOf (by simp [hw]) rfl fun _ => rfl⟩, ⟨by omega, hi, by simpa using hm⟩, by omega⟩
        · have hcn : newC c t c[i] m = false := by simp [newC, hn]
          rw [hcn] at hm
          simp (config := { maxSteps := 4000000 }) [hn]
          exact ⟨i + 1, m, ⟨_, less_envOf (by simp [hw]) rfl fun _ => rfl⟩, ⟨by omega, hi, by simpa using hm⟩, by omega⟩
      · rw [List.drop_eq_nil_of_le (by omega), newR] at hm
        rw [← hm]
        by_cases hm0 : m < 0 <;> simp [hlt, hm0]
    · have e : newA c t = (trmF t, 0) := by simp [newA, h1, h2]
      rw [e]
      refine pure_of_code (G := (G0)) vers0 mixed0 Try.func31 rfl (by decide) (by simp [Try.f31]) (by simp) fun ver => ?_
      simp only [Try.f31, G0]
      simp
      refine adraw_all (by kernel_rfl) ?_
      simp
      refine call_p (q_cat a b c hc hb) (by simp) ?_
      simp
      refine call_p (q_trm t) (by simp) ?_
      simp [sealRows, sealCells, List.range_succ]
      refine call_p (q_first false [catF c, trmF t] (by simp)) (by simp) ?_
      simp [h1, h2, orF_two]
  · have e : newA c t = (catF c, 0) := by simp [newA, h1]
    rw [e]
    refine pure_of_code (G := (G0)) vers0 mixed0 Try.func31 rfl (by decide) (by simp [Try.f31]) (by simp) fun ver => ?_
    simp only [Try.f31, G0]
    simp
    refine adraw_all (by kernel_rfl) ?_
    simp
    refine call_p (q_cat a b c hc hb) (by simp) ?_
    simp
    refine call_p (q_trm t) (by simp) ?_
    simp [sealRows, sealCells, List.range_succ]
    refine call_p (q_first false [catF c, trmF t] (by simp)) (by simp) ?_
    simp [h1, orF_two]

set_option maxHeartbeats 4000000 in
set_option maxRecDepth 10000 in
theorem l_newest (l : List Pk) (hp : BigP l) (t : Trm) : Pure Try.prog 9 [pksAV true true l, t.av] (.v (.bool true)) := by
  obtain ⟨h1, h2⟩ := hp.len
  refine pure_of_code (G := G0) vers0 mixed0 Try.func9 rfl (by decide) (by simp [Try.f9]) (by simp) fun ver => ?_
  simp only [Try.f9, G0]
  repeat' first
    | with_reducible refine And.intro ?_ ?_
    | with_reducible intro _
    | (first | with_reducible refine adraw_f 2 (by decide +kernel) ?_ | with_reducible refine adraw_f 3 (by decide +kernel) ?_ | with_reducible refine adraw_f 4 (by decide +kernel) ?_ | with_reducible refine adraw_f 5 (by decide +kernel) ?_ | with_reducible refine adraw_f 6 (by decide +kernel) ?_ | with_reducible refine adraw_f 7 (by decide +kernel) ?_ | with_reducible refine adraw_f 8 (by decide +kernel) ?_ | with_reducible refine adraw_f 9 (by decide +kernel) ?_ | with_reducible refine adraw_f 10 (by decide +kernel) ?_ | with_reducible refine adraw_f 11 (by decide +kernel) ?_ | with_reducible refine adraw_cut 0 (by decide +kernel) ?_ | with_reducible refine adraw_cut 1 (by decide +kernel) ?_ | with_reducible refine adraw_cut 2 (by decide +kernel) ?_ | with_reducible refine adraw_cut 3 (by decide +kernel) ?_ | with_reducible refine adraw_cut 4 (by decide +kernel) ?_ | with_reducible refine adraw_cut 5 (by decide +kernel) ?_ | with_reducible refine adraw_cut 6 (by decide +kernel) ?_ | with_reducible refine adraw_cut 7 (by decide +kernel) ?_ | with_reducible refine adraw_cut 8 (by decide +kernel) ?_ | with_reducible refine adraw_cut 9 (by decide +kernel) ?_ | with_reducible refine adraw_all (by kernel_rfl) ?_)
    | with_reducible refine call_p (z_pks true l hp _) (by simp) ?_
    | with_reducible refine call_f (z_pks true l hp _) (by simp) ?_
    | with_reducible refine call_p (z_term t _) (by simp) ?_
    | with_reducible refine call_f (z_term t _) (by simp) ?_
    | with_reducible refine call_p (t_pks true l hp) (by simp) ?_
    | with_reducible refine call_f (t_pks true l hp) (by simp) ?_
    | with_reducible refine call_p (t_term t) (by simp) ?_
    | with_reducible refine call_f (t_term t) (by simp) ?_
    | with_reducible refine call_p (p_newest false false l h1 h2 t) (by simp) ?_
    | with_reducible refine call_f (p_newest false false l h1 h2 t) (by simp) ?_
    | with_reducible refine call_p (q_newest false false l h1 h2 t) (by simp) ?_
    | with_reducible refine call_f (q_newest false false l h1 h2 t) (by simp) ?_
    | with_reducible refine call_p (e_intRes _ _) (by simp) ?_
    | with_reducible refine call_f (e_intRes _ _) (by simp) ?_
    | with_reducible refine call_p (e_pks false false l h1 h2) (by simp) ?_
    | with_reducible refine call_f (e_pks false false l h1 h2) (by simp) ?_
    | simp (config := { contextual := true, maxSteps := 4000000 }) [*, -Int.not_le, -Int.not_lt]

end Go.Proofs.Ytbmfoijakgccgaa.Am
