/- What is unmet, as the reference and the program find it. No conditions. -/
import Derived.Test.YtokhnmchnfkiiaaAmC23
namespace Go.Proofs.Ytokhnmchnfkiiaa.Am
open Go Go.RowKit Go.Proofs
set_option linter.unusedSimpArgs false
set_option linter.unusedVariables false

def clsOf (c : List Pk) (l : List Trm) (s : List Int) : List (List Trm) := l.map (fun t => [t]) ++ s.flatMap fun k => (pkAt c k).ne
def unmL (c : List Pk) (l : List Trm) (s : List Int) : List Trm := ((clsOf c l s).find? fun q => !metF c s q).getD []
theorem find_cons {α : Type} (P : α → Bool) (a : α) (l : List α) : (a :: l).find? P = if P a = true then some a else l.find? P := by
  rw [List.find?_cons]
  cases P a <;> rfl

set_option maxHeartbeats 4000000 in
set_option maxRecDepth 10000 in
theorem p_l4unmet (c : List Pk) (hb : CatOk c) (l : List Trm) (hl : l.length ≤ 4611686018427387904) (s : List Int) (hs : s.length ≤ 4611686018427387904) (hp : Places c.length s) : Pure Try.prog 75 [pksAV false false c, trmsAV false l, intsAV false s] (trmsAV false (unmL c l s)) := by
  obtain ⟨U, hU⟩ : ∃ U, U = unmL c l s := ⟨_, rfl⟩
  rw [← hU]
  refine pure_of_code (G := (G0)) vers0 mixed0 Try.func75 rfl (by decide) (by simp [Try.f75]) (by simp) fun ver => ?_
  simp only [Try.f75, G0]
  simp
  refine aloop (α := Nat) (fun i => ⟨envOf [(0, pksAV false false c), (1, trmsAV false l), (2, intsAV false s), (7, .v (.int .i64 i))], ⟨[], noArrs ver⟩⟩)
    (fun i => i ≤ l.length ∧ U = ((((l.drop i).map fun t => [t]) ++ s.flatMap fun k => (pkAt c k).ne).find? fun q => !metF c s q).getD []) (fun i => l.length - i) 0 (less_envOf (by simp) rfl fun _ => rfl) ⟨by simp, by simpa [clsOf, unmL] using hU⟩ ?_
  rintro i ⟨hk, hm⟩
  by_cases hlt : i < l.length
  · have hw := wrapS hlt hl
    rw [drop_get hlt, List.map_cons, List.cons_append, find_cons] at hm
    have hsl : List.take 1 (List.drop i (List.map Trm.cells l)) = [l[i].cells] := by
      rw [← List.map_drop, drop_get hlt]
      rfl
    simp [hlt, hw, hsl, show (0 : Int) ≤ (i : Int) + 1 by omega, show (i : Int) + 1 ≤ l.length by omega]
    refine call_p (p_met false false false false c hb s hs hp [l[i]] (by simp)) (by simp) ?_
    cases h2 : metF c s [l[i]] with
    | true =>
      simp
      exact ⟨i + 1, less_envOf (by simp [hw]) rfl fun _ => rfl, ⟨by omega, by simpa [h2] using hm⟩, by omega⟩
    | false =>
      have hU2 : U = [l[i]] := by simpa [h2] using hm
      simp [hlt, hw, hsl, show (0 : Int) ≤ (i : Int) + 1 by omega, show (i : Int) + 1 ≤ l.length by omega, hU2]
  · rw [List.drop_eq_nil_of_le (by omega), List.map_nil, List.nil_append] at hm
    simp [hlt]
    refine aloop (α := Nat × List (List AV)) (fun d => ⟨envOf [(0, pksAV false false c), (2, intsAV false s), (8, .v (.int .i64 d.1))], ⟨d.2, noArrs ver⟩⟩)
      (fun d => d.1 ≤ s.length ∧ U = (((s.drop d.1).flatMap fun k => (pkAt c k).ne).find? fun q => !metF c s q).getD []) (fun d => s.length - d.1) (0, []) (less_envOf (by simp) rfl fun _ => rfl) ⟨by simp, by simpa using hm⟩ ?_
    rintro ⟨j, B⟩ ⟨hk2, hm2⟩
    simp only at hk2 hm2 ⊢
    by_cases hjl : j < s.length
    · have hw2 := wrapS hjl hs
      obtain ⟨q1, q2⟩ := hp _ (List.getElem_mem hjl)
      have hg := pkAt_get q2
      have hok := hb _ (pkAt_mem q2)
      rw [drop_get hjl, List.flatMap_cons] at hm2
      simp [hjl, q1, hg]
      refine aloop (α := Nat) (fun m => ⟨envOf [(0, pksAV false false c), (2, intsAV false s), (8, .v (.int .i64 j)), (9, .box B.length 0), (10, .v (.int .i64 m))], ⟨B ++ [(pkAt c s[j]).cells false], noArrs ver⟩⟩)
        (fun m => m ≤ (pkAt c s[j]).ne.length ∧ U = ((((pkAt c s[j]).ne.drop m) ++ (s.drop (j + 1)).flatMap fun k => (pkAt c k).ne).find? fun q => !metF c s q).getD []) (fun m => (pkAt c s[j]).ne.length - m) 0 (less_envOf (by simp) rfl fun _ => rfl) ⟨by simp, by simpa using hm2⟩ ?_
      rintro m ⟨hk3, hm3⟩
      by_cases hml : m < (pkAt c s[j]).ne.length
      · have hw3 := wrapS hml (by have := hok.2.1; omega)
        have hq := hok.2.2.2 _ (List.getElem_mem hml)
        rw [drop_get hml, List.cons_append, find_cons] at hm3
        simp [hml]
        refine call_p (p_met false false false false c hb s hs hp (pkAt c s[j]).ne[m] (by omega)) (by simp) ?_
        cases h2 : metF c s (pkAt c s[j]).ne[m] with
        | true =>
          simp
          exact ⟨m + 1, less_envOf (by simp [hw3]) rfl fun _ => rfl, ⟨by omega, by simpa [h2] using hm3⟩, by omega⟩
        | false =>
          simp [hml]
          exact congrArg (List.map Trm.cells) (by simpa [h2] using hm3.symm)
      · rw [List.drop_eq_nil_of_le (by omega), List.nil_append] at hm3
        simp [hml]
        exact ⟨j + 1, ⟨_, less_envOf (by simp [hw2]) rfl fun _ => rfl⟩, ⟨by omega, by simpa using hm3⟩, by omega⟩
    · rw [List.drop_eq_nil_of_le (by omega)] at hm2
      simp [hjl]
      simpa using hm2

theorem places_of {c : List Pk} {s : List Int} (h : (s.any fun n => !inF n 0 (c.length - 1)) = false) : Places c.length s := by
  intro k hk
  have h1 := List.any_eq_false.1 h k hk
  simp [inF] at h1
  exact ⟨by omega, by omega⟩

theorem cls_len {c : List Pk} {l : List Trm} {s : List Int} (hb : CatOk c) (hp : Places c.length s) : ∀ q ∈ clsOf c l s, q.length ≤ 4 := by
  intro q hm
  simp only [clsOf, List.mem_append, List.mem_map, List.mem_flatMap] at hm
  rcases hm with ⟨t, _, rfl⟩ | ⟨k, hk, hq⟩
  · simp
  · exact (hb _ (pkAt_mem (hp k hk).2)).2.2.2 q hq

theorem unmL_len {c : List Pk} {l : List Trm} {s : List Int} (hb : CatOk c) (hp : Places c.length s) : (unmL c l s).length ≤ 4 := by
  unfold unmL
  cases h : (clsOf c l s).find? fun q => !metF c s q with
  | none => simp
  | some q => exact cls_len hb hp q (List.mem_of_find?_eq_some h)

noncomputable def unmF (c : List Pk) (l : List Trm) (s : List Int) : List Trm := if catF c = 0 then if trmsF l = 0 then if (s.any fun n => !inF n 0 (c.length - 1)) = false then unmL c l s else [] else [] else []

set_option maxRecDepth 10000 in
theorem p_unmetOf (c : List Pk) (hc : c.length ≤ 4611686018427387904) (hlen : ∀ p ∈ c, p.Len) (l : List Trm) (hl : l.length ≤ 4611686018427387904) (s : List Int) (hs : s.length ≤ 4611686018427387904) : Pure Try.prog 25 [pksAV false false c, trmsAV false l, intsAV false s] (trmsAV false (unmF c l s)) := by
  refine pure_of_code (G := (G0)) vers0 mixed0 Try.func25 rfl (by decide) (by simp [Try.f25]) (by simp) fun ver => ?_
  simp only [Try.f25, G0]
  simp
  refine call_p (p_cat false false c hc hlen) (by simp) ?_
  by_cases h1 : catF c = 0
  · simp [h1]
    refine call_p (p_trms false l hl) (by simp) ?_
    by_cases h2 : trmsF l = 0
    · simp [h2]
      refine call_p (p_places false false false c hc s hs) (by simp) ?_
      cases h3 : (s.any fun n => !inF n 0 (c.length - 1)) with
      | true =>
        have hu : unmF c l s = [] := by rw [unmF, if_pos h1, if_pos h2, if_neg (by rw [h3]; decide)]
        rw [hu]
        simp
      | false =>
        have hb : CatOk c := fun p hp => packF_ok ((catF_ok h1).2 p hp)
        have hp := places_of h3
        have hu : unmF c l s = unmL c l s := by rw [unmF, if_pos h1, if_pos h2, if_pos h3]
        have h4 := unmL_len (l := l) hb hp
        rw [hu]
        simp
        refine call_p (p_l4unmet c hb l hl s hs hp) (by simp) ?_
        cases hU : unmL c l s with
        | nil => simp [aappend, sealRows]
        | cons t U =>
          rw [hU] at h4
          have h5 : (U.length + 1) * 64 ≤ 140737488355328 := by simp at h4; omega
          have h6 := seal_trms (t :: U)
          simp only [List.map_cons] at h6
          simp [aappend, Mem.made, h5, h6, fin1]
    · have hu : unmF c l s = [] := by rw [unmF, if_pos h1, if_neg h2]
      rw [hu]
      simp [h2]
  · have hu : unmF c l s = [] := by rw [unmF, if_neg h1]
    rw [hu]
    simp [h1]

theorem c_cloneT (c : Bool) (a : Trm) (l : List Trm) (hl : (a :: l).length * 64 ≤ 140737488355328) : OCall Try.prog 80 none [trmsAV c (a :: l)] (some (false, 28, (a :: l).map Trm.cells)) (.arr 0 0 0 (a :: l).length) := by
  refine own_of_code (G := Go1 5) (verso 5) mixed0 Try.func80 rfl (by decide) (by simp [Try.f80]) 5 .dead (by intro s e es h; cases h; exact fr_trm (a :: l)) ?_
  simp only [Try.f80, Go1, inArrs]
  have h2 : (l.length + 1) * 64 ≤ 140737488355328 := by simpa using hl
  have h3 := seal_trms (a :: l)
  simp only [List.map_cons] at h3
  simp [aappend, Mem.made, sealRows, sealCells, h3, h2]

theorem p_cloneT0 (c : Bool) : Pure Try.prog 80 [.sl c []] (.sl false []) := by
  refine pure_of_code (G := (G0)) vers0 mixed0 Try.func80 rfl (by decide) (by simp [Try.f80]) (by simp) fun ver => ?_
  simp only [Try.f80, G0]
  simp [aappend, sealRows]

theorem q_unmet1 (a b k : Bool) (c : List Pk) (hb : CatOk c) (l : List Trm) (hl : l.length ≤ 4611686018427387904) (n : Int) (hn : 0 ≤ n ∧ n.toNat < c.length) (i j : Nat) (bs : List (List AV)) (hi : bs[i]? = some [pksAV a b c]) (hj : bs[j]? = some [trmsAV k l]) :
    BCall Try.prog 119 [.v (.int .i64 n), .box i 0, .box j 0] bs (.v (.bool (l.any (givesF (pkAt c n))))) := by
  obtain ⟨q1, q2⟩ := hn
  have hg := pkAt_get q2
  have hok := hb _ (pkAt_mem q2)
  refine bcode Try.func119 rfl (by decide) (by simp [Try.f119]) (by simp) fun ver => ?_
  simp only [Try.f119, Gb]
  simp
  refine adraw_all (by kernel_rfl) ?_
  simp [hi, hj, q1, hg]
  refine call_p (q_givesOne k b (pkAt c n) (by have := hok.1; omega) l hl) (by simp) ?_
  simp

def arrG (p : Nat) (ver : Nat → Nat) (v : Nat) (e : TypeId) (es : List (List AV)) : Nat → ArrSt := fun j => if j = p then ⟨v, true, e, es⟩ else ⟨ver j, false, 0, []⟩

set_option maxHeartbeats 4000000 in
set_option maxRecDepth 10000 in
theorem q_unmet (c : List Pk) (hb : CatOk c) (l : List Trm) (hl : l.length ≤ 1048576) (s : List Int) (hs0 : s.length ≤ 1048576) (hp : Places c.length s) : Pure Try.prog 79 [pksAV false false c, trmsAV false l, intsAV false s] (.tup [trmsAV false (unmL c l s), .v (.bool ((clsOf c l s).find? fun q => !metF c s q).isSome)]) := by
  have hs : s.length ≤ 4611686018427387904 := by omega
  have hl2 : l.length ≤ 4611686018427387904 := by omega
  have hp0 : ∀ x ∈ s, 0 ≤ x := fun x hx => (hp x hx).1
  refine pure_of_code (G := (Go1 15)) (verso 15) mixed0 Try.func79 rfl (by decide) (by simp [Try.f79]) (by simp) fun ver => ?_
  simp only [Try.f79, Go1]
  simp [Mem.made, noArrs, sealRows]
  refine aloop (α := Nat × Nat × List (List Trm) × List (List AV)) (fun d => ⟨envOf [(2, intsAV false s), (3, .box 0 0), (8, .arr 15 d.2.1 0 d.2.2.1.length), (16, trmsAV false l), (17, .v (.int .i64 l.length)), (18, .v (.int .i64 d.1))], ⟨[pksAV false false c] :: d.2.2.2, arrG 15 ver d.2.1 36 (d.2.2.1.map (clauseCells false))⟩⟩)
    (fun d => d.1 ≤ l.length ∧ d.2.2.1 = (l.take d.1).map (fun t => [t]) ∧ StabL d.2.2.2) (fun d => l.length - d.1) (0, ver 15 + 1, [], []) (less_envOf (by simp) rfl (by intro j; simp [arrG])) ⟨by simp, by simp, fun q hq => by cases hq⟩ ?_
  rintro ⟨i, v, Q, B⟩ ⟨hk, hQ, hst⟩
  simp only at hk hQ hst ⊢
  by_cases hlt : i < l.length
  · have hw := wrapS hlt hl2
    have hQl : Q.length = i := by rw [hQ]; simp; omega
    have hro : (Q.length + 1) * 24 ≤ 140737488355328 := by omega
    simp [hlt, aappend, sealRows, sealCells, List.range_succ, hro, arrG]
    refine ⟨i + 1, v + 1, Q ++ [[l[i]]], B ++ [l[i].cells], less_envOf (by simp [hw]) (by simp) ?_, ⟨by omega, ?_, stabL_app hst (stab_trm _)⟩, by omega⟩
    · intro j
      by_cases hj : j = 15 <;> simp [hj, arrG]
    · rw [hQ, ← List.map_take, List.take_succ_eq_append_getElem hlt, List.map_append]
      rfl
  · have e : i = l.length := by omega
    subst e
    rw [List.take_length] at hQ
    simp [hlt]
    refine aloop (α := Nat × Nat × List (List Trm)) (fun d => ⟨envOf [(2, intsAV false s), (3, .box 0 0), (8, .arr 15 d.2.1 0 d.2.2.length), (28, intsAV false s), (29, .v (.int .i64 s.length)), (30, .v (.int .i64 d.1))], ⟨[pksAV false false c] :: B, arrG 15 ver d.2.1 36 (d.2.2.map (clauseCells false))⟩⟩)
      (fun d => d.1 ≤ s.length ∧ d.2.2 = l.map (fun t => [t]) ++ (s.take d.1).flatMap (fun k => (pkAt c k).ne) ∧ d.2.2.length ≤ l.length + 4 * d.1) (fun d => s.length - d.1) (0, v, Q) (less_envOf (by simp) rfl fun _ => rfl) ⟨by simp, by simpa using hQ, by rw [hQ]; simp⟩ ?_
    rintro ⟨j, v2, Q2⟩ ⟨hk2, hQ2, hln⟩
    simp only at hk2 hQ2 hln ⊢
    by_cases hjl : j < s.length
    · have hw2 := wrapS hjl hs
      obtain ⟨q1, q2⟩ := hp _ (List.getElem_mem hjl)
      have hg := pkAt_get q2
      have hok := hb _ (pkAt_mem q2)
      have hro : (Q2.length + (pkAt c s[j]).ne.length) * 24 ≤ 140737488355328 := by have := hok.2.1; omega
      simp [hjl, q1, hg, aappend, hro, arrG]
      refine ⟨j + 1, v2 + 1, Q2 ++ (pkAt c s[j]).ne, less_envOf (by simp [hw2]) (by simp) ?_, ⟨by omega, ?_, by have := hok.2.1; simp; omega⟩, by omega⟩
      · intro q
        by_cases hq : q = 15 <;> simp [hq, arrG]
      · rw [hQ2, List.take_succ_eq_append_getElem hjl, List.flatMap_append]
        simp
    · have e : j = s.length := by omega
      subst e
      rw [List.take_length] at hQ2
      have hcl : clsOf c l s = Q2 := hQ2.symm
      have hQ4 : ∀ q ∈ Q2, q.length ≤ 4 := by rw [← hcl]; exact cls_len hb hp
      rw [unmL, hcl]
      have hq2 : Q2.length ≤ 4611686018427387904 := by omega
      simp [hjl, arrG]
      refine aloop (α := Nat × List (List AV)) (fun d => ⟨envOf [(2, intsAV false s), (3, .box 0 0), (42, .arr 15 v2 0 Q2.length), (43, .v (.int .i64 Q2.length)), (44, .v (.int .i64 d.1))], ⟨[pksAV false false c] :: d.2, arrG 15 ver v2 36 (Q2.map (clauseCells false))⟩⟩)
        (fun d => (d.1 ≤ Q2.length ∧ ((Q2.drop d.1).find? fun q => !metF c s q) = Q2.find? fun q => !metF c s q) ∧ StabL d.2) (fun d => Q2.length - d.1) (0, B) (less_envOf (by simp) rfl fun _ => rfl) ⟨by simp, hst⟩ ?_
      rintro ⟨m, D⟩ ⟨⟨hk3, hm3⟩, dst⟩
      simp only at hk3 hm3 dst ⊢
      by_cases hml : m < Q2.length
      · have hw3 := wrapS hml hq2
        rw [drop_get hml, find_cons] at hm3
        have dst2 : StabL (D ++ [[trmsAV false Q2[m]]]) := stabL_app dst (stab_one (stabC_sl _ _))
        simp [hml, arrG]
        refine call_b (cb_ints false s hs 119 [] [.box 0 0, .box (D.length + 1) 0] ([pksAV false false c] :: (D ++ [[trmsAV false Q2[m]]])) (fun x => Q2[m].any (givesF (pkAt c x))) (stab_of (stabL_cons dst2 (stab_one (stabC_sl _ _)))) (fun _ => rfl) (fun _ => rfl)
          fun x hx => q_unmet1 false false false c hb Q2[m] (by have := hQ4 _ (List.getElem_mem hml); omega) x (hp x hx) 0 (D.length + 1) _ rfl (by simp)) (stab_of (stabL_cons dst2 (stab_one (stabC_sl _ _))) _) ?_
        rw [met_any c s hp0]
        cases hmet : metF c s Q2[m] with
        | true =>
          simp
          exact ⟨m + 1, _, less_envOf (by simp [hw3]) rfl fun _ => rfl, ⟨⟨by omega, by simpa [hmet] using hm3⟩, dst2⟩, by omega⟩
        | false =>
          have hf : (Q2.find? fun q => !metF c s q) = some Q2[m] := by simpa [hmet] using hm3.symm
          simp [hf]
      · rw [List.drop_eq_nil_of_le (by omega)] at hm3
        have hf : (Q2.find? fun q => !metF c s q) = none := by simpa using hm3.symm
        rw [hf]
        simp [hml]

end Go.Proofs.Ytokhnmchnfkiiaa.Am
