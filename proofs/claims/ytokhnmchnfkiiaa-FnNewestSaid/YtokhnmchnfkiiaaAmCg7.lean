import Derived.Test.YtokhnmchnfkiiaaAmCg6
import Derived.Test.YtokhnmchnfkiiaaAmCg5
/- All places of a catalog; which of them are newer than what a set holds. No conditions. -/
namespace Go.Proofs.Ytokhnmchnfkiiaa.Am
open Go Go.RowKit Go.Proofs
set_option linter.unusedSimpArgs false
set_option linter.unusedVariables false

def allI (n : Nat) : List Int := (List.range n).map fun i => ((i : Nat) : Int)
@[simp] theorem allI_length (n : Nat) : (allI n).length = n := by simp [allI]
theorem allI_succ (n : Nat) : allI (n + 1) = allI n ++ [(n : Int)] := by simp [allI, List.range_succ]
theorem allI_mem {n : Nat} {m : Int} (h : m ∈ allI n) : 0 ≤ m ∧ m.toNat < n := by
  simp only [allI, List.mem_map, List.mem_range] at h
  obtain ⟨i, hi, rfl⟩ := h
  exact ⟨by omega, by simpa using hi⟩

def newerB (c : List Pk) (m k : Int) : Bool := decide ((pkAt c k).n = (pkAt c m).n) && decide (cmpF (pkAt c k).v.a (pkAt c k).v.b (pkAt c k).v.c (pkAt c m).v.a (pkAt c m).v.b (pkAt c m).v.c < 0)
def upgB (c : List Pk) (s : List Int) (m : Int) : Bool := !memI m s && s.any (newerB c m)
def upgL (c : List Pk) (s : List Int) : List Int := (allI c.length).filter (upgB c s)

end Go.Proofs.Ytokhnmchnfkiiaa.Am

/- What is newer than a set, as the reference and the program find it. No conditions. -/
namespace Go.Proofs.Ytokhnmchnfkiiaa.Am
open Go Go.RowKit Go.Proofs
set_option linter.unusedSimpArgs false
set_option linter.unusedVariables false

noncomputable def upgF (c : List Pk) (s : List Int) : Int × List Int := if setF c s ≠ 0 then (setF c s, []) else (0, upgL c s)

end Go.Proofs.Ytokhnmchnfkiiaa.Am

/- What is unmet, as the reference and the program find it. No conditions. -/
namespace Go.Proofs.Ytokhnmchnfkiiaa.Am
open Go Go.RowKit Go.Proofs
set_option linter.unusedSimpArgs false
set_option linter.unusedVariables false

def clsOf (c : List Pk) (l : List Trm) (s : List Int) : List (List Trm) := l.map (fun t => [t]) ++ s.flatMap fun k => (pkAt c k).ne
def unmL (c : List Pk) (l : List Trm) (s : List Int) : List Trm := ((clsOf c l s).find? fun q => !metF c s q).getD []
theorem find_cons {α : Type} (P : α → Bool) (a : α) (l : List α) : (a :: l).find? P = if P a = true then some a else l.find? P := by
  rw [List.find?_cons]
  cases P a <;> rfl

set_option maxHeartbeats 4000000 in
set_option maxRecDepth 10000 in
theorem p_l4unmet (c : List Pk) (hb : CatOk c) (l : List Trm) (hl : l.length ≤ 4611686018427387904) (s : List Int) (hs : s.length ≤ 4611686018427387904) (hp : Places c.length s) : Pure Try.prog 75 [pksAV false false c, trmsAV false l, intsAV false s] (trmsAV false (unmL c l s)) := by
  obtain ⟨U, hU⟩ : ∃ U, U = unmL c l s := ⟨_, rfl⟩
  rw [← hU]
  refine pure_of_code (G := (G0)) vers0 mixed0 Try.func75 rfl (by decide) (by simp [Try.f75]) (by simp) fun ver => ?_
  simp only [Try.f75, G0]
  simp
  refine aloop (α := Nat) (fun i => ⟨envOf [(0, pksAV false false c), (1, trmsAV false l), (2, intsAV false s), (7, .v (.int .i64 i))], ⟨[], noArrs ver⟩⟩)
    (fun i => i ≤ l.length ∧ U = ((((l.drop i).map fun t => [t]) ++ s.flatMap fun k => (pkAt c k).ne).find? fun q => !metF c s q).getD []) (fun i => l.length - i) 0 (less_envOf (by simp) rfl fun _ => rfl) ⟨by simp, by simpa [clsOf, unmL] using hU⟩ ?_
  rintro i ⟨hk, hm⟩
  by_cases hlt : i < l.length
  · have hw := wrapS hlt hl
    rw [drop_get hlt, List.map_cons, List.cons_append, find_cons] at hm
    have hsl : List.take 1 (List.drop i (List.map Trm.cells l)) = [l[i].cells] := by
      rw [← List.map_drop, drop_get hlt]
      rfl
    simp [hlt, hw, hsl, show (0 : Int) ≤ (i : Int) + 1 by omega, show (i : Int) + 1 ≤ l.length by omega]
    refine call_p (p_met false false false false c hb s hs hp [l[i]] (by simp)) (by simp) ?_
    cases h2 : metF c s [l[i]] with
    | true =>
      simp
      exact ⟨i + 1, less_envOf (by simp [hw]) rfl fun _ => rfl, ⟨by omega, by simpa [h2] using hm⟩, by omega⟩
    | false =>
      have hU2 : U = [l[i]] := by simpa [h2] using hm
      simp [hlt, hw, hsl, show (0 : Int) ≤ (i : Int) + 1 by omega, show (i : Int) + 1 ≤ l.length by omega, hU2]
  · rw [List.drop_eq_nil_of_le (by omega), List.map_nil, List.nil_append] at hm
    simp [hlt]
    refine aloop (α := Nat × List (List AV)) (fun d => ⟨envOf [(0, pksAV false false c), (2, intsAV false s), (8, .v (.int .i64 d.1))], ⟨d.2, noArrs ver⟩⟩)
      (fun d => d.1 ≤ s.length ∧ U = (((s.drop d.1).flatMap fun k => (pkAt c k).ne).find? fun q => !metF c s q).getD []) (fun d => s.length - d.1) (0, []) (less_envOf (by simp) rfl fun _ => rfl) ⟨by simp, by simpa using hm⟩ ?_
    rintro ⟨j, B⟩ ⟨hk2, hm2⟩
    simp only at hk2 hm2 ⊢
    by_cases hjl : j < s.length
    · have hw2 := wrapS hjl hs
      obtain ⟨q1, q2⟩ := hp _ (List.getElem_mem hjl)
      have hg := pkAt_get q2
      have hok := hb _ (pkAt_mem q2)
      rw [drop_get hjl, List.flatMap_cons] at hm2
      simp [hjl, q1, hg]
      refine aloop (α := Nat) (fun m => ⟨envOf [(0, pksAV false false c), (2, intsAV false s), (8, .v (.int .i64 j)), (9, .box B.length 0), (10, .v (.int .i64 m))], ⟨B ++ [(pkAt c s[j]).cells false], noArrs ver⟩⟩)
        (fun m => m ≤ (pkAt c s[j]).ne.length ∧ U = ((((pkAt c s[j]).ne.drop m) ++ (s.drop (j + 1)).flatMap fun k => (pkAt c k).ne).find? fun q => !metF c s q).getD []) (fun m => (pkAt c s[j]).ne.length - m) 0 (less_envOf (by simp) rfl fun _ => rfl) ⟨by simp, by simpa using hm2⟩ ?_
      rintro m ⟨hk3, hm3⟩
      by_cases hml : m < (pkAt c s[j]).ne.length
      · have hw3 := wrapS hml (by have := hok.2.1; omega)
        have hq := hok.2.2.2 _ (List.getElem_mem hml)
        rw [drop_get hml, List.cons_append, find_cons] at hm3
        simp [hml]
        refine call_p (p_met false false false false c hb s hs hp (pkAt c s[j]).ne[m] (by omega)) (by simp) ?_
        cases h2 : metF c s (pkAt c s[j]).ne[m] with
        | true =>
          simp
          exact ⟨m + 1, less_envOf (by simp [hw3]) rfl fun _ => rfl, ⟨by omega, by simpa [h2] using hm3⟩, by omega⟩
        | false =>
          simp [hml]
          exact congrArg (List.map Trm.cells) (by simpa [h2] using hm3.symm)
      · rw [List.drop_eq_nil_of_le (by omega), List.nil_append] at hm3
        simp [hml]
        exact ⟨j + 1, ⟨_, less_envOf (by simp [hw2]) rfl fun _ => rfl⟩, ⟨by omega, by simpa using hm3⟩, by omega⟩
    · rw [List.drop_eq_nil_of_le (by omega)] at hm2
      simp [hjl]
      simpa using hm2

theorem places_of {c : List Pk} {s : List Int} (h : (s.any fun n => !inF n 0 (c.length - 1)) = false) : Places c.length s := by
  intro k hk
  have h1 := List.any_eq_false.1 h k hk
  simp [inF] at h1
  exact ⟨by omega, by omega⟩

theorem cls_len {c : List Pk} {l : List Trm} {s : List Int} (hb : CatOk c) (hp : Places c.length s) : ∀ q ∈ clsOf c l s, q.length ≤ 4 := by
  intro q hm
  simp only [clsOf, List.mem_append, List.mem_map, List.mem_flatMap] at hm
  rcases hm with ⟨t, _, rfl⟩ | ⟨k, hk, hq⟩
  · simp
  · exact (hb _ (pkAt_mem (hp k hk).2)).2.2.2 q hq

theorem unmL_len {c : List Pk} {l : List Trm} {s : List Int} (hb : CatOk c) (hp : Places c.length s) : (unmL c l s).length ≤ 4 := by
  unfold unmL
  cases h : (clsOf c l s).find? fun q => !metF c s q with
  | none => simp
  | some q => exact cls_len hb hp q (List.mem_of_find?_eq_some h)

noncomputable def unmF (c : List Pk) (l : List Trm) (s : List Int) : List Trm := if catF c = 0 then if trmsF l = 0 then if (s.any fun n => !inF n 0 (c.length - 1)) = false then unmL c l s else [] else [] else []

set_option maxRecDepth 10000 in
theorem p_unmetOf (c : List Pk) (hc : c.length ≤ 4611686018427387904) (hlen : ∀ p ∈ c, p.Len) (l : List Trm) (hl : l.length ≤ 4611686018427387904) (s : List Int) (hs : s.length ≤ 4611686018427387904) : Pure Try.prog 25 [pksAV false false c, trmsAV false l, intsAV false s] (trmsAV false (unmF c l s)) := by
  refine pure_of_code (G := (G0)) vers0 mixed0 Try.func25 rfl (by decide) (by simp [Try.f25]) (by simp) fun ver => ?_
  simp only [Try.f25, G0]
  simp
  refine call_p (p_cat false false c hc hlen) (by simp) ?_
  by_cases h1 : catF c = 0
  · simp [h1]
    refine call_p (p_trms false l hl) (by simp) ?_
    by_cases h2 : trmsF l = 0
    · simp [h2]
      refine call_p (p_places false false false c hc s hs) (by simp) ?_
      cases h3 : (s.any fun n => !inF n 0 (c.length - 1)) with
      | true =>
        have hu : unmF c l s = [] := by rw [unmF, if_pos h1, if_pos h2, if_neg (by rw [h3]; decide)]
        rw [hu]
        simp
      | false =>
        have hb : CatOk c := fun p hp => packF_ok ((catF_ok h1).2 p hp)
        have hp := places_of h3
        have hu : unmF c l s = unmL c l s := by rw [unmF, if_pos h1, if_pos h2, if_pos h3]
        have h4 := unmL_len (l := l) hb hp
        rw [hu]
        simp
        refine call_p (p_l4unmet c hb l hl s hs hp) (by simp) ?_
        cases hU : unmL c l s with
        | nil => simp [aappend, sealRows]
        | cons t U =>
          rw [hU] at h4
          have h5 : (U.length + 1) * 64 ≤ 140737488355328 := by simp at h4; omega
          have h6 := seal_trms (t :: U)
          simp only [List.map_cons] at h6
          simp [aappend, Mem.made, h5, h6, fin1]
    · have hu : unmF c l s = [] := by rw [unmF, if_pos h1, if_neg h2]
      rw [hu]
      simp [h2]
  · have hu : unmF c l s = [] := by rw [unmF, if_neg h1]
    rw [hu]
    simp [h1]

theorem c_cloneT (c : Bool) (a : Trm) (l : List Trm) (hl : (a :: l).length * 64 ≤ 140737488355328) : OCall Try.prog 80 none [trmsAV c (a :: l)] (some (false, 28, (a :: l).map Trm.cells)) (.arr 0 0 0 (a :: l).length) := by
  refine own_of_code (G := Go1 5) (verso 5) mixed0 Try.func80 rfl (by decide) (by simp [Try.f80]) 5 .dead (by intro s e es h; cases h; exact fr_trm (a :: l)) ?_
  simp only [Try.f80, Go1, inArrs]
  have h2 : (l.length + 1) * 64 ≤ 140737488355328 := by simpa using hl
  have h3 := seal_trms (a :: l)
  simp only [List.map_cons] at h3
  simp [aappend, Mem.made, sealRows, sealCells, h3, h2]

theorem p_cloneT0 (c : Bool) : Pure Try.prog 80 [.sl c []] (.sl false []) := by
  refine pure_of_code (G := (G0)) vers0 mixed0 Try.func80 rfl (by decide) (by simp [Try.f80]) (by simp) fun ver => ?_
  simp only [Try.f80, G0]
  simp [aappend, sealRows]

theorem q_unmet1 (a b k : Bool) (c : List Pk) (hb : CatOk c) (l : List Trm) (hl : l.length ≤ 4611686018427387904) (n : Int) (hn : 0 ≤ n ∧ n.toNat < c.length) (i j : Nat) (bs : List (List AV)) (hi : bs[i]? = some [pksAV a b c]) (hj : bs[j]? = some [trmsAV k l]) :
    BCall Try.prog 119 [.v (.int .i64 n), .box i 0, .box j 0] bs (.v (.bool (l.any (givesF (pkAt c n))))) := by
  obtain ⟨q1, q2⟩ := hn
  have hg := pkAt_get q2
  have hok := hb _ (pkAt_mem q2)
  refine bcode Try.func119 rfl (by decide) (by simp [Try.f119]) (by simp) fun ver => ?_
  simp only [Try.f119, Gb]
  simp
  refine adraw_all (by kernel_rfl) ?_
  simp [hi, hj, q1, hg]
  refine call_p (q_givesOne k b (pkAt c n) (by have := hok.1; omega) l hl) (by simp) ?_
  simp

def arrG (p : Nat) (ver : Nat → Nat) (v : Nat) (e : TypeId) (es : List (List AV)) : Nat → ArrSt := fun j => if j = p then ⟨v, true, e, es⟩ else ⟨ver j, false, 0, []⟩

set_option maxHeartbeats 4000000 in
set_option maxRecDepth 10000 in
theorem q_unmet {k : Bool} (c : List Pk) (hb : CatOk c) (l : List Trm) (hl : l.length ≤ 1048576) (s : List Int) (hs0 : s.length ≤ 1048576) (hp : Places c.length s) : Pure Try.prog 79 [pksAV false false c, trmsAV false l, intsAV k s] (.tup [trmsAV false (unmL c l s), .v (.bool ((clsOf c l s).find? fun q => !metF c s q).isSome)]) := by
  have hs : s.length ≤ 4611686018427387904 := by omega
  have hl2 : l.length ≤ 4611686018427387904 := by omega
  have hp0 : ∀ x ∈ s, 0 ≤ x := fun x hx => (hp x hx).1
  refine pure_of_code (G := (Go1 15)) (verso 15) mixed0 Try.func79 rfl (by decide) (by simp [Try.f79]) (by simp) fun ver => ?_
  simp only [Try.f79, Go1]
  simp [Mem.made, noArrs, sealRows]
  refine aloop (α := Nat × Nat × List (List Trm) × List (List AV)) (fun d => ⟨envOf [(2, intsAV k s), (3, .box 0 0), (8, .arr 15 d.2.1 0 d.2.2.1.length), (16, trmsAV false l), (17, .v (.int .i64 l.length)), (18, .v (.int .i64 d.1))], ⟨[pksAV false false c] :: d.2.2.2, arrG 15 ver d.2.1 36 (d.2.2.1.map (clauseCells false))⟩⟩)
    (fun d => d.1 ≤ l.length ∧ d.2.2.1 = (l.take d.1).map (fun t => [t]) ∧ StabL d.2.2.2) (fun d => l.length - d.1) (0, ver 15 + 1, [], []) (less_envOf (by simp) rfl (by intro j; simp [arrG])) ⟨by simp, by simp, fun q hq => by cases hq⟩ ?_
  rintro ⟨i, v, Q, B⟩ ⟨hk, hQ, hst⟩
  simp only at hk hQ hst ⊢
  by_cases hlt : i < l.length
  · have hw := wrapS hlt hl2
    have hQl : Q.length = i := by rw [hQ]; simp; omega
    have hro : (Q.length + 1) * 24 ≤ 140737488355328 := by omega
    simp [hlt, aappend, sealRows, sealCells, List.range_succ, hro, arrG]
    refine ⟨i + 1, v + 1, Q ++ [[l[i]]], B ++ [l[i].cells], less_envOf (by simp [hw]) (by simp) ?_, ⟨by omega, ?_, stabL_app hst (stab_trm _)⟩, by omega⟩
    · intro j
      by_cases hj : j = 15 <;> simp [hj, arrG]
    · rw [hQ, ← List.map_take, List.take_succ_eq_append_getElem hlt, List.map_append]
      rfl
  · have e : i = l.length := by omega
    subst e
    rw [List.take_length] at hQ
    simp [hlt]
    refine aloop (α := Nat × Nat × List (List Trm)) (fun d => ⟨envOf [(2, intsAV k s), (3, .box 0 0), (8, .arr 15 d.2.1 0 d.2.2.length), (28, intsAV k s), (29, .v (.int .i64 s.length)), (30, .v (.int .i64 d.1))], ⟨[pksAV false false c] :: B, arrG 15 ver d.2.1 36 (d.2.2.map (clauseCells false))⟩⟩)
      (fun d => d.1 ≤ s.length ∧ d.2.2 = l.map (fun t => [t]) ++ (s.take d.1).flatMap (fun k => (pkAt c k).ne) ∧ d.2.2.length ≤ l.length + 4 * d.1) (fun d => s.length - d.1) (0, v, Q) (less_envOf (by simp) rfl fun _ => rfl) ⟨by simp, by simpa using hQ, by rw [hQ]; simp⟩ ?_
    rintro ⟨j, v2, Q2⟩ ⟨hk2, hQ2, hln⟩
    simp only at hk2 hQ2 hln ⊢
    by_cases hjl : j < s.length
    · have hw2 := wrapS hjl hs
      obtain ⟨q1, q2⟩ := hp _ (List.getElem_mem hjl)
      have hg := pkAt_get q2
      have hok := hb _ (pkAt_mem q2)
      have hro : (Q2.length + (pkAt c s[j]).ne.length) * 24 ≤ 140737488355328 := by have := hok.2.1; omega
      simp [hjl, q1, hg, aappend, hro, arrG]
      refine ⟨j + 1, v2 + 1, Q2 ++ (pkAt c s[j]).ne, less_envOf (by simp [hw2]) (by simp) ?_, ⟨by omega, ?_, by have := hok.2.1; simp; omega⟩, by omega⟩
      · intro q
        by_cases hq : q = 15 <;> simp [hq, arrG]
      · rw [hQ2, List.take_succ_eq_append_getElem hjl, List.flatMap_append]
        simp
    · have e : j = s.length := by omega
      subst e
      rw [List.take_length] at hQ2
      have hcl : clsOf c l s = Q2 := hQ2.symm
      have hQ4 : ∀ q ∈ Q2, q.length ≤ 4 := by rw [← hcl]; exact cls_len hb hp
      rw [unmL, hcl]
      have hq2 : Q2.length ≤ 4611686018427387904 := by omega
      simp [hjl, arrG]
      refine aloop (α := Nat × List (List AV)) (fun d => ⟨envOf [(2, intsAV k s), (3, .box 0 0), (42, .arr 15 v2 0 Q2.length), (43, .v (.int .i64 Q2.length)), (44, .v (.int .i64 d.1))], ⟨[pksAV false false c] :: d.2, arrG 15 ver v2 36 (Q2.map (clauseCells false))⟩⟩)
        (fun d => (d.1 ≤ Q2.length ∧ ((Q2.drop d.1).find? fun q => !metF c s q) = Q2.find? fun q => !metF c s q) ∧ StabL d.2) (fun d => Q2.length - d.1) (0, B) (less_envOf (by simp) rfl fun _ => rfl) ⟨by simp, hst⟩ ?_
      rintro ⟨m, D⟩ ⟨⟨hk3, hm3⟩, dst⟩
      simp only at hk3 hm3 dst ⊢
      by_cases hml : m < Q2.length
      · have hw3 := wrapS hml hq2
        rw [drop_get hml, find_cons] at hm3
        have dst2 : StabL (D ++ [[trmsAV false Q2[m]]]) := stabL_app dst (stab_one (stabC_sl _ _))
        simp [hml, arrG]
        refine call_b (cb_ints k s hs 119 [] [.box 0 0, .box (D.length + 1) 0] ([pksAV false false c] :: (D ++ [[trmsAV false Q2[m]]])) (fun x => Q2[m].any (givesF (pkAt c x))) (stab_of (stabL_cons dst2 (stab_one (stabC_sl _ _)))) (fun _ => rfl) (fun _ => rfl)
          fun x hx => q_unmet1 false false false c hb Q2[m] (by have := hQ4 _ (List.getElem_mem hml); omega) x (hp x hx) 0 (D.length + 1) _ rfl (by simp)) (stab_of (stabL_cons dst2 (stab_one (stabC_sl _ _))) _) ?_
        rw [met_any c s hp0]
        cases hmet : metF c s Q2[m] with
        | true =>
          simp
          exact ⟨m + 1, _, less_envOf (by simp [hw3]) rfl fun _ => rfl, ⟨⟨by omega, by simpa [hmet] using hm3⟩, dst2⟩, by omega⟩
        | false =>
          have hf : (Q2.find? fun q => !metF c s q) = some Q2[m] := by simpa [hmet] using hm3.symm
          simp [hf]
      · rw [List.drop_eq_nil_of_le (by omega)] at hm3
        have hf : (Q2.find? fun q => !metF c s q) = none := by simpa using hm3.symm
        rw [hf]
        simp [hml]

end Go.Proofs.Ytokhnmchnfkiiaa.Am

/- Marks on arrays of terms of the law's own: written, and found again. No conditions. -/
namespace Go.Proofs.Ytokhnmchnfkiiaa.Am
open Go Go.RowKit Go.Proofs
set_option linter.unusedSimpArgs false
set_option linter.unusedVariables false

def mkTrm (k : Int) : Trm := ⟨markF k, ⟨k + 1, k + 2, k + 3⟩, ⟨k + 4, k + 5, k + 6⟩⟩
def mtrms (k : Int) (n : Nat) : List Trm := (List.range n).map fun i => mkTrm (k + ((7 * i : Nat) : Int))
@[simp] theorem mtrms_length (k : Int) (n : Nat) : (mtrms k n).length = n := by simp [mtrms]
theorem mtrms_succ (k : Int) (n : Nat) : mtrms k (n + 1) = mtrms k n ++ [mkTrm (k + ((7 * n : Nat) : Int))] := by simp [mtrms, List.range_succ]
theorem mtrms_get {k : Int} {n i : Nat} (h : i < n) : (mtrms k n)[i]? = some (mkTrm (k + ((7 * i : Nat) : Int))) := by
  rw [List.getElem?_eq_getElem (by simpa using h)]
  simp [mtrms]
def curT (k : Int) (l : List Trm) (i : Nat) : List Trm := mtrms k i ++ l.drop i
theorem curT_length {k : Int} {l : List Trm} {i : Nat} (h : i ≤ l.length) : (curT k l i).length = l.length := by simp [curT]; omega
theorem curT_get {k : Int} {l : List Trm} {i : Nat} (h : i < l.length) : (curT k l i)[i]? = some l[i] := by
  rw [curT, List.getElem?_append_right (by simp)]
  simp [h]
theorem curT_set {k : Int} {l : List Trm} {i : Nat} (h : i < l.length) : (curT k l i).set i (mkTrm (k + ((7 * i : Nat) : Int))) = curT k l (i + 1) := by
  simp only [curT]
  rw [List.set_append, if_neg (by simp), mtrms_length, Nat.sub_self, drop_get h, List.set_cons_zero, mtrms_succ]
  simp

theorem o_markTrms (l : List Trm) (k : Int) (h0 : 0 ≤ k) (hk : k + mkT l ≤ 1099511627776) :
    OCall Try.prog 34 (some (28, l.map Trm.cells)) [.arr 0 0 0 l.length, .v (.int .i64 k)] (some (true, 28, (mtrms k l.length).map Trm.cells)) (.v (.int .i64 (k + mkT l))) := by
  unfold mkT at hk ⊢
  have hl : l.length ≤ 4611686018427387904 := by omega
  refine own_of_code (G := G0) vers0 mixed0 Try.func34 rfl (by decide) (by simp [Try.f34]) 0 (.v _) (by intro s e es h; cases h; exact fr_trm _) ?_
  simp only [Try.f34, G0, inArrs_some]
  simp
  refine aloop (α := Nat) (fun i => ⟨envOf [(0, .arr 0 0 0 l.length), (1, .v (.int .i64 (k + ((7 * i : Nat) : Int)))), (5, .v (.int .i64 i))], ⟨[], arr1 0 0 28 ((curT k l i).map Trm.cells)⟩⟩)
    (fun i => i ≤ l.length) (fun i => l.length - i) 0 (less_envOf (by simp) rfl (by simp [curT, mtrms])) (by simp) ?_
  intro i hi
  by_cases hlt : i < l.length
  · have hw := wrapS hlt hl
    have b : ∀ m : Int, 0 ≤ m → m ≤ 1099511627786 → IntKind.i64.wrap (m + 1) = m + 1 := fun m _ _ => IntWalk.i64_in _ (by omega)
    obtain ⟨m, hm⟩ : ∃ m : Int, m = k + ((7 * i : Nat) : Int) := ⟨_, rfl⟩
    rw [← hm]
    obtain ⟨R, hR⟩ : ∃ R, R = (curT k l i).map Trm.cells := ⟨_, rfl⟩
    have hc : R.length = l.length := by rw [hR, List.length_map, curT_length hi]
    have hRi : R[i]? = some [.v (.string l[i].n), .v (.int .i64 l[i].lo.a), .v (.int .i64 l[i].lo.b), .v (.int .i64 l[i].lo.c), .v (.int .i64 l[i].hi.a), .v (.int .i64 l[i].hi.b), .v (.int .i64 l[i].hi.c)] := by rw [hR, List.getElem?_map, curT_get hlt]; rfl
    have hRi2 : R[i]'(by omega) = [.v (.string l[i].n), .v (.int .i64 l[i].lo.a), .v (.int .i64 l[i].lo.b), .v (.int .i64 l[i].lo.c), .v (.int .i64 l[i].hi.a), .v (.int .i64 l[i].hi.b), .v (.int .i64 l[i].hi.c)] := by
      rw [List.getElem?_eq_getElem (by omega)] at hRi
      exact Option.some.inj hRi
    have hRn : curT k l (i + 1) = (curT k l i).set i (mkTrm m) := by rw [hm]; exact (curT_set hlt).symm
    have hRl : (curT k l (i + 1)).map Trm.cells = R.set i (mkTrm m).cells := by rw [hRn, List.map_set, hR]
    rw [← hR]
    repeat first | rw [acode_seq] | rw [acode_block]
    refine acode_cutE ⟨[], arr1 0 0 28 R⟩ (fun E => E 0 = .arr 0 0 0 l.length ∧ E 1 = .v (.int .i64 (m)) ∧ E 5 = .v (.int .i64 i) ∧ E 9 = .v (.bool true)) ?_ ?_
    · simp [hlt, hc]
    rintro E ⟨z0, z1, z5, z9⟩
    repeat first | rw [kSeq_normal] | rw [acode_seq]
    refine cond_t z9 ?_
    repeat first | rw [acode_skip] | rw [kSeq_normal] | rw [acode_seq] | rw [acode_block]
    refine acode_cutE ⟨[], arr1 0 0 28 (R.set i [.v (.string (markF m)), .v (.int .i64 l[i].lo.a), .v (.int .i64 l[i].lo.b), .v (.int .i64 l[i].lo.c), .v (.int .i64 l[i].hi.a), .v (.int .i64 l[i].hi.b), .v (.int .i64 l[i].hi.c)])⟩ (fun E => E 0 = .arr 0 0 0 l.length ∧ E 1 = .v (.int .i64 (m)) ∧ E 5 = .v (.int .i64 i)) ?_ ?_
    · simp [z0, z1, z5, hlt, hc, hRi, hRi2, arr1_put]
      refine call_p (p_markText _ (by omega)) (by simp) ?_
      simp [z0, z1, z5, hlt, hc, hRi, hRi2, arr1_put]
    rintro E ⟨z0, z1, z5⟩
    repeat first | rw [kSeq_normal] | rw [acode_seq]
    have hb0 : IntKind.i64.wrap (m + 1) = m + 1 := by rw [b _ (by omega) (by omega)]
    refine acode_cutE ⟨[], arr1 0 0 28 (R.set i [.v (.string (markF m)), .v (.int .i64 l[i].lo.a), .v (.int .i64 l[i].lo.b), .v (.int .i64 l[i].lo.c), .v (.int .i64 l[i].hi.a), .v (.int .i64 l[i].hi.b), .v (.int .i64 l[i].hi.c)])⟩ (fun E => E 0 = .arr 0 0 0 l.length ∧ E 1 = .v (.int .i64 (m + 1)) ∧ E 5 = .v (.int .i64 i)) ?_ ?_
    · simp [z0, z1, z5, hlt, hc, hRi, hRi2, arr1_put, hb0]
    rintro E ⟨z0, z1, z5⟩
    repeat first | rw [kSeq_normal] | rw [acode_seq]
    refine acode_cutE ⟨[], arr1 0 0 28 (R.set i [.v (.string (markF m)), .v (.int .i64 (m + 1)), .v (.int .i64 l[i].lo.b), .v (.int .i64 l[i].lo.c), .v (.int .i64 l[i].hi.a), .v (.int .i64 l[i].hi.b), .v (.int .i64 l[i].hi.c)])⟩ (fun E => E 0 = .arr 0 0 0 l.length ∧ E 1 = .v (.int .i64 (m + 1)) ∧ E 5 = .v (.int .i64 i)) ?_ ?_
    · simp [z0, z1, z5, hlt, hc, hRi, hRi2, arr1_put]
    rintro E ⟨z0, z1, z5⟩
    repeat first | rw [kSeq_normal] | rw [acode_seq]
    have hb1 : IntKind.i64.wrap (m + 1 + 1) = m + 2 := by rw [b _ (by omega) (by omega)]; omega
    refine acode_cutE ⟨[], arr1 0 0 28 (R.set i [.v (.string (markF m)), .v (.int .i64 (m + 1)), .v (.int .i64 l[i].lo.b), .v (.int .i64 l[i].lo.c), .v (.int .i64 l[i].hi.a), .v (.int .i64 l[i].hi.b), .v (.int .i64 l[i].hi.c)])⟩ (fun E => E 0 = .arr 0 0 0 l.length ∧ E 1 = .v (.int .i64 (m + 2)) ∧ E 5 = .v (.int .i64 i)) ?_ ?_
    · simp [z0, z1, z5, hlt, hc, hRi, hRi2, arr1_put, hb1]
    rintro E ⟨z0, z1, z5⟩
    repeat first | rw [kSeq_normal] | rw [acode_seq]
    refine acode_cutE ⟨[], arr1 0 0 28 (R.set i [.v (.string (markF m)), .v (.int .i64 (m + 1)), .v (.int .i64 (m + 2)), .v (.int .i64 l[i].lo.c), .v (.int .i64 l[i].hi.a), .v (.int .i64 l[i].hi.b), .v (.int .i64 l[i].hi.c)])⟩ (fun E => E 0 = .arr 0 0 0 l.length ∧ E 1 = .v (.int .i64 (m + 2)) ∧ E 5 = .v (.int .i64 i)) ?_ ?_
    · simp [z0, z1, z5, hlt, hc, hRi, hRi2, arr1_put]
    rintro E ⟨z0, z1, z5⟩
    repeat first | rw [kSeq_normal] | rw [acode_seq]
    have hb2 : IntKind.i64.wrap (m + 2 + 1) = m + 3 := by rw [b _ (by omega) (by omega)]; omega
    refine acode_cutE ⟨[], arr1 0 0 28 (R.set i [.v (.string (markF m)), .v (.int .i64 (m + 1)), .v (.int .i64 (m + 2)), .v (.int .i64 l[i].lo.c), .v (.int .i64 l[i].hi.a), .v (.int .i64 l[i].hi.b), .v (.int .i64 l[i].hi.c)])⟩ (fun E => E 0 = .arr 0 0 0 l.length ∧ E 1 = .v (.int .i64 (m + 3)) ∧ E 5 = .v (.int .i64 i)) ?_ ?_
    · simp [z0, z1, z5, hlt, hc, hRi, hRi2, arr1_put, hb2]
    rintro E ⟨z0, z1, z5⟩
    repeat first | rw [kSeq_normal] | rw [acode_seq]
    refine acode_cutE ⟨[], arr1 0 0 28 (R.set i [.v (.string (markF m)), .v (.int .i64 (m + 1)), .v (.int .i64 (m + 2)), .v (.int .i64 (m + 3)), .v (.int .i64 l[i].hi.a), .v (.int .i64 l[i].hi.b), .v (.int .i64 l[i].hi.c)])⟩ (fun E => E 0 = .arr 0 0 0 l.length ∧ E 1 = .v (.int .i64 (m + 3)) ∧ E 5 = .v (.int .i64 i)) ?_ ?_
    · simp [z0, z1, z5, hlt, hc, hRi, hRi2, arr1_put]
    rintro E ⟨z0, z1, z5⟩
    repeat first | rw [kSeq_normal] | rw [acode_seq]
    have hb3 : IntKind.i64.wrap (m + 3 + 1) = m + 4 := by rw [b _ (by omega) (by omega)]; omega
    refine acode_cutE ⟨[], arr1 0 0 28 (R.set i [.v (.string (markF m)), .v (.int .i64 (m + 1)), .v (.int .i64 (m + 2)), .v (.int .i64 (m + 3)), .v (.int .i64 l[i].hi.a), .v (.int .i64 l[i].hi.b), .v (.int .i64 l[i].hi.c)])⟩ (fun E => E 0 = .arr 0 0 0 l.length ∧ E 1 = .v (.int .i64 (m + 4)) ∧ E 5 = .v (.int .i64 i)) ?_ ?_
    · simp [z0, z1, z5, hlt, hc, hRi, hRi2, arr1_put, hb3]
    rintro E ⟨z0, z1, z5⟩
    repeat first | rw [kSeq_normal] | rw [acode_seq]
    refine acode_cutE ⟨[], arr1 0 0 28 (R.set i [.v (.string (markF m)), .v (.int .i64 (m + 1)), .v (.int .i64 (m + 2)), .v (.int .i64 (m + 3)), .v (.int .i64 (m + 4)), .v (.int .i64 l[i].hi.b), .v (.int .i64 l[i].hi.c)])⟩ (fun E => E 0 = .arr 0 0 0 l.length ∧ E 1 = .v (.int .i64 (m + 4)) ∧ E 5 = .v (.int .i64 i)) ?_ ?_
    · simp [z0, z1, z5, hlt, hc, hRi, hRi2, arr1_put]
    rintro E ⟨z0, z1, z5⟩
    repeat first | rw [kSeq_normal] | rw [acode_seq]
    have hb4 : IntKind.i64.wrap (m + 4 + 1) = m + 5 := by rw [b _ (by omega) (by omega)]; omega
    refine acode_cutE ⟨[], arr1 0 0 28 (R.set i [.v (.string (markF m)), .v (.int .i64 (m + 1)), .v (.int .i64 (m + 2)), .v (.int .i64 (m + 3)), .v (.int .i64 (m + 4)), .v (.int .i64 l[i].hi.b), .v (.int .i64 l[i].hi.c)])⟩ (fun E => E 0 = .arr 0 0 0 l.length ∧ E 1 = .v (.int .i64 (m + 5)) ∧ E 5 = .v (.int .i64 i)) ?_ ?_
    · simp [z0, z1, z5, hlt, hc, hRi, hRi2, arr1_put, hb4]
    rintro E ⟨z0, z1, z5⟩
    repeat first | rw [kSeq_normal] | rw [acode_seq]
    refine acode_cutE ⟨[], arr1 0 0 28 (R.set i [.v (.string (markF m)), .v (.int .i64 (m + 1)), .v (.int .i64 (m + 2)), .v (.int .i64 (m + 3)), .v (.int .i64 (m + 4)), .v (.int .i64 (m + 5)), .v (.int .i64 l[i].hi.c)])⟩ (fun E => E 0 = .arr 0 0 0 l.length ∧ E 1 = .v (.int .i64 (m + 5)) ∧ E 5 = .v (.int .i64 i)) ?_ ?_
    · simp [z0, z1, z5, hlt, hc, hRi, hRi2, arr1_put]
    rintro E ⟨z0, z1, z5⟩
    repeat first | rw [kSeq_normal] | rw [acode_seq]
    have hb5 : IntKind.i64.wrap (m + 5 + 1) = m + 6 := by rw [b _ (by omega) (by omega)]; omega
    refine acode_cutE ⟨[], arr1 0 0 28 (R.set i [.v (.string (markF m)), .v (.int .i64 (m + 1)), .v (.int .i64 (m + 2)), .v (.int .i64 (m + 3)), .v (.int .i64 (m + 4)), .v (.int .i64 (m + 5)), .v (.int .i64 l[i].hi.c)])⟩ (fun E => E 0 = .arr 0 0 0 l.length ∧ E 1 = .v (.int .i64 (m + 6)) ∧ E 5 = .v (.int .i64 i)) ?_ ?_
    · simp [z0, z1, z5, hlt, hc, hRi, hRi2, arr1_put, hb5]
    rintro E ⟨z0, z1, z5⟩
    repeat first | rw [kSeq_normal] | rw [acode_seq]
    refine acode_cutE ⟨[], arr1 0 0 28 (R.set i [.v (.string (markF m)), .v (.int .i64 (m + 1)), .v (.int .i64 (m + 2)), .v (.int .i64 (m + 3)), .v (.int .i64 (m + 4)), .v (.int .i64 (m + 5)), .v (.int .i64 (m + 6))])⟩ (fun E => E 0 = .arr 0 0 0 l.length ∧ E 1 = .v (.int .i64 (m + 6)) ∧ E 5 = .v (.int .i64 i)) ?_ ?_
    · simp [z0, z1, z5, hlt, hc, hRi, hRi2, arr1_put]
    rintro E ⟨z0, z1, z5⟩
    repeat first | rw [kSeq_normal] | rw [acode_seq]
    have hb6 : IntKind.i64.wrap (m + 6 + 1) = m + 7 := by rw [b _ (by omega) (by omega)]; omega
    refine acode_cutE ⟨[], arr1 0 0 28 (R.set i [.v (.string (markF m)), .v (.int .i64 (m + 1)), .v (.int .i64 (m + 2)), .v (.int .i64 (m + 3)), .v (.int .i64 (m + 4)), .v (.int .i64 (m + 5)), .v (.int .i64 (m + 6))])⟩ (fun E => E 0 = .arr 0 0 0 l.length ∧ E 1 = .v (.int .i64 (m + 7)) ∧ E 5 = .v (.int .i64 i)) ?_ ?_
    · simp [z0, z1, z5, hlt, hc, hRi, hRi2, arr1_put, hb6]
    rintro E ⟨z0, z1, z5⟩
    repeat first | rw [kSeq_normal] | rw [acode_seq]
    simp [z5]
    refine ⟨i + 1, less_envOf (by simp [z0, z1, z5, hw, hm]; omega) rfl ?_, by omega, by omega⟩
    rw [hRl]
    intro j
    rfl
  · have e : i = l.length := by omega
    subst e
    simp [curT]

theorem p_markTrms0 (c : Bool) (k : Int) : Pure Try.prog 34 [.sl c [], .v (.int .i64 k)] (.v (.int .i64 k)) := by
  refine pure_of_code (G := (G0)) vers0 mixed0 Try.func34 rfl (by decide) (by simp [Try.f34]) (by simp) fun ver => ?_
  simp only [Try.f34, G0]
  simp
  refine aloop (α := Unit) (fun _ => ⟨envOf [(0, .sl c []), (1, .v (.int .i64 k)), (5, .v (.int .i64 0))], ⟨[], noArrs ver⟩⟩)
    (fun _ => True) (fun _ => 0) () (less_envOf (by simp) rfl fun _ => rfl) trivial ?_
  intro _ _
  simp

set_option maxRecDepth 10000 in
theorem p_heldTrms (c : Bool) (n : Nat) (k : Int) (h0 : 0 ≤ k) (hk : k + ((7 * n : Nat) : Int) ≤ 1099511627776) : Pure Try.prog 36 [trmsAV c (mtrms k n), .v (.int .i64 k)] (.v (.int .i64 (k + ((7 * n : Nat) : Int)))) := by
  have hl : n ≤ 4611686018427387904 := by omega
  refine pure_of_code (G := (G0)) vers0 mixed0 Try.func36 rfl (by decide) (by simp [Try.f36]) (by simp) fun ver => ?_
  simp only [Try.f36, G0]
  simp
  refine aloop (α := Nat) (fun i => ⟨envOf [(0, trmsAV c (mtrms k n)), (1, .v (.int .i64 (k + ((7 * i : Nat) : Int)))), (5, .v (.int .i64 i))], ⟨[], noArrs ver⟩⟩)
    (fun i => i ≤ n) (fun i => n - i) 0 (less_envOf (by simp) rfl fun _ => rfl) (by simp) ?_
  intro i hi
  by_cases hlt : i < n
  · have hw := wrapS hlt hl
    have b : ∀ m : Int, 0 ≤ m → m ≤ 1099511627786 → IntKind.i64.wrap (m + 1) = m + 1 := fun m _ _ => IntWalk.i64_in _ (by omega)
    obtain ⟨m, hm⟩ : ∃ m : Int, m = k + ((7 * i : Nat) : Int) := ⟨_, rfl⟩
    have hg := mtrms_get (k := k) hlt
    rw [← hm] at hg ⊢
    have hgi : ∀ h : i < (mtrms k n).length, (mtrms k n)[i]'h = mkTrm m := fun h => by
      rw [List.getElem?_eq_getElem h] at hg
      exact Option.some.inj hg
    have hb0 := b m (by omega) (by omega)
    have hb1 : IntKind.i64.wrap (m + 1 + 1) = m + 2 := by rw [b _ (by omega) (by omega)]; omega
    have hb2 : IntKind.i64.wrap (m + 2 + 1) = m + 3 := by rw [b _ (by omega) (by omega)]; omega
    have hb3 : IntKind.i64.wrap (m + 3 + 1) = m + 4 := by rw [b _ (by omega) (by omega)]; omega
    have hb4 : IntKind.i64.wrap (m + 4 + 1) = m + 5 := by rw [b _ (by omega) (by omega)]; omega
    have hb5 : IntKind.i64.wrap (m + 5 + 1) = m + 6 := by rw [b _ (by omega) (by omega)]; omega
    have hb6 : IntKind.i64.wrap (m + 6 + 1) = m + 7 := by rw [b _ (by omega) (by omega)]; omega
    simp [hlt]
    refine adraw_all (by kernel_rfl) ?_
    simp [hlt, hgi]
    refine call_p (p_markText _ (by omega)) (by simp) ?_
    simp [hlt, hgi, mkTrm, hb0, hb1, hb2, hb3, hb4, hb5, hb6]
    exact ⟨i + 1, less_envOf (by simp [hw, hm]; omega) rfl fun _ => rfl, by omega, by omega⟩
  · have e : i = n := by omega
    subst e
    simp

end Go.Proofs.Ytokhnmchnfkiiaa.Am
