import Derived.Test.YtokhnmchnfkiiaaDoorAmCg1
/- Packages in catalogs: found, given, faults. No conditions. -/
namespace Go.Proofs.YtokhnmchnfkiiaaDoor.Am
open Go Go.RowKit Go.Proofs
set_option linter.unusedSimpArgs false
set_option linter.unusedVariables false

theorem cmpF_zero {a b c x y z : Int} : cmpF a b c x y z = 0 ↔ a = x ∧ b = y ∧ c = z := by
  unfold cmpF signF
  repeat' split
  all_goals omega
theorem cmpF_anti {a b c x y z : Int} : cmpF a b c x y z ≤ 0 ↔ 0 ≤ cmpF x y z a b c := by
  unfold cmpF signF
  repeat' split
  all_goals omega
theorem cmpF_neg {a b c x y z : Int} : cmpF a b c x y z < 0 ↔ 0 < cmpF x y z a b c := by
  unfold cmpF signF
  repeat' split
  all_goals omega

def isPk (n : ByteArray) (v : Ver) (p : Pk) : Bool := decide (p.n = n) && decide (p.v.a = v.a ∧ p.v.b = v.b ∧ p.v.c = v.c)
def inTF (t : Trm) (n : ByteArray) (v : Ver) : Bool := decide (t.n = n) && decide (0 ≤ cmpF v.a v.b v.c t.lo.a t.lo.b t.lo.c) && decide (cmpF v.a v.b v.c t.hi.a t.hi.b t.hi.c < 0)
def givesF (p : Pk) (t : Trm) : Bool := (decide (t.n = p.n) || memB t.n p.pr) && inTF t t.n p.v
def givesOneF (l : List Trm) (p : Pk) : Bool := l.any (givesF p)

theorem q_findc (d : Bool) (p : Pk) (n : ByteArray) (v : Ver) : BCall Tryd.prog 133 [p.av d, .box 0 0, .box 1 0] [[.v (.string n)], [.v (.int .i64 v.a), .v (.int .i64 v.b), .v (.int .i64 v.c)]] (.v (.bool (isPk n v p))) := by
  refine bcode Tryd.func133 rfl (by decide) (by simp [Tryd.f133]) (by simp) fun ver => ?_
  simp only [Tryd.f133, Gb]
  by_cases h : p.n = n <;> simp [h, isPk]

theorem q_find (c d : Bool) (l : List Pk) (hl : l.length ≤ 4611686018427387904) (n : ByteArray) (v : Ver) : Pure Tryd.prog 113 [pksAV c d l, .v (.string n), v.av] (.v (.int .i64 (idxQ (isPk n v) l 0))) := by
  refine pure_of_code (G := (G0)) vers0 mixed0 Tryd.func113 rfl (by decide) (by simp [Tryd.f113]) (by simp) fun ver => ?_
  simp only [Tryd.f113, G0]
  simp
  refine call_b (xb_pks c d l hl 133 [] [.box 0 0, .box 1 0] [[.v (.string n)], [.v (.int .i64 v.a), .v (.int .i64 v.b), .v (.int .i64 v.c)]] (isPk n v) (fun _ => rfl) (fun _ => rfl) (fun _ => rfl) fun a _ => q_findc d a n v) rfl ?_
  simp

theorem p_find (c d : Bool) (l : List Pk) (hl : l.length ≤ 4611686018427387904) (n : ByteArray) (v : Ver) : Pure Tryd.prog 111 [pksAV c d l, .v (.string n), v.av] (.v (.int .i64 (idxQ (isPk n v) l 0))) := by
  refine pure_of_code (G := (G0)) vers0 mixed0 Tryd.func111 rfl (by decide) (by simp [Tryd.f111]) (by simp) fun ver => ?_
  simp only [Tryd.f111, G0]
  simp
  refine aloop (α := Nat) (fun k => ⟨envOf [(0, pksAV c d l), (1, .v (.string n)), (5, .box 0 0), (7, .v (.int .i64 k))], ⟨[[.v (.int .i64 v.a), .v (.int .i64 v.b), .v (.int .i64 v.c)]], noArrs ver⟩⟩)
    (fun k => k ≤ l.length ∧ idxQ (isPk n v) (l.drop k) k = idxQ (isPk n v) l 0) (fun k => l.length - k) 0 (less_envOf (by simp) rfl fun _ => rfl) (by simp) ?_
  rintro k ⟨hk, hm⟩
  by_cases hlt : k < l.length
  · have hw := wrapS hlt hl
    rw [drop_get hlt, idxQ] at hm
    simp [hlt]
    refine adraw_all (by kernel_rfl) ?_
    simp [hlt]
    by_cases hn : l[k].n = n
    · simp [hn, hlt]
      refine call_p (p_compareVersions _ _ _ _ _ _) (by simp) ?_
      simp (config := { contextual := true }) [cmpF_zero, -Int.not_lt, -Int.not_le]
      refine And.intro (fun a b c => ?_) (fun h => ?_)
      · simpa [isPk, hn, a, b, c] using hm
      · refine ⟨k + 1, less_envOf (by simp [hw]) rfl fun _ => rfl, ⟨by omega, ?_⟩, by omega⟩
        have : isPk n v l[k] = false := by simp only [isPk, hn, decide_true, Bool.true_and, decide_eq_false_iff_not]; rintro ⟨a, b, c⟩; exact h a b c
        simpa [this] using hm
    · simp [hn, hlt]
      have : isPk n v l[k] = false := by simp [isPk, hn]
      refine ⟨k + 1, less_envOf (by simp [hw]) rfl fun _ => rfl, ⟨by omega, by simpa [this] using hm⟩, by omega⟩
  · rw [List.drop_eq_nil_of_le (by omega)] at hm
    simp [hlt]
    exact hm

theorem q_has (t : Trm) (n : ByteArray) (v : Ver) : Pure Tryd.prog 70 [t.av, .v (.string n), v.av] (.v (.bool (inTF t n v))) := by
  refine pure_of_code (G := G0) vers0 mixed0 Tryd.func70 rfl (by decide) (by simp [Tryd.f70]) (by simp) fun ver => ?_
  simp only [Tryd.f70, G0]
  repeat' first
    | with_reducible refine And.intro ?_ ?_
    | with_reducible intro _
    | (first | with_reducible refine adraw_f 2 (by decide +kernel) ?_ | with_reducible refine adraw_f 3 (by decide +kernel) ?_ | with_reducible refine adraw_f 4 (by decide +kernel) ?_ | with_reducible refine adraw_f 5 (by decide +kernel) ?_ | with_reducible refine adraw_f 6 (by decide +kernel) ?_ | with_reducible refine adraw_f 7 (by decide +kernel) ?_ | with_reducible refine adraw_f 8 (by decide +kernel) ?_ | with_reducible refine adraw_f 9 (by decide +kernel) ?_ | with_reducible refine adraw_f 10 (by decide +kernel) ?_ | with_reducible refine adraw_f 11 (by decide +kernel) ?_ | with_reducible refine adraw_cut 0 (by decide +kernel) ?_ | with_reducible refine adraw_cut 1 (by decide +kernel) ?_ | with_reducible refine adraw_cut 2 (by decide +kernel) ?_ | with_reducible refine adraw_cut 3 (by decide +kernel) ?_ | with_reducible refine adraw_cut 4 (by decide +kernel) ?_ | with_reducible refine adraw_cut 5 (by decide +kernel) ?_ | with_reducible refine adraw_cut 6 (by decide +kernel) ?_ | with_reducible refine adraw_cut 7 (by decide +kernel) ?_ | with_reducible refine adraw_cut 8 (by decide +kernel) ?_ | with_reducible refine adraw_cut 9 (by decide +kernel) ?_ | with_reducible refine adraw_all (by kernel_rfl) ?_)
    | with_reducible refine call_p (p_compare _ _ _ _ _ _) (by simp) ?_
    | with_reducible refine call_f (p_compare _ _ _ _ _ _) (by simp) ?_
    | simp (config := { contextual := true, maxSteps := 4000000 }) [*, inTF, cmpF_anti, -Int.not_le, -Int.not_lt]
  all_goals simp_all [inTF, cmpF_anti]

end Go.Proofs.YtokhnmchnfkiiaaDoor.Am

/- Packages: their faults, as the reference and the program find them; catalogs. No conditions. -/
namespace Go.Proofs.YtokhnmchnfkiiaaDoor.Am
open Go Go.RowKit Go.Proofs
set_option linter.unusedSimpArgs false
set_option linter.unusedVariables false

/-- The bounds that a right package keeps. -/
@[reducible] def Pk.Ok (p : Pk) : Prop := p.pr.length ≤ 4 ∧ p.ne.length ≤ 4 ∧ p.ba.length ≤ 4 ∧ ∀ q ∈ p.ne, q.length ≤ 4
theorem manyC_ok : ∀ {l : List (List Trm)}, manyC l = false → ∀ q ∈ l, q.length ≤ 4
  | [], _, q, h => by cases h
  | c :: l, h, q, hq => by
    simp only [manyC, Bool.or_eq_false_iff, decide_eq_false_iff_not] at h
    rcases List.mem_cons.1 hq with rfl | hq
    · omega
    · exact manyC_ok h.2 q hq
theorem packF_ok {p : Pk} (h : packF p = 0) : p.Ok := by
  unfold packF at h
  split at h
  · rename_i h1; exact (h1 h).elim
  split at h
  · rename_i h1; exact (h1 h).elim
  split at h
  · cases h
  split at h
  · cases h
  split at h
  · cases h
  rename_i h1 h2
  have h3 : manyC p.ne = false := by simpa using h2
  exact ⟨by omega, by omega, by omega, manyC_ok h3⟩

theorem q_many (c : Bool) (l : List Trm) : Pure Tryd.prog 129 [trmsAV c l] (.v (.bool (decide (4 < l.length)))) := by
  refine pure_of_code (G := (G0)) vers0 mixed0 Tryd.func129 rfl (by decide) (by simp [Tryd.f129]) (by simp) fun ver => ?_
  simp only [Tryd.f129, G0]
  simp
  omega

theorem any_many (l : List (List Trm)) : (l.any fun q => decide (4 < q.length)) = manyC l := by
  induction l with
  | nil => rfl
  | cons a l ih => simp [manyC, ih]

theorem prF_app {n : ByteArray} {l : List ByteArray} {k : Nat} (h : k < l.length) : prF n (l.take k) (l.drop k) = if nameFault l[k] ≠ 0 then nameFault l[k] else if l[k] = n ∨ memB l[k] (l.take k) = true then 6 else prF n (l.take (k + 1)) (l.drop (k + 1)) := by
  rw [drop_get h, prF, List.take_add_one, List.getElem?_eq_getElem h]
  rfl

/-- What is known of a package's fault behind the first tests. -/
structure PackRest (p : Pk) : Prop where
  many : 4 < p.pr.length ∨ 4 < p.ne.length ∨ 4 < p.ba.length ∨ manyC p.ne = true → packF p = 2
  rest : p.pr.length ≤ 4 → p.ne.length ≤ 4 → p.ba.length ≤ 4 → manyC p.ne = false → packF p = if prF p.n [] p.pr ≠ 0 then prF p.n [] p.pr else if clsF p.ne ≠ 0 then clsF p.ne else trmsF p.ba
theorem packRest {p : Pk} (h1 : nameFault p.n = 0) (h2 : versionFault p.v.a p.v.b p.v.c = 0) (h3 : inF p.s 1 200 = true) : PackRest p := by
  refine ⟨fun h => ?_, fun a b c h => ?_⟩
  · unfold packF verF
    rw [if_neg (by simp [h1]), if_neg (by simp [h2]), if_neg (by simp [h3])]
    by_cases h4 : 4 < p.pr.length ∨ 4 < p.ne.length ∨ 4 < p.ba.length
    · rw [if_pos h4]
    · rw [if_neg h4, if_pos]
      rcases h with h | h | h | h
      · exact (h4 (.inl h)).elim
      · exact (h4 (.inr (.inl h))).elim
      · exact (h4 (.inr (.inr h))).elim
      · exact h
  · unfold packF verF
    rw [if_neg (by simp [h1]), if_neg (by simp [h2]), if_neg (by simp [h3]), if_neg (by omega), if_neg (by simp [h])]

set_option maxHeartbeats 4000000 in
set_option maxRecDepth 10000 in
theorem p_pack (d : Bool) (p : Pk) (hp : p.Len) : Pure Tryd.prog 110 [p.av d] (.v (.int .i64 (packF p))) := by
  obtain ⟨b1, b2, b3, b4⟩ := hp
  refine pure_of_code (G := (G0)) vers0 mixed0 Tryd.func110 rfl (by decide) (by simp [Tryd.f110]) (by simp) fun ver => ?_
  simp only [Tryd.f110, G0]
  simp (config := { maxSteps := 4000000 })
  refine call_p (p_nameFault _) (by simp) ?_
  simp (config := { contextual := true, maxSteps := 4000000 }) [-Int.not_lt, -Int.not_le]
  refine And.intro (fun h => ?_) (fun h1 => ?_)
  · simp [packF, h]
  refine call_p (p_versionFault _ _ _) (by simp) ?_
  simp (config := { contextual := true, maxSteps := 4000000 }) [-Int.not_lt, -Int.not_le]
  refine And.intro (fun h => ?_) (fun h2 => ?_)
  · simp [packF, h1, verF, h]
  refine call_p (p_in _ _ _) (by simp) ?_
  simp (config := { contextual := true, maxSteps := 4000000 }) [-Int.not_lt, -Int.not_le]
  refine And.intro (fun h => ?_) (fun h3 => ?_)
  · simp [packF, h1, verF, h2, h]
  obtain ⟨hM, hR⟩ := packRest h1 h2 (by simpa using h3)
  by_cases hb : p.pr.length ≤ 4 ∧ p.ne.length ≤ 4 ∧ p.ba.length ≤ 4
  · obtain ⟨c1, c2, c3⟩ := hb
    simp [show ¬ (4 : Int) < p.pr.length by omega, show ¬ (4 : Int) < p.ne.length by omega, show ¬ (4 : Int) < p.ba.length by omega]
    refine aloop (α := Nat) (fun k => ⟨envOf [(1, .box 0 0), (5, .v (.int .i64 k))], ⟨[p.cells d], noArrs ver⟩⟩)
      (fun k => k ≤ p.ne.length ∧ manyC (p.ne.drop k) = manyC p.ne) (fun k => p.ne.length - k) 0 (less_envOf (by simp) rfl fun _ => rfl) (by simp) ?_
    rintro k ⟨hk, hm⟩
    by_cases hlt : k < p.ne.length
    · have hw := wrapS hlt b2
      rw [drop_get hlt, manyC] at hm
      simp (config := { contextual := true, maxSteps := 4000000 }) [hlt, -Int.not_lt, -Int.not_le]
      refine And.intro (fun h => ?_) (fun h => ?_)
      · exact (hM (.inr (.inr (.inr (by rw [← hm]; simp [show 4 < (p.ne[k]).length by omega]))))).symm
      · refine ⟨k + 1, less_envOf (by simp [hw]) rfl fun _ => rfl, ⟨by omega, by simpa [show ¬ 4 < (p.ne[k]).length by omega] using hm⟩, by omega⟩
    rw [List.drop_eq_nil_of_le (by omega)] at hm
    have hR := hR c1 c2 c3 hm.symm
    simp [hlt]
    refine aloop (α := Nat) (fun k => ⟨envOf [(1, .box 0 0), (6, .v (.int .i64 k))], ⟨[p.cells d], noArrs ver⟩⟩)
      (fun k => k ≤ p.pr.length ∧ prF p.n (p.pr.take k) (p.pr.drop k) = prF p.n [] p.pr) (fun k => p.pr.length - k) 0 (less_envOf (by simp) rfl fun _ => rfl) (by simp) ?_
    rintro k ⟨hk, hm⟩
    by_cases hlt : k < p.pr.length
    · have hw := wrapS hlt b1
      rw [prF_app hlt] at hm
      simp [hlt]
      refine call_p (p_nameFault _) (by simp) ?_
      simp (config := { contextual := true, maxSteps := 4000000 }) [-Int.not_lt, -Int.not_le]
      refine And.intro (fun h => ?_) (fun h => ?_)
      · have e : prF p.n [] p.pr = nameFault p.pr[k] := by rw [← hm, if_pos h]
        rw [hR, if_pos (by rw [e]; exact h), e]
      rw [if_neg (by simp [h])] at hm
      refine adraw_all (by kernel_rfl) ?_
      by_cases hn : p.pr[k] = p.n
      · have e : prF p.n [] p.pr = 6 := by rw [← hm, if_pos (.inl hn)]
        simp [hlt, hn]
        rw [hR, if_pos (by rw [e]; decide), e]
      · simp [hlt, hn, show (k : Int) ≤ p.pr.length by omega, Nat.le_of_lt hlt]
        simp only [← List.map_take]
        refine call_p (p_holds d (p.pr.take k) (by simp; omega) _) (by simp [-List.map_take]) ?_
        cases hh : memB p.pr[k] (p.pr.take k) with
        | true =>
          have e : prF p.n [] p.pr = 6 := by rw [← hm, if_pos (.inr hh)]
          simp
          rw [hR, if_pos (by rw [e]; decide), e]
        | false =>
          simp
          refine ⟨k + 1, less_envOf (by simp [hw]) rfl fun _ => rfl, ⟨by omega, by rw [← hm, if_neg (by simp [hn, hh])]⟩, by omega⟩
    rw [List.drop_eq_nil_of_le (by omega)] at hm
    rw [← hm, prF] at hR
    simp at hR
    simp [hlt]
    refine aloop (α := Nat) (fun k => ⟨envOf [(1, .box 0 0), (8, .v (.int .i64 k))], ⟨[p.cells d], noArrs ver⟩⟩)
      (fun k => k ≤ p.ne.length ∧ clsF (p.ne.drop k) = clsF p.ne) (fun k => p.ne.length - k) 0 (less_envOf (by simp) rfl fun _ => rfl) (by simp) ?_
    rintro k ⟨hk, hm⟩
    by_cases hlt : k < p.ne.length
    · have hw := wrapS hlt b2
      rw [drop_get hlt, clsF] at hm
      have hmem : p.ne[k] ∈ p.ne := List.getElem_mem hlt
      by_cases hz : (p.ne[k]).length = 0
      · rw [if_pos hz] at hm
        have hz2 : p.ne[k] = [] := List.length_eq_zero_iff.1 hz
        simp [hlt, hz2]
        rw [hR, ← hm]
        rfl
      · rw [if_neg hz] at hm
        have hz2 : ¬ p.ne[k] = [] := fun e => hz (by rw [e]; rfl)
        simp [hlt, hz2]
        refine call_p (p_trms d p.ne[k] (b3 _ hmem)) (by simp) ?_
        simp (config := { contextual := true, maxSteps := 4000000 }) [-Int.not_lt, -Int.not_le]
        refine And.intro (fun h => ?_) (fun h => ?_)
        · rw [if_pos h] at hm
          rw [hR, ← hm, if_neg h]
        · refine ⟨k + 1, less_envOf (by simp [hw]) rfl fun _ => rfl, ⟨by omega, by simpa [h] using hm⟩, by omega⟩
    rw [List.drop_eq_nil_of_le (by omega), clsF] at hm
    simp [hlt]
    refine call_p (p_trms d p.ba b4) (by simp) ?_
    simp [hR, ← hm]
  · have e2 := hM (by omega)
    repeat' first
      | with_reducible refine And.intro ?_ ?_
      | with_reducible intro _
    all_goals first
      | exact e2.symm
      | (exfalso; omega)

end Go.Proofs.YtokhnmchnfkiiaaDoor.Am

/- Packages: their faults, as the program finds them. No conditions. -/
namespace Go.Proofs.YtokhnmchnfkiiaaDoor.Am
open Go Go.RowKit Go.Proofs
set_option linter.unusedSimpArgs false
set_option linter.unusedVariables false

theorem orF_two (a b : Int) : orF [a, b] = if a ≠ 0 then a else b := by
  simp only [orF]
  split
  · rfl
  · split
    · rfl
    · rename_i h; simp only [ne_eq, Decidable.not_not] at h; exact h.symm
theorem packF_or {p : Pk} (h : ¬ orF [nameFault p.n, versionFault p.v.a p.v.b p.v.c] = 0) : packF p = orF [nameFault p.n, versionFault p.v.a p.v.b p.v.c] := by
  rw [orF_two] at h ⊢
  unfold packF verF
  split
  · rfl
  · rename_i h1
    rw [if_neg h1] at h
    rw [if_pos h]

set_option maxHeartbeats 4000000 in
set_option maxRecDepth 10000 in
theorem q_pack (d : Bool) (p : Pk) (hp : p.Len) : Pure Tryd.prog 112 [p.av d] (.v (.int .i64 (packF p))) := by
  obtain ⟨b1, b2, b3, b4⟩ := hp
  refine pure_of_code (G := (G0)) vers0 mixed0 Tryd.func112 rfl (by decide) (by simp [Tryd.f112]) (by simp) fun ver => ?_
  simp only [Tryd.f112, G0]
  simp (config := { maxSteps := 4000000 })
  refine adraw_all (by kernel_rfl) ?_
  simp
  refine call_p (q_nameFault _) (by simp) ?_
  simp
  refine call_p (q_versionFault _ _ _) (by simp) ?_
  simp [sealRows, sealCells, List.range_succ]
  refine call_p (q_first false [nameFault p.n, versionFault p.v.a p.v.b p.v.c] (by simp)) (by simp) ?_
  simp (config := { contextual := true, maxSteps := 4000000 }) [-Int.not_lt, -Int.not_le]
  refine And.intro (fun h => ?_) (fun h0 => ?_)
  · exact (packF_or h).symm
  have h12 : nameFault p.n = 0 ∧ versionFault p.v.a p.v.b p.v.c = 0 := by
    rw [orF_two] at h0
    by_cases e : nameFault p.n = 0
    · rw [if_neg (by simp [e])] at h0; exact ⟨e, h0⟩
    · rw [if_pos e] at h0; exact (e h0).elim
  obtain ⟨h1, h2⟩ := h12
  refine call_p (p_within _ _ _) (by simp) ?_
  simp (config := { contextual := true, maxSteps := 4000000 }) [-Int.not_lt, -Int.not_le]
  refine And.intro (fun h => ?_) (fun h3 => ?_)
  · simp [packF, h1, verF, h2, h]
  obtain ⟨hM, hR⟩ := packRest h1 h2 (by simpa using h3)
  by_cases hb : p.pr.length ≤ 4 ∧ p.ne.length ≤ 4 ∧ p.ba.length ≤ 4
  · obtain ⟨c1, c2, c3⟩ := hb
    simp [show ¬ (4 : Int) < p.pr.length by omega, show ¬ (4 : Int) < p.ne.length by omega, show ¬ (4 : Int) < p.ba.length by omega]
    refine call_p (cp_cls d d p.ne b2 129 [] [] (fun q => decide (4 < q.length)) (fun _ => rfl) (fun _ => rfl) (by simp) (by simp) (fun a _ => q_many d a)) (by simp) ?_
    rw [any_many]
    simp (config := { contextual := true, maxSteps := 4000000 }) [-Int.not_lt, -Int.not_le]
    refine And.intro (fun h => ?_) (fun hmany => ?_)
    · exact (hM (.inr (.inr (.inr h)))).symm
    have hR := hR c1 c2 c3 hmany
    refine aloop (α := Nat) (fun k => ⟨envOf [(1, .box 0 0), (49, strsAV d p.pr), (50, .v (.int .i64 p.pr.length)), (51, .v (.int .i64 k))], ⟨[p.cells d], noArrs ver⟩⟩)
      (fun k => k ≤ p.pr.length ∧ prF p.n (p.pr.take k) (p.pr.drop k) = prF p.n [] p.pr) (fun k => p.pr.length - k) 0 (less_envOf (by simp) rfl fun _ => rfl) (by simp) ?_
    rintro k ⟨hk, hm⟩
    by_cases hlt : k < p.pr.length
    · have hw := wrapS hlt b1
      rw [prF_app hlt] at hm
      simp [hlt]
      refine call_p (q_nameFault _) (by simp) ?_
      simp (config := { contextual := true, maxSteps := 4000000 }) [-Int.not_lt, -Int.not_le]
      refine And.intro (fun h => ?_) (fun h => ?_)
      · have e : prF p.n [] p.pr = nameFault p.pr[k] := by rw [← hm, if_pos h]
        rw [hR, if_pos (by rw [e]; exact h), e]
      rw [if_neg (by simp [h])] at hm
      by_cases hn : p.pr[k] = p.n
      · have e : prF p.n [] p.pr = 6 := by rw [← hm, if_pos (.inl hn)]
        simp [hlt, hn]
        rw [hR, if_pos (by rw [e]; decide), e]
      · simp [hlt, hn, show (k : Int) ≤ p.pr.length by omega, Nat.le_of_lt hlt]
        simp only [← List.map_take]
        refine call_p (q_contains d (p.pr.take k) (by simp; omega) _) (by simp [-List.map_take]) ?_
        cases hh : memB p.pr[k] (p.pr.take k) with
        | true =>
          have e : prF p.n [] p.pr = 6 := by rw [← hm, if_pos (.inr hh)]
          simp
          rw [hR, if_pos (by rw [e]; decide), e]
        | false =>
          simp
          refine ⟨k + 1, less_envOf (by simp [hw]) rfl fun _ => rfl, ⟨by omega, by rw [← hm, if_neg (by simp [hn, hh])]⟩, by omega⟩
    rw [List.drop_eq_nil_of_le (by omega)] at hm
    rw [← hm, prF] at hR
    simp at hR
    simp [hlt]
    refine aloop (α := Nat) (fun k => ⟨envOf [(1, .box 0 0), (75, clausesAV d p.ne), (76, .v (.int .i64 p.ne.length)), (77, .v (.int .i64 k))], ⟨[p.cells d], noArrs ver⟩⟩)
      (fun k => k ≤ p.ne.length ∧ clsF (p.ne.drop k) = clsF p.ne) (fun k => p.ne.length - k) 0 (less_envOf (by simp) rfl fun _ => rfl) (by simp) ?_
    rintro k ⟨hk, hm⟩
    by_cases hlt : k < p.ne.length
    · have hw := wrapS hlt b2
      rw [drop_get hlt, clsF] at hm
      have hmem : p.ne[k] ∈ p.ne := List.getElem_mem hlt
      by_cases hz : (p.ne[k]).length = 0
      · rw [if_pos hz] at hm
        have hz2 : p.ne[k] = [] := List.length_eq_zero_iff.1 hz
        simp [hlt, hz2]
        rw [hR, ← hm]
        rfl
      · rw [if_neg hz] at hm
        have hz2 : ¬ p.ne[k] = [] := fun e => hz (by rw [e]; rfl)
        simp [hlt, hz2]
        refine call_p (q_trms d p.ne[k] (b3 _ hmem)) (by simp) ?_
        simp (config := { contextual := true, maxSteps := 4000000 }) [-Int.not_lt, -Int.not_le]
        refine And.intro (fun h => ?_) (fun h => ?_)
        · rw [if_pos h] at hm
          rw [hR, ← hm, if_neg h]
        · refine ⟨k + 1, less_envOf (by simp [hw]) rfl fun _ => rfl, ⟨by omega, by simpa [h] using hm⟩, by omega⟩
    rw [List.drop_eq_nil_of_le (by omega), clsF] at hm
    simp [hlt]
    refine call_p (q_trms d p.ba b4) (by simp) ?_
    simp [hR, ← hm]
  · have e2 := hM (by omega)
    have hq := fun hh1 hh2 => cp_cls d d p.ne b2 129 [] [] (fun q => decide (4 < q.length)) hh1 hh2 (by simp) (by simp) (fun a _ => q_many d a)
    repeat' first
      | with_reducible refine And.intro ?_ ?_
      | with_reducible intro _
    all_goals first
      | exact e2.symm
      | (exfalso; omega)

end Go.Proofs.YtokhnmchnfkiiaaDoor.Am

/- What packages give; catalogs' faults. No conditions. -/
namespace Go.Proofs.YtokhnmchnfkiiaaDoor.Am
open Go Go.RowKit Go.Proofs
set_option linter.unusedSimpArgs false
set_option linter.unusedVariables false

theorem sealCells_free : ∀ {cs : List AV} (m : Mem), (∀ c ∈ cs, AV.Free (fun _ => True) c) → sealCells cs m = (cs, m)
  | [], m, _ => rfl
  | c :: cs, m, h => by
    have h1 := h c (by simp)
    have h2 := sealCells_free (cs := cs) m fun a ha => h a (by simp [ha])
    cases h1 <;> simp [sealCells, h2]
theorem sealRows_free : ∀ {es : List (List AV)} (m : Mem), (∀ e ∈ es, ∀ c ∈ e, AV.Free (fun _ => True) c) → sealRows es m = (es, m)
  | [], m, _ => rfl
  | e :: es, m, h => by
    simp only [sealRows]
    rw [sealCells_free m (h e (by simp))]
    simp only
    rw [sealRows_free m fun a ha => h a (by simp [ha])]
@[simp] theorem seal_strs (l : List ByteArray) (m : Mem) : sealRows (l.map strCells) m = (l.map strCells, m) := sealRows_free m (fr_str l)
@[simp] theorem seal_ints (l : List Int) (m : Mem) : sealRows (l.map intCells) m = (l.map intCells, m) := sealRows_free m (fr_int l)
@[simp] theorem seal_bytes (l : List Int) (m : Mem) : sealRows (l.map byteCells) m = (l.map byteCells, m) := sealRows_free m (fr_byte l)
@[simp] theorem seal_trms (l : List Trm) (m : Mem) : sealRows (l.map Trm.cells) m = (l.map Trm.cells, m) := sealRows_free m (fr_trm l)
@[simp] theorem seal_cls (k : Bool) (l : List (List Trm)) (m : Mem) : sealRows (l.map (clauseCells k)) m = (l.map (clauseCells k), m) := sealRows_free m (fr_clause trivial l)
@[simp] theorem seal_pks (k : Bool) (l : List Pk) (m : Mem) : sealRows (l.map (Pk.cells k)) m = (l.map (Pk.cells k), m) := sealRows_free m (fr_pk trivial l)

/-- As G0, with one slot whose new slice is the call's own. -/
noncomputable def Go1 (t0 : Nat) : Cfg := ⟨Tryd.prog, fun t => t == t0, fun t => t == 25, fun _ => true, 0⟩
theorem verso (t0 : Nat) : (Go1 t0).Vers := fun t h => vers0 t h

theorem any_in (t : Trm) (v : Ver) : ∀ l : List ByteArray, (l.any fun n => inTF t n v) = (memB t.n l && inTF t t.n v)
  | [] => rfl
  | s :: l => by
    simp only [List.any_cons, any_in t v l, memB]
    by_cases h : s = t.n
    · subst h
      cases memB t.n l <;> simp [inTF]
    · have h2 : inTF t s v = false := by simp [inTF, Ne.symm h]
      simp [h, h2]

def catR : List Pk → List Pk → Int
  | _, [] => 0
  | seen, p :: l => if packF p ≠ 0 then packF p else if 0 ≤ idxQ (isPk p.n p.v) seen 0 then 6 else catR (seen ++ [p]) l
def catF (l : List Pk) : Int := if 24 < l.length then 2 else catR [] l
theorem catR_app {l : List Pk} {k : Nat} (h : k < l.length) : catR (l.take k) (l.drop k) = if packF l[k] ≠ 0 then packF l[k] else if 0 ≤ idxQ (isPk l[k].n l[k].v) (l.take k) 0 then 6 else catR (l.take (k + 1)) (l.drop (k + 1)) := by
  rw [drop_get h, catR, List.take_add_one, List.getElem?_eq_getElem h]
  rfl
theorem catR_ok : ∀ {l seen : List Pk}, catR seen l = 0 → ∀ p ∈ l, packF p = 0
  | [], _, _, p, hp => by cases hp
  | a :: l, seen, h, p, hp => by
    unfold catR at h
    split at h
    · rename_i h1; exact (h1 h).elim
    · rename_i h1
      split at h
      · cases h
      · rcases List.mem_cons.1 hp with rfl | hp
        · simpa using h1
        · exact catR_ok h p hp
theorem catF_ok {l : List Pk} (h : catF l = 0) : l.length ≤ 24 ∧ ∀ p ∈ l, packF p = 0 := by
  unfold catF at h
  split at h
  · cases h
  · exact ⟨by omega, catR_ok h⟩

set_option maxHeartbeats 4000000 in
theorem p_cat (c d : Bool) (l : List Pk) (hl : l.length ≤ 4611686018427387904) (hb : ∀ p ∈ l, p.Len) : Pure Tryd.prog 78 [pksAV c d l] (.v (.int .i64 (catF l))) := by
  refine pure_of_code (G := (G0)) vers0 mixed0 Tryd.func78 rfl (by decide) (by simp [Tryd.f78]) (by simp) fun ver => ?_
  simp only [Tryd.f78, G0]
  by_cases h24 : 24 < l.length
  · simp [catF, h24, show (24 : Int) < l.length by omega]
  have e : catF l = catR [] l := by rw [catF, if_neg h24]
  rw [e]
  simp [show ¬ (24 : Int) < l.length by omega]
  refine aloop (α := Nat) (fun k => ⟨envOf [(0, pksAV c d l), (3, .v (.int .i64 k))], ⟨[], noArrs ver⟩⟩)
    (fun k => k ≤ l.length ∧ catR (l.take k) (l.drop k) = catR [] l) (fun k => l.length - k) 0 (less_envOf (by simp) rfl fun _ => rfl) (by simp) ?_
  rintro k ⟨hk, hm⟩
  by_cases hlt : k < l.length
  · have hw := wrapS hlt hl
    rw [catR_app hlt] at hm
    have hmem : l[k] ∈ l := List.getElem_mem hlt
    simp [hlt]
    refine call_p (p_pack d l[k] (hb _ hmem)) (by simp) ?_
    simp (config := { contextual := true, maxSteps := 4000000 }) [-Int.not_lt, -Int.not_le]
    refine And.intro (fun h => ?_) (fun h => ?_)
    · rw [if_pos h] at hm
      exact hm
    rw [if_neg (by simp [h])] at hm
    refine adraw_all (by kernel_rfl) ?_
    simp [hlt, show (k : Int) ≤ l.length by omega, Nat.le_of_lt hlt]
    simp only [← List.map_take]
    refine call_p (p_find c d (l.take k) (by simp; omega) l[k].n l[k].v) (by simp [-List.map_take]) ?_
    simp (config := { contextual := true, maxSteps := 4000000 }) [-Int.not_lt, -Int.not_le]
    refine And.intro (fun h2 => ?_) (fun h2 => ?_)
    · rw [if_pos h2] at hm
      exact hm
    · refine ⟨k + 1, less_envOf (by simp [hw]) rfl fun _ => rfl, ⟨by omega, by rw [← hm, if_neg h2]⟩, by omega⟩
  · rw [List.drop_eq_nil_of_le (by omega), catR] at hm
    simp [hlt]
    exact hm

set_option maxHeartbeats 4000000 in
theorem q_cat (c d : Bool) (l : List Pk) (hl : l.length ≤ 4611686018427387904) (hb : ∀ p ∈ l, p.Len) : Pure Tryd.prog 80 [pksAV c d l] (.v (.int .i64 (catF l))) := by
  refine pure_of_code (G := (G0)) vers0 mixed0 Tryd.func80 rfl (by decide) (by simp [Tryd.f80]) (by simp) fun ver => ?_
  simp only [Tryd.f80, G0]
  by_cases h24 : 24 < l.length
  · simp [catF, h24, show (24 : Int) < l.length by omega]
  have e : catF l = catR [] l := by rw [catF, if_neg h24]
  rw [e]
  simp [show ¬ (24 : Int) < l.length by omega]
  refine aloop (α := Nat × List (List AV)) (fun D => ⟨envOf [(0, pksAV c d l), (9, pksAV c d l), (10, .v (.int .i64 l.length)), (11, .v (.int .i64 D.1))], ⟨D.2, noArrs ver⟩⟩)
    (fun D => D.1 ≤ l.length ∧ catR (l.take D.1) (l.drop D.1) = catR [] l) (fun D => l.length - D.1) (0, []) (less_envOf (by simp) rfl fun _ => rfl) (by simp) ?_
  rintro ⟨k, bs⟩ ⟨hk, hm⟩
  simp only at hk hm ⊢
  by_cases hlt : k < l.length
  · have hw := wrapS hlt hl
    rw [catR_app hlt] at hm
    have hmem : l[k] ∈ l := List.getElem_mem hlt
    simp [hlt]
    refine call_p (q_pack d l[k] (hb _ hmem)) (by simp) ?_
    simp (config := { contextual := true, maxSteps := 4000000 }) [-Int.not_lt, -Int.not_le]
    refine And.intro (fun h => ?_) (fun h => ?_)
    · rw [if_pos h] at hm
      exact hm
    rw [if_neg (by simp [h])] at hm
    refine adraw_all (by kernel_rfl) ?_
    simp [hlt, show (k : Int) ≤ l.length by omega, Nat.le_of_lt hlt]
    simp only [← List.map_take]
    refine call_p (q_find c d (l.take k) (by simp; omega) l[k].n l[k].v) (by simp [-List.map_take]) ?_
    simp (config := { contextual := true, maxSteps := 4000000 }) [-Int.not_lt, -Int.not_le]
    refine And.intro (fun h2 => ?_) (fun h2 => ?_)
    · rw [if_pos h2] at hm
      exact hm
    · refine ⟨k + 1, ⟨_, less_envOf (by simp [hw]) rfl fun _ => rfl⟩, ⟨by omega, by rw [← hm, if_neg h2]⟩, by omega⟩
  · rw [List.drop_eq_nil_of_le (by omega), catR] at hm
    simp [hlt]
    exact hm

end Go.Proofs.YtokhnmchnfkiiaaDoor.Am
