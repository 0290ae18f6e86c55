/- Sets: names twice; what is changed between sets, its cost. No conditions. -/
import Derived.Test.YtokhnmchnfkiiaaGreatAmC10
namespace Go.Proofs.YtokhnmchnfkiiaaGreat.Am
open Go Go.RowKit Go.Proofs
set_option linter.unusedSimpArgs false
set_option linter.unusedVariables false

instance : Inhabited Pk := ⟨⟨.empty, ⟨0, 0, 0⟩, 0, [], [], []⟩⟩
/-- The package at a place. -/
def pkAt (c : List Pk) (k : Int) : Pk := (c[k.toNat]?).getD default
def Places (n : Nat) (s : List Int) : Prop := ∀ k ∈ s, 0 ≤ k ∧ k.toNat < n
theorem pkAt_get {c : List Pk} {k : Int} (h : k.toNat < c.length) : c[k.toNat]? = some (pkAt c k) := by simp [pkAt, h]
theorem pkAt_mem {c : List Pk} {k : Int} (h : k.toNat < c.length) : pkAt c k ∈ c := List.mem_of_getElem? (pkAt_get h)
theorem SetOK.places {n : Nat} {s : List Int} (h : SetOK n s) : Places n s := by
  intro k hk
  obtain ⟨i, hi, rfl⟩ := List.getElem_of_mem hk
  have := (h i hi).1
  rw [getD_at hi] at this
  simp [inF] at this
  omega
theorem setF_ok {c : List Pk} {s : List Int} (h : setF c s = 0) : catF c = 0 ∧ SetOK c.length s := by
  unfold setF at h
  split at h
  · rename_i h1; exact (h1 h).elim
  · rename_i h1
    split at h
    · rename_i h2
      refine ⟨by simpa using h1, ?_⟩
      by_cases hh : SetOK c.length s
      · exact hh
      · rw [setB_false hh] at h2; cases h2
    · cases h
theorem SetOK.lt {n : Nat} {s : List Int} (h : SetOK n s) : ∀ {j i : Nat} (hj : j < i) (hi : i < s.length), s[j] < s[i] := by
  intro j i
  induction i with
  | zero => intro hj; omega
  | succ i ih =>
    intro hj hi
    have h1 := (h (i + 1) hi).2 (by omega)
    rw [getD_at hi, show i + 1 - 1 = i from rfl, getD_at (by omega)] at h1
    by_cases e : j = i
    · subst e; exact h1
    · exact Int.lt_trans (ih (by omega) (by omega)) h1

def oneF (c : List Pk) (n : ByteArray) : List Int → Int
  | [] => -1
  | k :: s => if (pkAt c k).n = n then k else oneF c n s

theorem p_one (a b k : Bool) (c : List Pk) (s : List Int) (hs : s.length ≤ 4611686018427387904) (hp : Places c.length s) (n : ByteArray) : Pure Tryz.prog 170 [pksAV a b c, intsAV k s, .v (.string n)] (.v (.int .i64 (oneF c n s))) := by
  refine pure_of_code (G := (G0)) vers0 mixed0 Tryz.func170 rfl (by decide) (by simp [Tryz.f170]) (by simp) fun ver => ?_
  simp only [Tryz.f170, G0]
  simp
  refine aloop (α := Nat) (fun i => ⟨envOf [(0, pksAV a b c), (1, intsAV k s), (2, .v (.string n)), (7, .v (.int .i64 i))], ⟨[], noArrs ver⟩⟩)
    (fun i => i ≤ s.length ∧ oneF c n (s.drop i) = oneF c n s) (fun i => s.length - i) 0 (less_envOf (by simp) rfl fun _ => rfl) (by simp) ?_
  rintro i ⟨hk, hm⟩
  by_cases hlt : i < s.length
  · have hw := wrapS hlt hs
    rw [drop_get hlt, oneF] at hm
    obtain ⟨q1, q2⟩ := hp _ (List.getElem_mem hlt)
    have hg := pkAt_get q2
    by_cases h : (pkAt c s[i]).n = n
    · simp [hlt, q1, hg, h]
      simpa [h] using hm
    · simp [hlt, q1, hg, h]
      exact ⟨i + 1, less_envOf (by simp [hw]) rfl fun _ => rfl, ⟨by omega, by simpa [h] using hm⟩, by omega⟩
  · rw [List.drop_eq_nil_of_le (by omega)] at hm
    simp [hlt]
    exact hm

theorem q_named (a b k : Bool) (c : List Pk) (s : List Int) (hs : s.length ≤ 4611686018427387904) (hp : Places c.length s) (n : ByteArray) : Pure Tryz.prog 146 [pksAV a b c, intsAV k s, .v (.string n)] (.v (.int .i64 (oneF c n s))) := by
  refine pure_of_code (G := (G0)) vers0 mixed0 Tryz.func146 rfl (by decide) (by simp [Tryz.f146]) (by simp) fun ver => ?_
  simp only [Tryz.f146, G0]
  simp
  refine aloop (α := Nat) (fun i => ⟨envOf [(0, pksAV a b c), (2, .v (.string n)), (9, intsAV k s), (10, .v (.int .i64 s.length)), (11, .v (.int .i64 i))], ⟨[], noArrs ver⟩⟩)
    (fun i => i ≤ s.length ∧ oneF c n (s.drop i) = oneF c n s) (fun i => s.length - i) 0 (less_envOf (by simp) rfl fun _ => rfl) (by simp) ?_
  rintro i ⟨hk, hm⟩
  by_cases hlt : i < s.length
  · have hw := wrapS hlt hs
    rw [drop_get hlt, oneF] at hm
    obtain ⟨q1, q2⟩ := hp _ (List.getElem_mem hlt)
    have hg := pkAt_get q2
    by_cases h : (pkAt c s[i]).n = n
    · simp [hlt, q1, hg, h]
      simpa [h] using hm
    · simp [hlt, q1, hg, h]
      exact ⟨i + 1, less_envOf (by simp [hw]) rfl fun _ => rfl, ⟨by omega, by simpa [h] using hm⟩, by omega⟩
  · rw [List.drop_eq_nil_of_le (by omega)] at hm
    simp [hlt]
    exact hm

def twiceR (c : List Pk) : List Int → List Int → Bool
  | _, [] => false
  | seen, k :: s => decide (0 ≤ oneF c (pkAt c k).n seen) || twiceR c (seen ++ [k]) s
theorem twiceR_app {c : List Pk} {s : List Int} {i : Nat} (h : i < s.length) : twiceR c (s.take i) (s.drop i) = (decide (0 ≤ oneF c (pkAt c s[i]).n (s.take i)) || twiceR c (s.take (i + 1)) (s.drop (i + 1))) := by
  rw [drop_get h, twiceR, List.take_add_one, List.getElem?_eq_getElem h]
  rfl
theorem oneF_app (c : List Pk) (n : ByteArray) (b : List Int) : ∀ a : List Int, (∀ k ∈ a, 0 ≤ k) → oneF c n (a ++ b) = if 0 ≤ oneF c n a then oneF c n a else oneF c n b
  | [], _ => by simp [oneF]
  | k :: a, h => by
    simp only [List.cons_append, oneF]
    split
    · rw [if_pos (h k (by simp))]
    · exact oneF_app c n b a fun x hx => h x (by simp [hx])
theorem oneF_mem (c : List Pk) (n : ByteArray) : ∀ a : List Int, 0 ≤ oneF c n a → oneF c n a ∈ a
  | [], h => by simp [oneF] at h
  | k :: a, h => by
    simp only [oneF] at h ⊢
    split
    · simp
    · rename_i hne
      rw [if_neg hne] at h
      exact List.mem_cons_of_mem _ (oneF_mem c n a h)
theorem apart_iff {c : List Pk} {s : List Int} (h : SetOK c.length s) {i : Nat} (hi : i < s.length) : oneF c (pkAt c s[i]).n s = s[i] ↔ ¬ 0 ≤ oneF c (pkAt c s[i]).n (s.take i) := by
  have hp := h.places
  have e : s = s.take i ++ s[i] :: s.drop (i + 1) := by rw [← drop_get hi, List.take_append_drop]
  have e2 : oneF c (pkAt c s[i]).n s = oneF c (pkAt c s[i]).n (s.take i ++ s[i] :: s.drop (i + 1)) := congrArg _ e
  rw [oneF_app _ _ _ _ (fun k hk => (hp k (List.mem_of_mem_take hk)).1)] at e2
  rw [e2]
  by_cases h0 : 0 ≤ oneF c (pkAt c s[i]).n (s.take i)
  · rw [if_pos h0]
    have hm := oneF_mem c _ _ h0
    obtain ⟨j, hj, he⟩ := List.getElem_of_mem hm
    rw [List.getElem_take] at he
    have hj' : j < i := by simp at hj; omega
    have := h.lt hj' hi
    rw [he] at this
    constructor
    · intro h2; omega
    · intro h2; exact (h2 h0).elim
  · rw [if_neg h0]
    simp [oneF, h0]

theorem p_apart (a b k : Bool) (c : List Pk) (s : List Int) (hs : s.length ≤ 4611686018427387904) (hp : SetOK c.length s) : Pure Tryz.prog 169 [pksAV a b c, intsAV k s] (.v (.bool (!twiceR c [] s))) := by
  refine pure_of_code (G := (G0)) vers0 mixed0 Tryz.func169 rfl (by decide) (by simp [Tryz.f169]) (by simp) fun ver => ?_
  simp only [Tryz.f169, G0]
  simp
  refine aloop (α := Nat) (fun i => ⟨envOf [(0, pksAV a b c), (1, intsAV k s), (5, .v (.int .i64 i))], ⟨[], noArrs ver⟩⟩)
    (fun i => i ≤ s.length ∧ twiceR c (s.take i) (s.drop i) = twiceR c [] s) (fun i => s.length - i) 0 (less_envOf (by simp) rfl fun _ => rfl) (by simp) ?_
  rintro i ⟨hk, hm⟩
  by_cases hlt : i < s.length
  · have hw := wrapS hlt hs
    rw [twiceR_app hlt] at hm
    obtain ⟨q1, q2⟩ := hp.places _ (List.getElem_mem hlt)
    have hg := pkAt_get q2
    have ha := apart_iff hp hlt
    simp [hlt, q1, hg]
    refine adraw_all (by kernel_rfl) ?_
    simp [hlt, q1, hg]
    refine call_p (p_one a b k c s hs hp.places _) (by simp) ?_
    simp [hlt]
    by_cases h : 0 ≤ oneF c (pkAt c s[i]).n (s.take i)
    · have h2 : ¬ oneF c (pkAt c s[i]).n s = s[i] := fun e => ha.1 e h
      simp [h2]
      simpa [h] using hm.symm
    · have h2 := ha.2 h
      simp [h2]
      exact ⟨i + 1, less_envOf (by simp [hw]) rfl fun _ => rfl, ⟨by omega, by simpa [h] using hm⟩, by omega⟩
  · rw [List.drop_eq_nil_of_le (by omega)] at hm
    simp [hlt]
    simpa [twiceR] using hm.symm

theorem q_twice (a b k : Bool) (c : List Pk) (s : List Int) (hs : s.length ≤ 4611686018427387904) (hp : Places c.length s) : Pure Tryz.prog 172 [pksAV a b c, intsAV k s] (.v (.bool (twiceR c [] s))) := by
  refine pure_of_code (G := (G0)) vers0 mixed0 Tryz.func172 rfl (by decide) (by simp [Tryz.f172]) (by simp) fun ver => ?_
  simp only [Tryz.f172, G0]
  simp
  refine aloop (α := Nat) (fun i => ⟨envOf [(0, pksAV a b c), (1, intsAV k s), (7, intsAV k s), (8, .v (.int .i64 s.length)), (9, .v (.int .i64 i))], ⟨[], noArrs ver⟩⟩)
    (fun i => i ≤ s.length ∧ twiceR c (s.take i) (s.drop i) = twiceR c [] s) (fun i => s.length - i) 0 (less_envOf (by simp) rfl fun _ => rfl) (by simp) ?_
  rintro i ⟨hk, hm⟩
  by_cases hlt : i < s.length
  · have hw := wrapS hlt hs
    rw [twiceR_app hlt] at hm
    obtain ⟨q1, q2⟩ := hp _ (List.getElem_mem hlt)
    have hg := pkAt_get q2
    simp [hlt, q1, hg]
    refine adraw_all (by kernel_rfl) ?_
    simp [hlt, q1, hg, show (i : Int) ≤ s.length by omega, Nat.le_of_lt hlt]
    simp only [← List.map_take]
    refine call_p (q_named a b k c (s.take i) (by simp; omega) (fun x hx => hp x (List.mem_of_mem_take hx)) _) (by simp [-List.map_take]) ?_
    by_cases h : 0 ≤ oneF c (pkAt c s[i]).n (s.take i)
    · simp [h]
      simpa [h] using hm
    · simp [h]
      exact ⟨i + 1, less_envOf (by simp [hw]) rfl fun _ => rfl, ⟨by omega, by simpa [h] using hm⟩, by omega⟩
  · rw [List.drop_eq_nil_of_le (by omega)] at hm
    simp [hlt]
    simpa [twiceR] using hm

noncomputable def deltaF (c : List Pk) (f t : List Int) : Int := if setF c f ≠ 0 then setF c f else if setF c t ≠ 0 then setF c t else if twiceR c [] f = true ∨ twiceR c [] t = true then 6 else 0

theorem p_asked (a b k k' : Bool) (c : List Pk) (hc : c.length ≤ 4611686018427387904) (hb : ∀ p ∈ c, p.Len) (f t : List Int) (hf : f.length ≤ 4611686018427387904) (ht : t.length ≤ 4611686018427387904) : Pure Tryz.prog 105 [pksAV a b c, intsAV k f, intsAV k' t] (.v (.int .i64 (deltaF c f t))) := by
  refine pure_of_code (G := (G0)) vers0 mixed0 Tryz.func105 rfl (by decide) (by simp [Tryz.f105]) (by simp) fun ver => ?_
  simp only [Tryz.f105, G0]
  simp
  refine call_p (p_setFault a b k c hc hb f hf) (by simp) ?_
  simp (config := { contextual := true, maxSteps := 4000000 }) [-Int.not_lt, -Int.not_le]
  refine And.intro (fun h => ?_) (fun h1 => ?_)
  · simp [deltaF, h]
  refine call_p (p_setFault a b k' c hc hb t ht) (by simp) ?_
  simp (config := { contextual := true, maxSteps := 4000000 }) [-Int.not_lt, -Int.not_le]
  refine And.intro (fun h => ?_) (fun h2 => ?_)
  · simp [deltaF, h1, h]
  refine call_p (p_apart a b k c f hf (setF_ok h1).2) (by simp) ?_
  cases h3 : twiceR c [] f with
  | true => simp [deltaF, h1, h2, h3]
  | false =>
    simp
    refine call_p (p_apart a b k' c t ht (setF_ok h2).2) (by simp) ?_
    cases h4 : twiceR c [] t <;> simp [deltaF, h1, h2, h3, h4]

theorem q_delta (a b k k' : Bool) (c : List Pk) (hc : c.length ≤ 4611686018427387904) (hb : ∀ p ∈ c, p.Len) (f t : List Int) (hf : f.length ≤ 4611686018427387904) (ht : t.length ≤ 4611686018427387904) : Pure Tryz.prog 107 [pksAV a b c, intsAV k f, intsAV k' t] (.v (.int .i64 (deltaF c f t))) := by
  refine pure_of_code (G := (G0)) vers0 mixed0 Tryz.func107 rfl (by decide) (by simp [Tryz.f107]) (by simp) fun ver => ?_
  simp only [Tryz.f107, G0]
  simp
  refine call_p (q_setFault a b k c hc hb f hf) (by simp) ?_
  simp
  refine call_p (q_setFault a b k' c hc hb t ht) (by simp) ?_
  simp [sealRows, sealCells, List.range_succ]
  refine call_p (q_first false [setF c f, setF c t] (by simp)) (by simp) ?_
  rw [orF_two]
  by_cases h1 : setF c f = 0
  · by_cases h2 : setF c t = 0
    · simp [h1, h2]
      refine call_p (q_twice a b k c f hf (setF_ok h1).2.places) (by simp) ?_
      cases h3 : twiceR c [] f with
      | true => simp [deltaF, h1, h2, h3]
      | false =>
        simp
        refine call_p (q_twice a b k' c t ht (setF_ok h2).2.places) (by simp) ?_
        cases h4 : twiceR c [] t <;> simp [deltaF, h1, h2, h3, h4]
    · simp [h1, h2, deltaF]
  · simp [h1, deltaF]
theorem deltaF_ok {c : List Pk} {f t : List Int} (h : deltaF c f t = 0) : setF c f = 0 ∧ setF c t = 0 := by
  unfold deltaF at h
  split at h
  · rename_i h1; exact (h1 h).elim
  · rename_i h1
    split at h
    · rename_i h2; exact (h2 h).elim
    · rename_i h2; exact ⟨by simpa using h1, by simpa using h2⟩

def memI (x : Int) : List Int → Bool
  | [] => false
  | a :: l => decide (a = x) || memI x l
def idxI (x : Int) : List Int → Int → Int
  | [], _ => -1
  | a :: l, k => if x = a then k else idxI x l (k + 1)
theorem idxI_mem (x : Int) : ∀ (l : List Int) (k : Int), 0 ≤ k → decide (0 ≤ idxI x l k) = memI x l
  | [], k, h => by simp [idxI, memI]
  | s :: l, k, h => by
    unfold idxI memI
    by_cases e : x = s
    · simp [e, h]
    · simp only [if_neg e]
      rw [idxI_mem x l (k + 1) (by omega)]
      simp [Ne.symm e]

theorem p_has (c : Bool) (l : List Int) (hl : l.length ≤ 4611686018427387904) (x : Int) : Pure Tryz.prog 155 [intsAV c l, .v (.int .i64 x)] (.v (.bool (memI x l))) := by
  refine pure_of_code (G := (G0)) vers0 mixed0 Tryz.func155 rfl (by decide) (by simp [Tryz.f155]) (by simp) fun ver => ?_
  simp only [Tryz.f155, G0]
  simp
  refine aloop (α := Nat) (fun k => ⟨envOf [(0, intsAV c l), (1, .v (.int .i64 x)), (5, .v (.int .i64 k))], ⟨[], noArrs ver⟩⟩)
    (fun k => k ≤ l.length ∧ memI x (l.drop k) = memI x l) (fun k => l.length - k) 0 (less_envOf (by simp) rfl fun _ => rfl) (by simp) ?_
  rintro k ⟨hk, hm⟩
  by_cases hlt : k < l.length
  · have hw := wrapS hlt hl
    rw [drop_get hlt, memI] at hm
    simp (config := { contextual := true }) [hlt]
    refine And.intro (fun h => ?_) (fun h => ?_)
    · rw [← hm]; simp [h]
    · refine ⟨k + 1, less_envOf (by simp [hw]) rfl fun _ => rfl, ⟨by omega, by rw [← hm]; simp [h]⟩, by omega⟩
  · rw [List.drop_eq_nil_of_le (by omega)] at hm
    simp [hlt]
    simpa [memI] using hm

theorem q_indexI (c : Bool) (l : List Int) (hl : l.length ≤ 4611686018427387904) (x : Int) : Pure Tryz.prog 206 [intsAV c l, .v (.int .i64 x)] (.v (.int .i64 (idxI x l 0))) := by
  refine pure_of_code (G := (G0)) vers0 mixed0 Tryz.func206 rfl (by decide) (by simp [Tryz.f206]) (by simp) fun ver => ?_
  simp only [Tryz.f206, G0]
  simp
  refine aloop (α := Nat) (fun k => ⟨envOf [(0, intsAV c l), (1, .v (.int .i64 x)), (7, .v (.int .i64 l.length)), (8, .v (.int .i64 k))], ⟨[], noArrs ver⟩⟩)
    (fun k => k ≤ l.length ∧ idxI x (l.drop k) k = idxI x l 0) (fun k => l.length - k) 0 (less_envOf (by simp) rfl fun _ => rfl) (by simp) ?_
  rintro k ⟨hk, hm⟩
  by_cases hlt : k < l.length
  · have hw := wrapS hlt hl
    rw [drop_get hlt, idxI] at hm
    simp (config := { contextual := true }) [hlt]
    refine And.intro (fun h => ?_) (fun h => ?_)
    · simpa [h] using hm
    · refine ⟨k + 1, less_envOf (by simp [hw]) rfl fun _ => rfl, ⟨by omega, by simpa [h] using hm⟩, by omega⟩
  · rw [List.drop_eq_nil_of_le (by omega)] at hm
    simp [hlt]
    exact hm

theorem q_containsI (c : Bool) (l : List Int) (hl : l.length ≤ 4611686018427387904) (x : Int) : Pure Tryz.prog 136 [intsAV c l, .v (.int .i64 x)] (.v (.bool (memI x l))) := by
  rw [← idxI_mem x l 0 (Int.le_refl _)]
  refine pure_of_code (G := G0) vers0 mixed0 Tryz.func136 rfl (by decide) (by simp [Tryz.f136]) (by simp) fun ver => ?_
  simp only [Tryz.f136, G0]
  repeat' first
    | with_reducible refine And.intro ?_ ?_
    | with_reducible intro _
    | (first | with_reducible refine adraw_f 2 (by decide +kernel) ?_ | with_reducible refine adraw_f 3 (by decide +kernel) ?_ | with_reducible refine adraw_f 4 (by decide +kernel) ?_ | with_reducible refine adraw_f 5 (by decide +kernel) ?_ | with_reducible refine adraw_f 6 (by decide +kernel) ?_ | with_reducible refine adraw_f 7 (by decide +kernel) ?_ | with_reducible refine adraw_f 8 (by decide +kernel) ?_ | with_reducible refine adraw_f 9 (by decide +kernel) ?_ | with_reducible refine adraw_f 10 (by decide +kernel) ?_ | with_reducible refine adraw_f 11 (by decide +kernel) ?_ | with_reducible refine adraw_cut 0 (by decide +kernel) ?_ | with_reducible refine adraw_cut 1 (by decide +kernel) ?_ | with_reducible refine adraw_cut 2 (by decide +kernel) ?_ | with_reducible refine adraw_cut 3 (by decide +kernel) ?_ | with_reducible refine adraw_cut 4 (by decide +kernel) ?_ | with_reducible refine adraw_cut 5 (by decide +kernel) ?_ | with_reducible refine adraw_cut 6 (by decide +kernel) ?_ | with_reducible refine adraw_cut 7 (by decide +kernel) ?_ | with_reducible refine adraw_cut 8 (by decide +kernel) ?_ | with_reducible refine adraw_cut 9 (by decide +kernel) ?_ | with_reducible refine adraw_all (by kernel_rfl) ?_)
    | with_reducible refine call_p (q_indexI c l hl x) (by simp) ?_
    | with_reducible refine call_f (q_indexI c l hl x) (by simp) ?_
    | simp (config := { contextual := true, maxSteps := 4000000 }) [*, -Int.not_le, -Int.not_lt]

end Go.Proofs.YtokhnmchnfkiiaaGreat.Am
