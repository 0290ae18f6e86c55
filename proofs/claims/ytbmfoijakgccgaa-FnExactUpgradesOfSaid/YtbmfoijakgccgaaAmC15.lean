/- Consistent sets; terms that hold. No conditions. -/
import Derived.Test.YtbmfoijakgccgaaAmC14
namespace Go.Proofs.Ytbmfoijakgccgaa.Am
open Go Go.RowKit Go.Proofs
set_option linter.unusedSimpArgs false
set_option linter.unusedVariables false

theorem needs_len (c : List Pk) (s : List Int) (k : Int) : ∀ (l : List (List Trm)) (j : Nat), (needsR c s k l j).length ≤ l.length
  | [], _ => by simp [needsR]
  | q :: r, j => by
    have := needs_len c s k r (j + 1)
    unfold needsR
    split <;> simp <;> omega
theorem bars_len (c : List Pk) (s : List Int) (k : Int) : ∀ (l : List Trm) (j : Nat), (barsR c s k l j).length ≤ l.length
  | [], _ => by simp [barsR]
  | q :: r, j => by
    have := bars_len c s k r (j + 1)
    unfold barsR
    split <;> simp <;> omega
theorem faults_len {c : List Pk} (hb : CatOk c) (s : List Int) : ∀ (r seen : List Int), (∀ k ∈ r, 0 ≤ k ∧ k.toNat < c.length) → (faultsR c s seen r).length ≤ 9 * r.length
  | [], _, _ => by simp [faultsR]
  | k :: r, seen, h => by
    have h1 := faults_len hb s r (seen ++ [k]) fun x hx => h x (List.mem_cons_of_mem _ hx)
    have h2 := hb _ (pkAt_mem (h k (List.mem_cons_self ..)).2)
    have h3 := needs_len c s k (pkAt c k).ne 0
    have h4 := bars_len c s k (pkAt c k).ba 0
    have h5 := h2.2.1
    have h6 := h2.2.2.1
    unfold faultsR
    split <;> simp <;> omega
theorem SetOK.len {n : Nat} {s : List Int} (h : SetOK n s) : s.length ≤ n := by
  have up : ∀ i, (hi : i < s.length) → (i : Int) ≤ s[i] := by
    intro i
    induction i with
    | zero =>
      intro hi
      have := (h 0 hi).1
      rw [getD_at hi] at this
      simp [inF] at this
      omega
    | succ i ih =>
      intro hi
      have h1 := ih (by omega)
      have h2 : s[i] < s[i + 1] := h.lt (Nat.lt_succ_self i) hi
      omega
  by_cases e : s.length = 0
  · omega
  · have h1 := up (s.length - 1) (by omega)
    have h2 := (h (s.length - 1) (by omega)).1
    rw [getD_at (by omega)] at h2
    simp [inF] at h2
    omega
theorem setF_facts {c : List Pk} {s : List Int} (h : setF c s = 0) : CatOk c ∧ Places c.length s ∧ s.length ≤ 4611686018427387904 ∧ (faultsR c s [] s).length * 24 ≤ 140737488355328 := by
  obtain ⟨h1, h2⟩ := setF_ok h
  obtain ⟨h3, h4⟩ := catF_ok h1
  have h5 : CatOk c := fun p hp => packF_ok (h4 p hp)
  have h6 := h2.len
  have h7 := faults_len h5 s s [] h2.places
  exact ⟨h5, h2.places, by omega, by omega⟩

/-- The set has no fault of its own. -/
def goodB (c : List Pk) (s : List Int) : Bool := decide (faultsR c s [] s = [])
noncomputable def consF (c : List Pk) (s : List Int) : Bool := decide (setF c s = 0) && goodB c s

theorem p_good (a b k : Bool) (c : List Pk) (s : List Int) (h : setF c s = 0) : Pure Try.prog 125 [pksAV a b c, intsAV k s] (.v (.bool (goodB c s))) := by
  obtain ⟨h1, h2, h3, h4⟩ := setF_facts h
  refine pure_of_code (G := (G0)) vers0 mixed0 Try.func125 rfl (by decide) (by simp [Try.f125]) (by simp) fun ver => ?_
  simp only [Try.f125, G0]
  simp
  refine call_p (p_faults a b k c h1 s h3 h2 h4) (by simp) ?_
  simp [fltsAV, goodB]

theorem q_good (a b k : Bool) (c : List Pk) (s : List Int) (h : setF c s = 0) : Pure Try.prog 126 [pksAV a b c, intsAV k s] (.v (.bool (goodB c s))) := by
  obtain ⟨h1, h2, h3, h4⟩ := setF_facts h
  refine pure_of_code (G := (G0)) vers0 mixed0 Try.func126 rfl (by decide) (by simp [Try.f126]) (by simp) fun ver => ?_
  simp only [Try.f126, G0]
  simp
  refine call_p (q_faults a b k c h1 s h3 h2 h4) (by simp) ?_
  simp [fltsAV, goodB]

theorem p_cons (a b k : Bool) (c : List Pk) (hc : c.length ≤ 4611686018427387904) (hb : ∀ p ∈ c, p.Len) (s : List Int) (hs : s.length ≤ 4611686018427387904) : Pure Try.prog 58 [pksAV a b c, intsAV k s] (.v (.bool (consF c s))) := by
  refine pure_of_code (G := (G0)) vers0 mixed0 Try.func58 rfl (by decide) (by simp [Try.f58]) (by simp) fun ver => ?_
  simp only [Try.f58, G0]
  simp
  refine call_p (p_setFault a b k c hc hb s hs) (by simp) ?_
  by_cases h : setF c s = 0
  · simp [h]
    refine call_p (p_good a b k c s h) (by simp) ?_
    simp [consF, h]
  · simp [h, consF]

theorem q_cons (a b k : Bool) (c : List Pk) (hc : c.length ≤ 4611686018427387904) (hb : ∀ p ∈ c, p.Len) (s : List Int) (hs : s.length ≤ 4611686018427387904) : Pure Try.prog 59 [pksAV a b c, intsAV k s] (.v (.bool (consF c s))) := by
  refine pure_of_code (G := (G0)) vers0 mixed0 Try.func59 rfl (by decide) (by simp [Try.f59]) (by simp) fun ver => ?_
  simp only [Try.f59, G0]
  simp
  refine call_p (q_setFault a b k c hc hb s hs) (by simp) ?_
  by_cases h : setF c s = 0
  · simp [h]
    refine call_p (q_good a b k c s h) (by simp) ?_
    simp [consF, h]
  · simp [h, consF]

/-- All the terms hold in the set. -/
def holdsB (c : List Pk) (s : List Int) (l : List Trm) : Bool := l.all fun t => decide (trmF t = 0) && givenF c s t (-1)

theorem p_holdsB (a b k k' : Bool) (c : List Pk) (hb : CatOk c) (s : List Int) (hs : s.length ≤ 4611686018427387904) (hp : Places c.length s) (l : List Trm) (hl : l.length ≤ 4611686018427387904) : Pure Try.prog 131 [pksAV a b c, intsAV k s, trmsAV k' l] (.v (.bool (holdsB c s l))) := by
  refine pure_of_code (G := (G0)) vers0 mixed0 Try.func131 rfl (by decide) (by simp [Try.f131]) (by simp) fun ver => ?_
  simp only [Try.f131, G0]
  simp only [zipEnv]
  simp
  refine aloop (α := Nat) (fun i => ⟨envOf [(0, pksAV a b c), (1, intsAV k s), (2, trmsAV k' l), (7, .v (.int .i64 i))], ⟨[], noArrs ver⟩⟩)
    (fun i => i ≤ l.length ∧ holdsB c s (l.drop i) = holdsB c s l) (fun i => l.length - i) 0 (less_envOf (by simp) rfl fun _ => rfl) (by simp) ?_
  rintro i ⟨hk, hm⟩
  by_cases hlt : i < l.length
  · have hw := wrapS hlt hl
    rw [drop_get hlt, holdsB, List.all_cons] at hm
    simp [hlt]
    refine call_p (p_trm l[i]) (by simp) ?_
    by_cases h1 : trmF l[i] = 0
    · simp [h1, hlt]
      refine call_p (p_given a b k c hb s hs hp l[i] (-1)) (by simp) ?_
      cases h2 : givenF c s l[i] (-1) with
      | false =>
        rw [h2] at hm
        rw [← hm]
        simp
      | true =>
        rw [h1, h2] at hm
        simp
        exact ⟨i + 1, less_envOf (by simp [hw]) rfl fun _ => rfl, ⟨by omega, by simpa [holdsB] using hm⟩, by omega⟩
    · rw [← hm]
      simp [h1]
  · rw [List.drop_eq_nil_of_le (by omega)] at hm
    rw [← hm]
    simp [hlt, holdsB]

theorem given_any {c : List Pk} {s : List Int} (hp : ∀ k ∈ s, 0 ≤ k) (t : Trm) : (s.any fun x => givesF (pkAt c x) t) = givenF c s t (-1) := by
  rw [Bool.eq_iff_iff]
  simp only [givenF, List.any_eq_true, Bool.and_eq_true, decide_eq_true_eq]
  constructor
  · rintro ⟨k, hk, h⟩
    exact ⟨k, hk, by have := hp k hk; omega, h⟩
  · rintro ⟨k, hk, _, h⟩
    exact ⟨k, hk, h⟩

theorem q_holds11 (a b : Bool) (c : List Pk) (hb : CatOk c) (t : Trm) (n : Int) (hn : 0 ≤ n ∧ n.toNat < c.length) (i j : Nat) (bs : List (List AV)) (hi : bs[i]? = some [pksAV a b c]) (hj : bs[j]? = some t.cells) :
    BCall Try.prog 182 [.v (.int .i64 n), .box i 0, .box j 0] bs (.v (.bool (givesF (pkAt c n) t))) := by
  obtain ⟨q1, q2⟩ := hn
  have hg := pkAt_get q2
  have hok := hb _ (pkAt_mem q2)
  refine bcode Try.func182 rfl (by decide) (by simp [Try.f182]) (by simp) fun ver => ?_
  simp only [Try.f182, Gb]
  simp
  try refine adraw_all (by kernel_rfl) ?_
  simp [hi, hj, q1, hg]
  refine call_p (q_gives b (pkAt c n) (by have := hok.1; omega) t) (by simp) ?_
  simp

theorem q_holds1 (a b k : Bool) (c : List Pk) (hb : CatOk c) (s : List Int) (hs : s.length ≤ 4611686018427387904) (hp : Places c.length s) (t : Trm) :
    BCall Try.prog 181 [t.av, .box 1 0, .box 0 0] [[pksAV a b c], [intsAV k s]] (.v (.bool (!givenF c s t (-1)))) := by
  have e := given_any (c := c) (fun x hx => (hp x hx).1) t
  refine bcode Try.func181 rfl (by decide) (by simp [Try.f181]) (by simp) fun ver => ?_
  simp only [Try.f181, Gb]
  simp
  refine call_b (cb_ints k s hs 182 [] [.box 0 0, .box 2 0] [[pksAV a b c], [intsAV k s], t.cells] (fun x => givesF (pkAt c x) t) (fun _ => rfl) (fun _ => rfl) (fun _ => rfl)
    fun x hx => q_holds11 a b c hb t x (hp x hx) 0 2 _ rfl rfl) rfl ?_
  rw [e]
  simp

theorem q_holds (a b k k' : Bool) (c : List Pk) (s : List Int) (h : setF c s = 0) (l : List Trm) (hl : l.length ≤ 4611686018427387904) : Pure Try.prog 132 [pksAV a b c, intsAV k s, trmsAV k' l] (.v (.bool (goodB c s && l.all fun t => givenF c s t (-1)))) := by
  obtain ⟨h1, h2, h3, h4⟩ := setF_facts h
  refine pure_of_code (G := (G0)) vers0 mixed0 Try.func132 rfl (by decide) (by simp [Try.f132]) (by simp) fun ver => ?_
  simp only [Try.f132, G0]
  simp only [zipEnv]
  simp
  refine call_p (q_good a b k c s h) (by simp) ?_
  cases hg : goodB c s with
  | false => simp
  | true =>
    simp
    refine call_b (cb_trms k' l hl 181 [] [.box 1 0, .box 0 0] [[pksAV a b c], [intsAV k s]] (fun t => !givenF c s t (-1)) (fun _ => rfl) (fun _ => rfl) (fun _ => rfl)
      fun t _ => q_holds1 a b k c h1 s h3 h2 t) rfl ?_
    simp [List.not_any_eq_all_not]

end Go.Proofs.Ytbmfoijakgccgaa.Am
