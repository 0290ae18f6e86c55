import Derived.Test.YtokhnmchnfkiiaaDoorAmCg1
import Derived.Test.YtokhnmchnfkiiaaDoorAmW
import Derived.Test.YtokhnmchnfkiiaaDoorAmCg2
/- What is handed in from outside, as data. No conditions. -/
namespace Go.Proofs.YtokhnmchnfkiiaaDoor.Am
open Go Go.RowKit Go.Proofs
set_option linter.unusedSimpArgs false
set_option linter.unusedVariables false
set_option maxRecDepth 100000

theorem rows_of {α : Type} (f : α → List AV) (q : α → Prop) : ∀ {es : List (List AV)}, (∀ c ∈ es, ∃ a, c = f a ∧ q a) → ∃ l : List α, es = l.map f ∧ ∀ a ∈ l, q a
  | [], _ => ⟨[], rfl, fun a h => by cases h⟩
  | c :: es, h => by
    obtain ⟨a, rfl, ha⟩ := h c (by simp)
    obtain ⟨l, rfl, hl⟩ := rows_of f q (es := es) fun c hc => h c (by simp [hc])
    exact ⟨a :: l, rfl, by simpa using ⟨ha, hl⟩⟩

theorem reach_le : reachBytes ≤ 140737488355328 := by decide

theorem ty_ver {n : Nat} {cs : List AV} (h : Typed Tryd.prog (n + 2) 23 cs) : ∃ v : Ver, cs = [.v (.int .i64 v.a), .v (.int .i64 v.b), .v (.int .i64 v.c)] := by
  simp [Typed, TypedFs, Tryd.underlying23, Tryd.underlying2] at h
  obtain ⟨_, _, rfl, _, ⟨a, rfl, _⟩, _, _, rfl, _, ⟨b, rfl, _⟩, _, _, rfl, _, ⟨c, rfl, _⟩, rfl⟩ := h
  exact ⟨⟨a, b, c⟩, rfl⟩

theorem ty_trm {n : Nat} {cs : List AV} (h : Typed Tryd.prog (n + 3) 34 cs) : ∃ t : Trm, cs = t.cells := by
  rw [Typed] at h
  simp only [Tryd.underlying34, TypedFs] at h
  obtain ⟨_, _, rfl, _, hs, _, _, rfl, _, h1, _, _, rfl, _, h2, rfl⟩ := h
  obtain ⟨v, rfl⟩ := ty_ver h1
  obtain ⟨w, rfl⟩ := ty_ver h2
  simp [Typed, Tryd.underlying9] at hs
  obtain ⟨x, rfl, _⟩ := hs
  exact ⟨⟨x, v, w⟩, rfl⟩

theorem ty_strs {n : Nat} {cs : List AV} (h : Typed Tryd.prog (n + 2) 71 cs) : ∃ l, cs = [strsAV true l] ∧ BigS l := by
  rw [Typed] at h
  simp only [Tryd.underlying71] at h
  obtain ⟨es, rfl, hb, hc⟩ := h
  obtain ⟨l, rfl, _⟩ := rows_of strCells (fun _ => True) (es := es) fun c hcm => by
    have := hc c hcm
    simp [Typed, Tryd.underlying9] at this
    obtain ⟨x, rfl, _⟩ := this
    exact ⟨x, rfl, trivial⟩
  refine ⟨l, rfl, ?_⟩
  have hb' : l.length * 16 ≤ reachBytes := by simpa [show Tryd.prog.bytesOf 9 = 16 by kernel_rfl] using hb
  exact Nat.le_trans hb' reach_le

theorem ty_ints {n : Nat} {cs : List AV} (h : Typed Tryd.prog (n + 2) 58 cs) : ∃ l : List Int, cs = [intsAV true l] ∧ BigI l ∧ ∀ a ∈ l, -9223372036854775808 ≤ a ∧ a ≤ 9223372036854775807 := by
  rw [Typed] at h
  simp only [Tryd.underlying58] at h
  obtain ⟨es, rfl, hb, hc⟩ := h
  obtain ⟨l, rfl, hl⟩ := rows_of intCells (fun a => -9223372036854775808 ≤ a ∧ a ≤ 9223372036854775807) (es := es) fun c hcm => by
    have := hc c hcm
    simp [Typed, Tryd.underlying2] at this
    obtain ⟨x, rfl, hx⟩ := this
    refine ⟨x, rfl, ?_⟩
    simpa [Lit.wf, IntKind.min, IntKind.max, IntKind.signed, IntKind.bits] using hx
  refine ⟨l, rfl, ?_, hl⟩
  have hb' : l.length * 8 ≤ reachBytes := by simpa [show Tryd.prog.bytesOf 2 = 8 by kernel_rfl] using hb
  exact Nat.le_trans hb' reach_le

theorem ty_trms {n : Nat} {cs : List AV} (h : Typed Tryd.prog (n + 4) 98 cs) : ∃ l, cs = [trmsAV true l] ∧ BigT l := by
  rw [Typed] at h
  simp only [Tryd.underlying98] at h
  obtain ⟨es, rfl, hb, hc⟩ := h
  obtain ⟨l, rfl, _⟩ := rows_of Trm.cells (fun _ => True) (es := es) fun c hcm => by
    obtain ⟨t, rfl⟩ := ty_trm (hc c hcm)
    exact ⟨t, rfl, trivial⟩
  refine ⟨l, rfl, ?_⟩
  have hb' : l.length * 64 ≤ reachBytes := by simpa [show Tryd.prog.bytesOf 34 = 64 by kernel_rfl] using hb
  exact Nat.le_trans hb' reach_le

theorem ty_cls {n : Nat} {cs : List AV} (h : Typed Tryd.prog (n + 5) 97 cs) : ∃ l, cs = [clausesAV true l] ∧ BigTT l := by
  rw [Typed] at h
  simp only [Tryd.underlying97] at h
  obtain ⟨es, rfl, hb, hc⟩ := h
  obtain ⟨l, rfl, hl⟩ := rows_of (clauseCells true) BigT (es := es) fun c hcm => by
    obtain ⟨t, rfl, ht⟩ := ty_trms (hc c hcm)
    exact ⟨t, rfl, ht⟩
  refine ⟨l, rfl, ?_, hl⟩
  have hb' : l.length * 24 ≤ reachBytes := by simpa [show Tryd.prog.bytesOf 98 = 24 by kernel_rfl] using hb
  exact Nat.le_trans hb' reach_le

theorem ty_pk {n : Nat} {cs : List AV} (h : Typed Tryd.prog (n + 6) 100 cs) : ∃ p : Pk, cs = p.cells true ∧ p.Big := by
  rw [Typed] at h
  simp only [Tryd.underlying100, TypedFs] at h
  obtain ⟨_, _, rfl, _, hs, _, _, rfl, _, h1, _, _, rfl, _, h2, _, _, rfl, _, h3, _, _, rfl, _, h4, _, _, rfl, _, h5, rfl⟩ := h
  obtain ⟨v, rfl⟩ := ty_ver h1
  obtain ⟨pr, rfl, b1⟩ := ty_strs h3
  obtain ⟨ne, rfl, b2⟩ := ty_cls h4
  obtain ⟨ba, rfl, b3⟩ := ty_trms h5
  simp [Typed, Tryd.underlying9] at hs
  obtain ⟨x, rfl, _⟩ := hs
  simp [Typed, Tryd.underlying2] at h2
  obtain ⟨s, rfl, _⟩ := h2
  exact ⟨⟨x, v, s, pr, ne, ba⟩, rfl, b1, b2, b3⟩

theorem ty_pks {n : Nat} {cs : List AV} (h : Typed Tryd.prog (n + 7) 57 cs) : ∃ l, cs = [pksAV true true l] ∧ BigP l := by
  rw [Typed] at h
  simp only [Tryd.underlying57] at h
  obtain ⟨es, rfl, hb, hc⟩ := h
  obtain ⟨l, rfl, hl⟩ := rows_of (Pk.cells true) Pk.Big (es := es) fun c hcm => by
    obtain ⟨t, rfl, ht⟩ := ty_pk (hc c hcm)
    exact ⟨t, rfl, ht⟩
  refine ⟨l, rfl, ?_, hl⟩
  have hb' : l.length * 120 ≤ reachBytes := by simpa [show Tryd.prog.bytesOf 100 = 120 by kernel_rfl] using hb
  exact Nat.le_trans hb' reach_le

end Go.Proofs.YtokhnmchnfkiiaaDoor.Am

/- Sets: their faults; what the packages of a set give. No conditions. -/
namespace Go.Proofs.YtokhnmchnfkiiaaDoor.Am
open Go Go.RowKit Go.Proofs
set_option linter.unusedSimpArgs false
set_option linter.unusedVariables false

/-- The places rise, and are places of a catalog of n packages. -/
def SetOK (n : Nat) (s : List Int) : Prop := ∀ i, i < s.length → inF (s.getD i 0) 0 (n - 1) = true ∧ (0 < i → s.getD (i - 1) 0 < s.getD i 0)
open Classical in
noncomputable def setB (n : Nat) (s : List Int) : Bool := decide (SetOK n s)
theorem setB_true {n : Nat} {s : List Int} (h : SetOK n s) : setB n s = true := by simp [setB, h]
theorem setB_false {n : Nat} {s : List Int} (h : ¬ SetOK n s) : setB n s = false := by simp [setB, h]
noncomputable def setF (c : List Pk) (s : List Int) : Int := if catF c ≠ 0 then catF c else if setB c.length s = true then 0 else 1

theorem wrapP {k n : Nat} (h0 : 0 < k) (h : k < n) (hn : n ≤ 4611686018427387904) : IntKind.i64.wrap ((k : Int) - 1) = ((k - 1 : Nat) : Int) := by rw [IntWalk.i64_in _ (by omega)]; omega
theorem wrapL {n : Nat} (hn : n ≤ 4611686018427387904) : IntKind.i64.wrap ((n : Int) - 1) = (n : Int) - 1 := by rw [IntWalk.i64_in _ (by omega)]
theorem getD_at {l : List Int} {k : Nat} (h : k < l.length) : l.getD k 0 = l[k] := by simp [h]

theorem p_set (a b k : Bool) (c : List Pk) (hc : c.length ≤ 4611686018427387904) (s : List Int) (hs : s.length ≤ 4611686018427387904) : Pure Tryd.prog 102 [pksAV a b c, intsAV k s] (.v (.bool (setB c.length s))) := by
  refine pure_of_code (G := (G0)) vers0 mixed0 Tryd.func102 rfl (by decide) (by simp [Tryd.f102]) (by simp) fun ver => ?_
  simp only [Tryd.f102, G0]
  simp
  refine aloop (α := Nat) (fun i => ⟨envOf [(0, pksAV a b c), (1, intsAV k s), (5, .v (.int .i64 i))], ⟨[], noArrs ver⟩⟩)
    (fun i => i ≤ s.length ∧ ∀ j, j < i → inF (s.getD j 0) 0 (c.length - 1) = true ∧ (0 < j → s.getD (j - 1) 0 < s.getD j 0)) (fun i => s.length - i) 0 (less_envOf (by simp) rfl fun _ => rfl) (by simp) ?_
  rintro i ⟨hk, hm⟩
  have hwl := wrapL hc
  by_cases hlt : i < s.length
  · have hw := wrapS hlt hs
    have next : inF (s.getD i 0) 0 (c.length - 1) = true → (0 < i → s.getD (i - 1) 0 < s.getD i 0) → ∀ j, j < i + 1 → inF (s.getD j 0) 0 (c.length - 1) = true ∧ (0 < j → s.getD (j - 1) 0 < s.getD j 0) := by
      intro h1 h2 j hj
      by_cases e : j = i
      · subst e; exact ⟨h1, h2⟩
      · exact hm j (by omega)
    rw [getD_at hlt] at next
    simp [hlt]
    refine adraw_all (by kernel_rfl) ?_
    simp [hlt, hwl]
    refine call_p (p_in _ _ _) (by simp) ?_
    cases h1 : inF s[i] 0 (c.length - 1) with
    | false =>
      simp
      exact setB_false fun h => by have := (h i hlt).1; rw [getD_at hlt, h1] at this; cases this
    | true =>
      by_cases h0 : 0 < i
      · have hw1 := wrapP h0 hlt hs
        have hlt1 : i - 1 < s.length := by omega
        have hg := getD_at hlt1
        rw [hg] at next
        simp [h0, hlt, hw1, hlt1, -Int.not_lt, -Int.not_le]
        by_cases h2 : s[i] ≤ s[i - 1]
        · simp [h2]
          exact setB_false fun h => by have := (h i hlt).2 h0; rw [getD_at hlt, hg] at this; omega
        · simp [h2]
          exact ⟨i + 1, less_envOf (by simp [hw]) rfl fun _ => rfl, ⟨by omega, next h1 fun _ => by omega⟩, by omega⟩
      · have e0 : i = 0 := by omega
        simp [e0]
        subst e0
        exact ⟨1, less_envOf (by simpa using hw) rfl fun _ => rfl, ⟨by omega, next h1 fun h => by omega⟩, by omega⟩
  · simp [hlt]
    exact setB_true fun j hj => hm j (by omega)

theorem p_setFault (a b k : Bool) (c : List Pk) (hc : c.length ≤ 4611686018427387904) (hb : ∀ p ∈ c, p.Len) (s : List Int) (hs : s.length ≤ 4611686018427387904) : Pure Tryd.prog 72 [pksAV a b c, intsAV k s] (.v (.int .i64 (setF c s))) := by
  refine pure_of_code (G := (G0)) vers0 mixed0 Tryd.func72 rfl (by decide) (by simp [Tryd.f72]) (by simp) fun ver => ?_
  simp only [Tryd.f72, G0]
  simp
  refine call_p (p_cat a b c hc hb) (by simp) ?_
  simp (config := { contextual := true, maxSteps := 4000000 }) [-Int.not_lt, -Int.not_le]
  refine And.intro (fun h => ?_) (fun h1 => ?_)
  · simp [setF, h]
  refine call_p (p_set a b k c hc s hs) (by simp) ?_
  cases h2 : setB c.length s <;> simp [setF, h1, h2]

theorem q_place (a b : Bool) (c : List Pk) (hc : c.length ≤ 4611686018427387904) (n : Int) : BCall Tryd.prog 124 [.v (.int .i64 n), .box 0 0] [[pksAV a b c]] (.v (.bool (!inF n 0 (c.length - 1)))) := by
  have hwl := wrapL hc
  refine bcode Tryd.func124 rfl (by decide) (by simp [Tryd.f124]) (by simp) fun ver => ?_
  simp only [Tryd.f124, Gb]
  simp [hwl]
  refine call_p (p_within _ _ _) (by simp) ?_
  simp

theorem q_places (a b k : Bool) (c : List Pk) (hc : c.length ≤ 4611686018427387904) (s : List Int) (hs : s.length ≤ 4611686018427387904) : Pure Tryd.prog 106 [pksAV a b c, intsAV k s] (.v (.bool (!s.any fun n => !inF n 0 (c.length - 1)))) := by
  refine pure_of_code (G := (G0)) vers0 mixed0 Tryd.func106 rfl (by decide) (by simp [Tryd.f106]) (by simp) fun ver => ?_
  simp only [Tryd.f106, G0]
  simp
  refine call_b (cb_ints k s hs 124 [] [.box 0 0] [[pksAV a b c]] (fun n => !inF n 0 (c.length - 1)) (fun _ => rfl) (fun _ => rfl) (fun _ => rfl) fun n _ => q_place a b c hc n) rfl ?_
  simp

theorem q_setFault (a b k : Bool) (c : List Pk) (hc : c.length ≤ 4611686018427387904) (hb : ∀ p ∈ c, p.Len) (s : List Int) (hs : s.length ≤ 4611686018427387904) : Pure Tryd.prog 75 [pksAV a b c, intsAV k s] (.v (.int .i64 (setF c s))) := by
  refine pure_of_code (G := (G0)) vers0 mixed0 Tryd.func75 rfl (by decide) (by simp [Tryd.f75]) (by simp) fun ver => ?_
  simp only [Tryd.f75, G0]
  simp
  refine call_p (q_cat a b c hc hb) (by simp) ?_
  simp (config := { contextual := true, maxSteps := 4000000 }) [-Int.not_lt, -Int.not_le]
  refine And.intro (fun h => ?_) (fun h1 => ?_)
  · simp [setF, h]
  refine aloop (α := Nat) (fun i => ⟨envOf [(0, pksAV a b c), (1, intsAV k s), (6, .v (.int .i64 i))], ⟨[], noArrs ver⟩⟩)
    (fun i => 1 ≤ i ∧ ∀ j, 0 < j → j < i → j < s.length → s.getD (j - 1) 0 < s.getD j 0) (fun i => s.length - i) 1 (less_envOf (by simp) rfl fun _ => rfl) ⟨Nat.le_refl _, fun j h1 h2 => by omega⟩ ?_
  rintro i ⟨hk, hm⟩
  by_cases hlt : i < s.length
  · have hw := wrapS hlt hs
    have hw1 := wrapP hk hlt hs
    have hlt1 : i - 1 < s.length := by omega
    simp [hlt]
    refine adraw_all (by kernel_rfl) ?_
    simp [hlt, hw1, hlt1, -Int.not_lt, -Int.not_le]
    refine And.intro (fun h => ?_) (fun h => ?_)
    · have : setB c.length s = false := setB_false fun hh => by have := (hh i hlt).2 hk; rw [getD_at hlt, getD_at hlt1] at this; omega
      simp [setF, h1, this]
    · refine ⟨i + 1, less_envOf (by simp [hw]) rfl fun _ => rfl, ⟨by omega, ?_⟩, by omega⟩
      intro j j1 j2 j3
      by_cases e : j = i
      · subst e; simp [hlt, hlt1]; omega
      · simpa using hm j j1 (by omega) j3
  · simp [hlt]
    refine call_p (q_places a b k c hc s hs) (by simp) ?_
    cases h2 : s.any fun n => !inF n 0 (c.length - 1) with
    | true =>
      have : setB c.length s = false := setB_false fun hh => by
        rw [List.any_eq_true] at h2
        obtain ⟨n, hn, h3⟩ := h2
        obtain ⟨j, hj, rfl⟩ := List.getElem_of_mem hn
        have h4 := (hh j hj).1
        rw [getD_at hj] at h4
        simp [h4] at h3
      simp [setF, h1, this]
    | false =>
      have : setB c.length s = true := setB_true fun j hj => by
        refine ⟨?_, fun h0 => hm j h0 (by omega) hj⟩
        rw [List.any_eq_false] at h2
        have := h2 _ (List.getElem_mem hj)
        rw [getD_at hj]
        simpa using this
      simp [setF, h1, this]

end Go.Proofs.YtokhnmchnfkiiaaDoor.Am

/- Sets: names twice; what is changed between sets, its cost. No conditions. -/
namespace Go.Proofs.YtokhnmchnfkiiaaDoor.Am
open Go Go.RowKit Go.Proofs
set_option linter.unusedSimpArgs false
set_option linter.unusedVariables false

instance : Inhabited Pk := ⟨⟨.empty, ⟨0, 0, 0⟩, 0, [], [], []⟩⟩
/-- The package at a place. -/
def pkAt (c : List Pk) (k : Int) : Pk := (c[k.toNat]?).getD default
def Places (n : Nat) (s : List Int) : Prop := ∀ k ∈ s, 0 ≤ k ∧ k.toNat < n
theorem pkAt_get {c : List Pk} {k : Int} (h : k.toNat < c.length) : c[k.toNat]? = some (pkAt c k) := by simp [pkAt, h]
theorem pkAt_mem {c : List Pk} {k : Int} (h : k.toNat < c.length) : pkAt c k ∈ c := List.mem_of_getElem? (pkAt_get h)
theorem SetOK.places {n : Nat} {s : List Int} (h : SetOK n s) : Places n s := by
  intro k hk
  obtain ⟨i, hi, rfl⟩ := List.getElem_of_mem hk
  have := (h i hi).1
  rw [getD_at hi] at this
  simp [inF] at this
  omega
theorem setF_ok {c : List Pk} {s : List Int} (h : setF c s = 0) : catF c = 0 ∧ SetOK c.length s := by
  unfold setF at h
  split at h
  · rename_i h1; exact (h1 h).elim
  · rename_i h1
    split at h
    · rename_i h2
      refine ⟨by simpa using h1, ?_⟩
      by_cases hh : SetOK c.length s
      · exact hh
      · rw [setB_false hh] at h2; cases h2
    · cases h
theorem SetOK.lt {n : Nat} {s : List Int} (h : SetOK n s) : ∀ {j i : Nat} (hj : j < i) (hi : i < s.length), s[j] < s[i] := by
  intro j i
  induction i with
  | zero => intro hj; omega
  | succ i ih =>
    intro hj hi
    have h1 := (h (i + 1) hi).2 (by omega)
    rw [getD_at hi, show i + 1 - 1 = i from rfl, getD_at (by omega)] at h1
    by_cases e : j = i
    · subst e; exact h1
    · exact Int.lt_trans (ih (by omega) (by omega)) h1

def oneF (c : List Pk) (n : ByteArray) : List Int → Int
  | [] => -1
  | k :: s => if (pkAt c k).n = n then k else oneF c n s

def twiceR (c : List Pk) : List Int → List Int → Bool
  | _, [] => false
  | seen, k :: s => decide (0 ≤ oneF c (pkAt c k).n seen) || twiceR c (seen ++ [k]) s
theorem twiceR_app {c : List Pk} {s : List Int} {i : Nat} (h : i < s.length) : twiceR c (s.take i) (s.drop i) = (decide (0 ≤ oneF c (pkAt c s[i]).n (s.take i)) || twiceR c (s.take (i + 1)) (s.drop (i + 1))) := by
  rw [drop_get h, twiceR, List.take_add_one, List.getElem?_eq_getElem h]
  rfl
theorem oneF_app (c : List Pk) (n : ByteArray) (b : List Int) : ∀ a : List Int, (∀ k ∈ a, 0 ≤ k) → oneF c n (a ++ b) = if 0 ≤ oneF c n a then oneF c n a else oneF c n b
  | [], _ => by simp [oneF]
  | k :: a, h => by
    simp only [List.cons_append, oneF]
    split
    · rw [if_pos (h k (by simp))]
    · exact oneF_app c n b a fun x hx => h x (by simp [hx])
theorem oneF_mem (c : List Pk) (n : ByteArray) : ∀ a : List Int, 0 ≤ oneF c n a → oneF c n a ∈ a
  | [], h => by simp [oneF] at h
  | k :: a, h => by
    simp only [oneF] at h ⊢
    split
    · simp
    · rename_i hne
      rw [if_neg hne] at h
      exact List.mem_cons_of_mem _ (oneF_mem c n a h)
theorem apart_iff {c : List Pk} {s : List Int} (h : SetOK c.length s) {i : Nat} (hi : i < s.length) : oneF c (pkAt c s[i]).n s = s[i] ↔ ¬ 0 ≤ oneF c (pkAt c s[i]).n (s.take i) := by
  have hp := h.places
  have e : s = s.take i ++ s[i] :: s.drop (i + 1) := by rw [← drop_get hi, List.take_append_drop]
  have e2 : oneF c (pkAt c s[i]).n s = oneF c (pkAt c s[i]).n (s.take i ++ s[i] :: s.drop (i + 1)) := congrArg _ e
  rw [oneF_app _ _ _ _ (fun k hk => (hp k (List.mem_of_mem_take hk)).1)] at e2
  rw [e2]
  by_cases h0 : 0 ≤ oneF c (pkAt c s[i]).n (s.take i)
  · rw [if_pos h0]
    have hm := oneF_mem c _ _ h0
    obtain ⟨j, hj, he⟩ := List.getElem_of_mem hm
    rw [List.getElem_take] at he
    have hj' : j < i := by simp at hj; omega
    have := h.lt hj' hi
    rw [he] at this
    constructor
    · intro h2; omega
    · intro h2; exact (h2 h0).elim
  · rw [if_neg h0]
    simp [oneF, h0]

noncomputable def deltaF (c : List Pk) (f t : List Int) : Int := if setF c f ≠ 0 then setF c f else if setF c t ≠ 0 then setF c t else if twiceR c [] f = true ∨ twiceR c [] t = true then 6 else 0

def memI (x : Int) : List Int → Bool
  | [] => false
  | a :: l => decide (a = x) || memI x l
def idxI (x : Int) : List Int → Int → Int
  | [], _ => -1
  | a :: l, k => if x = a then k else idxI x l (k + 1)
theorem idxI_mem (x : Int) : ∀ (l : List Int) (k : Int), 0 ≤ k → decide (0 ≤ idxI x l k) = memI x l
  | [], k, h => by simp [idxI, memI]
  | s :: l, k, h => by
    unfold idxI memI
    by_cases e : x = s
    · simp [e, h]
    · simp only [if_neg e]
      rw [idxI_mem x l (k + 1) (by omega)]
      simp [Ne.symm e]

end Go.Proofs.YtokhnmchnfkiiaaDoor.Am

/- What a set gives. No conditions. -/
namespace Go.Proofs.YtokhnmchnfkiiaaDoor.Am
open Go Go.RowKit Go.Proofs
set_option linter.unusedSimpArgs false
set_option linter.unusedVariables false

/-- One of a set, but one, gives a term. -/
def givenF (c : List Pk) (s : List Int) (t : Trm) (m : Int) : Bool := s.any fun k => decide (¬ k = m) && givesF (pkAt c k) t
def metF (c : List Pk) (s : List Int) (l : List Trm) : Bool := l.any fun t => givenF c s t (-1)
@[reducible] def CatOk (c : List Pk) : Prop := ∀ p ∈ c, p.Ok

/-- The other way round: some package of the set gives one of the terms. -/
theorem met_any (c : List Pk) (s : List Int) (hp : ∀ k ∈ s, 0 ≤ k) (l : List Trm) : (s.any fun k => l.any (givesF (pkAt c k))) = metF c s l := by
  rw [Bool.eq_iff_iff]
  simp only [metF, givenF, List.any_eq_true, Bool.and_eq_true, decide_eq_true_eq]
  constructor
  · rintro ⟨k, hk, t, ht, h⟩
    exact ⟨t, ht, k, hk, by have := hp k hk; omega, h⟩
  · rintro ⟨t, ht, k, hk, _, h⟩
    exact ⟨k, hk, t, ht, h⟩

/-- Cells that are the same when they are handed on. -/
def StabC (c : AV) : Prop := ∀ m, lend1 m c = c
theorem stab_of {bs : List (List AV)} (h : ∀ b ∈ bs, ∀ c ∈ b, StabC c) : Stab bs := by
  intro a
  unfold lentBoxes
  conv => rhs; rw [← List.map_id bs]
  refine List.map_congr_left fun b hb => ?_
  conv => rhs; rw [id, ← List.map_id b]
  exact List.map_congr_left fun c hc => h b hb c hc _
theorem stabC_v (x : Value) : StabC (.v x) := fun _ => rfl
theorem stabC_sl (k : Bool) (es : List (List AV)) : StabC (.sl k es) := fun _ => rfl

end Go.Proofs.YtokhnmchnfkiiaaDoor.Am
