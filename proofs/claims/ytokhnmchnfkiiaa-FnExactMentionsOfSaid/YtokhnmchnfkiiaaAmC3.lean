/- Terms and packages: their faults, as the reference and the program find them. No conditions. -/
import Derived.Test.YtokhnmchnfkiiaaAmC2
namespace Go.Proofs.Ytokhnmchnfkiiaa.Am
open Go Go.RowKit Go.Proofs
set_option linter.unusedSimpArgs false
set_option linter.unusedVariables false

def verF (v : Ver) : Int := versionFault v.a v.b v.c
def cmpV (a b : Ver) : Int := cmpF a.a a.b a.c b.a b.b b.c
def trmF (t : Trm) : Int := termFault t.n t.lo.a t.lo.b t.lo.c t.hi.a t.hi.b t.hi.c
def trmsF : List Trm → Int
  | [] => 0
  | t :: l => if trmF t ≠ 0 then trmF t else trmsF l
def clsF : List (List Trm) → Int
  | [] => 0
  | c :: l => if c.length = 0 then 1 else if trmsF c ≠ 0 then trmsF c else clsF l
def memB (x : ByteArray) : List ByteArray → Bool
  | [] => false
  | s :: l => decide (s = x) || memB x l
theorem memB_app (x s : ByteArray) : ∀ l, memB x (l ++ [s]) = (memB x l || decide (s = x))
  | [] => by simp [memB]
  | a :: l => by simp [memB, memB_app x s l, Bool.or_assoc]
def prF (n : ByteArray) : List ByteArray → List ByteArray → Int
  | _, [] => 0
  | seen, s :: l => if nameFault s ≠ 0 then nameFault s else if s = n ∨ memB s seen = true then 6 else prF n (seen ++ [s]) l
def manyC : List (List Trm) → Bool
  | [] => false
  | c :: l => decide (4 < c.length) || manyC l
def packF (p : Pk) : Int :=
  if nameFault p.n ≠ 0 then nameFault p.n else if verF p.v ≠ 0 then verF p.v else if inF p.s 1 200 = false then 3 else
  if 4 < p.pr.length ∨ 4 < p.ne.length ∨ 4 < p.ba.length then 2 else if manyC p.ne = true then 2 else
  if prF p.n [] p.pr ≠ 0 then prF p.n [] p.pr else if clsF p.ne ≠ 0 then clsF p.ne else trmsF p.ba

theorem p_trm (t : Trm) : Pure Try.prog 51 [t.av] (.v (.int .i64 (trmF t))) := p_termFault _ _ _ _ _ _ _

theorem q_trm (t : Trm) : Pure Try.prog 47 [t.av] (.v (.int .i64 (trmF t))) := q_termFault _ _ _ _ _ _ _

theorem p_trms (c : Bool) (l : List Trm) (hl : l.length ≤ 4611686018427387904) : Pure Try.prog 73 [trmsAV c l] (.v (.int .i64 (trmsF l))) := by
  refine pure_of_code (G := (G0)) vers0 mixed0 Try.func73 rfl (by decide) (by simp [Try.f73]) (by simp) fun ver => ?_
  simp only [Try.f73, G0]
  simp
  refine aloop (α := Nat) (fun k => ⟨envOf [(0, trmsAV c l), (3, .v (.int .i64 k))], ⟨[], noArrs ver⟩⟩)
    (fun k => k ≤ l.length ∧ trmsF (l.drop k) = trmsF l) (fun k => l.length - k) 0 (less_envOf (by simp) rfl fun _ => rfl) (by simp) ?_
  rintro k ⟨hk, hm⟩
  by_cases hlt : k < l.length
  · have hw := wrapS hlt hl
    rw [drop_get hlt, trmsF] at hm
    simp [hlt]
    refine call_p (p_trm l[k]) (by simp) ?_
    simp (config := { contextual := true }) [-Int.not_lt, -Int.not_le]
    refine And.intro (fun h => ?_) (fun h => ?_)
    · simpa [h] using hm
    · refine ⟨k + 1, less_envOf (by simp [hw]) rfl fun _ => rfl, ⟨by omega, by simpa [h] using hm⟩, by omega⟩
  · rw [List.drop_eq_nil_of_le (by omega)] at hm
    simp [hlt]
    exact hm

theorem q_trms (c : Bool) (l : List Trm) (hl : l.length ≤ 4611686018427387904) : Pure Try.prog 77 [trmsAV c l] (.v (.int .i64 (trmsF l))) := by
  refine pure_of_code (G := (G0)) vers0 mixed0 Try.func77 rfl (by decide) (by simp [Try.f77]) (by simp) fun ver => ?_
  simp only [Try.f77, G0]
  simp
  refine aloop (α := Nat × List (List AV)) (fun d => ⟨envOf [(6, trmsAV c l), (7, .v (.int .i64 l.length)), (8, .v (.int .i64 d.1))], ⟨d.2, noArrs ver⟩⟩)
    (fun d => d.1 ≤ l.length ∧ trmsF (l.drop d.1) = trmsF l) (fun d => l.length - d.1) (0, []) (less_envOf (by simp) rfl fun _ => rfl) (by simp) ?_
  rintro ⟨k, bs⟩ ⟨hk, hm⟩
  simp only at hk hm ⊢
  by_cases hlt : k < l.length
  · have hw := wrapS hlt hl
    rw [drop_get hlt, trmsF] at hm
    simp [hlt]
    refine call_p (q_trm l[k]) (by simp) ?_
    simp (config := { contextual := true }) [-Int.not_lt, -Int.not_le]
    refine And.intro (fun h => ?_) (fun h => ?_)
    · simpa [h] using hm
    · refine ⟨k + 1, ⟨_, less_envOf (by simp [hw]) rfl fun _ => rfl⟩, ⟨by omega, by simpa [h] using hm⟩, by omega⟩
  · rw [List.drop_eq_nil_of_le (by omega)] at hm
    simp [hlt]
    exact hm

theorem q_first (c : Bool) (l : List Int) (hl : l.length ≤ 4611686018427387904) : Pure Try.prog 45 [intsAV c l] (.v (.int .i64 (orF l))) := by
  refine pure_of_code (G := (G0)) vers0 mixed0 Try.func45 rfl (by decide) (by simp [Try.f45]) (by simp) fun ver => ?_
  simp only [Try.f45, G0]
  simp
  refine aloop (α := Nat) (fun k => ⟨envOf [(5, intsAV c l), (6, .v (.int .i64 l.length)), (7, .v (.int .i64 k))], ⟨[], noArrs ver⟩⟩)
    (fun k => k ≤ l.length ∧ orF (l.drop k) = orF l) (fun k => l.length - k) 0 (less_envOf (by simp) rfl fun _ => rfl) (by simp) ?_
  rintro k ⟨hk, hm⟩
  by_cases hlt : k < l.length
  · have hw := wrapS hlt hl
    rw [drop_get hlt, orF] at hm
    simp (config := { contextual := true }) [hlt, -Int.not_lt, -Int.not_le]
    refine And.intro (fun h => ?_) (fun h => ?_)
    · simpa [h] using hm
    · refine ⟨k + 1, less_envOf (by simp [hw]) rfl fun _ => rfl, ⟨by omega, by simpa [h] using hm⟩, by omega⟩
  · rw [List.drop_eq_nil_of_le (by omega)] at hm
    simp [hlt]
    exact hm

theorem p_holds (c : Bool) (l : List ByteArray) (hl : l.length ≤ 4611686018427387904) (x : ByteArray) : Pure Try.prog 106 [strsAV c l, .v (.string x)] (.v (.bool (memB x l))) := by
  refine pure_of_code (G := (G0)) vers0 mixed0 Try.func106 rfl (by decide) (by simp [Try.f106]) (by simp) fun ver => ?_
  simp only [Try.f106, G0]
  simp
  refine aloop (α := Nat) (fun k => ⟨envOf [(0, strsAV c l), (1, .v (.string x)), (5, .v (.int .i64 k))], ⟨[], noArrs ver⟩⟩)
    (fun k => k ≤ l.length ∧ memB x (l.drop k) = memB x l) (fun k => l.length - k) 0 (less_envOf (by simp) rfl fun _ => rfl) (by simp) ?_
  rintro k ⟨hk, hm⟩
  by_cases hlt : k < l.length
  · have hw := wrapS hlt hl
    rw [drop_get hlt, memB] at hm
    simp (config := { contextual := true }) [hlt]
    refine And.intro (fun h => ?_) (fun h => ?_)
    · rw [← hm]; simp [h]
    · refine ⟨k + 1, less_envOf (by simp [hw]) rfl fun _ => rfl, ⟨by omega, by rw [← hm]; simp [h]⟩, by omega⟩
  · rw [List.drop_eq_nil_of_le (by omega)] at hm
    simp [hlt]
    simpa [memB] using hm

def idxS (x : ByteArray) : List ByteArray → Int → Int
  | [], _ => -1
  | s :: l, k => if x = s then k else idxS x l (k + 1)
theorem idxS_mem (x : ByteArray) : ∀ (l : List ByteArray) (k : Int), 0 ≤ k → decide (0 ≤ idxS x l k) = memB x l
  | [], k, h => by simp [idxS, memB]
  | s :: l, k, h => by
    unfold idxS memB
    by_cases e : x = s
    · simp [e, h]
    · simp only [if_neg e]
      rw [idxS_mem x l (k + 1) (by omega)]
      simp [Ne.symm e]

theorem q_index (c : Bool) (l : List ByteArray) (hl : l.length ≤ 4611686018427387904) (x : ByteArray) : Pure Try.prog 134 [strsAV c l, .v (.string x)] (.v (.int .i64 (idxS x l 0))) := by
  refine pure_of_code (G := (G0)) vers0 mixed0 Try.func134 rfl (by decide) (by simp [Try.f134]) (by simp) fun ver => ?_
  simp only [Try.f134, G0]
  simp
  refine aloop (α := Nat) (fun k => ⟨envOf [(0, strsAV c l), (1, .v (.string x)), (7, .v (.int .i64 l.length)), (8, .v (.int .i64 k))], ⟨[], noArrs ver⟩⟩)
    (fun k => k ≤ l.length ∧ idxS x (l.drop k) k = idxS x l 0) (fun k => l.length - k) 0 (less_envOf (by simp) rfl fun _ => rfl) (by simp) ?_
  rintro k ⟨hk, hm⟩
  by_cases hlt : k < l.length
  · have hw := wrapS hlt hl
    rw [drop_get hlt, idxS] at hm
    simp (config := { contextual := true }) [hlt]
    refine And.intro (fun h => ?_) (fun h => ?_)
    · simpa [h] using hm
    · refine ⟨k + 1, less_envOf (by simp [hw]) rfl fun _ => rfl, ⟨by omega, by simpa [h] using hm⟩, by omega⟩
  · rw [List.drop_eq_nil_of_le (by omega)] at hm
    simp [hlt]
    exact hm

theorem q_contains (c : Bool) (l : List ByteArray) (hl : l.length ≤ 4611686018427387904) (x : ByteArray) : Pure Try.prog 112 [strsAV c l, .v (.string x)] (.v (.bool (memB x l))) := by
  rw [← idxS_mem x l 0 (Int.le_refl _)]
  refine pure_of_code (G := G0) vers0 mixed0 Try.func112 rfl (by decide) (by simp [Try.f112]) (by simp) fun ver => ?_
  simp only [Try.f112, G0]
  repeat' first
    | with_reducible refine And.intro ?_ ?_
    | with_reducible intro _
    | (first | with_reducible refine adraw_f 2 (by decide +kernel) ?_ | with_reducible refine adraw_f 3 (by decide +kernel) ?_ | with_reducible refine adraw_f 4 (by decide +kernel) ?_ | with_reducible refine adraw_f 5 (by decide +kernel) ?_ | with_reducible refine adraw_f 6 (by decide +kernel) ?_ | with_reducible refine adraw_f 7 (by decide +kernel) ?_ | with_reducible refine adraw_f 8 (by decide +kernel) ?_ | with_reducible refine adraw_f 9 (by decide +kernel) ?_ | with_reducible refine adraw_f 10 (by decide +kernel) ?_ | with_reducible refine adraw_f 11 (by decide +kernel) ?_ | with_reducible refine adraw_cut 0 (by decide +kernel) ?_ | with_reducible refine adraw_cut 1 (by decide +kernel) ?_ | with_reducible refine adraw_cut 2 (by decide +kernel) ?_ | with_reducible refine adraw_cut 3 (by decide +kernel) ?_ | with_reducible refine adraw_cut 4 (by decide +kernel) ?_ | with_reducible refine adraw_cut 5 (by decide +kernel) ?_ | with_reducible refine adraw_cut 6 (by decide +kernel) ?_ | with_reducible refine adraw_cut 7 (by decide +kernel) ?_ | with_reducible refine adraw_cut 8 (by decide +kernel) ?_ | with_reducible refine adraw_cut 9 (by decide +kernel) ?_ | with_reducible refine adraw_all (by kernel_rfl) ?_)
    | with_reducible refine call_p (q_index c l hl x) (by simp) ?_
    | with_reducible refine call_f (q_index c l hl x) (by simp) ?_
    | simp (config := { contextual := true, maxSteps := 4000000 }) [*, -Int.not_le, -Int.not_lt]

end Go.Proofs.Ytokhnmchnfkiiaa.Am
