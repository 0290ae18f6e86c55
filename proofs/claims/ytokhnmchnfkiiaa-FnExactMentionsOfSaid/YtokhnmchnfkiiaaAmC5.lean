/- Packages in catalogs: found, given, faults. No conditions. -/
import Derived.Test.YtokhnmchnfkiiaaAmC3
import Derived.Test.YtokhnmchnfkiiaaAmC4
namespace Go.Proofs.Ytokhnmchnfkiiaa.Am
open Go Go.RowKit Go.Proofs
set_option linter.unusedSimpArgs false
set_option linter.unusedVariables false

theorem cmpF_zero {a b c x y z : Int} : cmpF a b c x y z = 0 ↔ a = x ∧ b = y ∧ c = z := by
  unfold cmpF signF
  repeat' split
  all_goals omega
theorem cmpF_anti {a b c x y z : Int} : cmpF a b c x y z ≤ 0 ↔ 0 ≤ cmpF x y z a b c := by
  unfold cmpF signF
  repeat' split
  all_goals omega
theorem cmpF_neg {a b c x y z : Int} : cmpF a b c x y z < 0 ↔ 0 < cmpF x y z a b c := by
  unfold cmpF signF
  repeat' split
  all_goals omega

def isPk (n : ByteArray) (v : Ver) (p : Pk) : Bool := decide (p.n = n) && decide (p.v.a = v.a ∧ p.v.b = v.b ∧ p.v.c = v.c)
def inTF (t : Trm) (n : ByteArray) (v : Ver) : Bool := decide (t.n = n) && decide (0 ≤ cmpF v.a v.b v.c t.lo.a t.lo.b t.lo.c) && decide (cmpF v.a v.b v.c t.hi.a t.hi.b t.hi.c < 0)
def givesF (p : Pk) (t : Trm) : Bool := (decide (t.n = p.n) || memB t.n p.pr) && inTF t t.n p.v
def givesOneF (l : List Trm) (p : Pk) : Bool := l.any (givesF p)

theorem q_findc (d : Bool) (p : Pk) (n : ByteArray) (v : Ver) : BCall Try.prog 114 [p.av d, .box 0 0, .box 1 0] [[.v (.string n)], [.v (.int .i64 v.a), .v (.int .i64 v.b), .v (.int .i64 v.c)]] (.v (.bool (isPk n v p))) := by
  refine bcode Try.func114 rfl (by decide) (by simp [Try.f114]) (by simp) fun ver => ?_
  simp only [Try.f114, Gb]
  by_cases h : p.n = n <;> simp [h, isPk]

theorem q_find (c d : Bool) (l : List Pk) (hl : l.length ≤ 4611686018427387904) (n : ByteArray) (v : Ver) : Pure Try.prog 56 [pksAV c d l, .v (.string n), v.av] (.v (.int .i64 (idxQ (isPk n v) l 0))) := by
  refine pure_of_code (G := (G0)) vers0 mixed0 Try.func56 rfl (by decide) (by simp [Try.f56]) (by simp) fun ver => ?_
  simp only [Try.f56, G0]
  simp
  refine call_b (xb_pks c d l hl 114 [] [.box 0 0, .box 1 0] [[.v (.string n)], [.v (.int .i64 v.a), .v (.int .i64 v.b), .v (.int .i64 v.c)]] (isPk n v) (fun _ => rfl) (fun _ => rfl) (fun _ => rfl) fun a _ => q_findc d a n v) rfl ?_
  simp

theorem p_find (c d : Bool) (l : List Pk) (hl : l.length ≤ 4611686018427387904) (n : ByteArray) (v : Ver) : Pure Try.prog 89 [pksAV c d l, .v (.string n), v.av] (.v (.int .i64 (idxQ (isPk n v) l 0))) := by
  refine pure_of_code (G := (G0)) vers0 mixed0 Try.func89 rfl (by decide) (by simp [Try.f89]) (by simp) fun ver => ?_
  simp only [Try.f89, G0]
  simp
  refine aloop (α := Nat) (fun k => ⟨envOf [(0, pksAV c d l), (1, .v (.string n)), (5, .box 0 0), (7, .v (.int .i64 k))], ⟨[[.v (.int .i64 v.a), .v (.int .i64 v.b), .v (.int .i64 v.c)]], noArrs ver⟩⟩)
    (fun k => k ≤ l.length ∧ idxQ (isPk n v) (l.drop k) k = idxQ (isPk n v) l 0) (fun k => l.length - k) 0 (less_envOf (by simp) rfl fun _ => rfl) (by simp) ?_
  rintro k ⟨hk, hm⟩
  by_cases hlt : k < l.length
  · have hw := wrapS hlt hl
    rw [drop_get hlt, idxQ] at hm
    simp [hlt]
    refine adraw_all (by kernel_rfl) ?_
    simp [hlt]
    by_cases hn : l[k].n = n
    · simp [hn, hlt]
      refine call_p (p_compareVersions _ _ _ _ _ _) (by simp) ?_
      simp (config := { contextual := true }) [cmpF_zero, -Int.not_lt, -Int.not_le]
      refine And.intro (fun a b c => ?_) (fun h => ?_)
      · simpa [isPk, hn, a, b, c] using hm
      · refine ⟨k + 1, less_envOf (by simp [hw]) rfl fun _ => rfl, ⟨by omega, ?_⟩, by omega⟩
        have : isPk n v l[k] = false := by simp only [isPk, hn, decide_true, Bool.true_and, decide_eq_false_iff_not]; rintro ⟨a, b, c⟩; exact h a b c
        simpa [this] using hm
    · simp [hn, hlt]
      have : isPk n v l[k] = false := by simp [isPk, hn]
      refine ⟨k + 1, less_envOf (by simp [hw]) rfl fun _ => rfl, ⟨by omega, by simpa [this] using hm⟩, by omega⟩
  · rw [List.drop_eq_nil_of_le (by omega)] at hm
    simp [hlt]
    exact hm

theorem p_inTerm (t : Trm) (n : ByteArray) (v : Ver) : Pure Try.prog 107 [t.av, .v (.string n), v.av] (.v (.bool (inTF t n v))) := by
  refine pure_of_code (G := G0) vers0 mixed0 Try.func107 rfl (by decide) (by simp [Try.f107]) (by simp) fun ver => ?_
  simp only [Try.f107, G0]
  repeat' first
    | with_reducible refine And.intro ?_ ?_
    | with_reducible intro _
    | (first | with_reducible refine adraw_f 2 (by decide +kernel) ?_ | with_reducible refine adraw_f 3 (by decide +kernel) ?_ | with_reducible refine adraw_f 4 (by decide +kernel) ?_ | with_reducible refine adraw_f 5 (by decide +kernel) ?_ | with_reducible refine adraw_f 6 (by decide +kernel) ?_ | with_reducible refine adraw_f 7 (by decide +kernel) ?_ | with_reducible refine adraw_f 8 (by decide +kernel) ?_ | with_reducible refine adraw_f 9 (by decide +kernel) ?_ | with_reducible refine adraw_f 10 (by decide +kernel) ?_ | with_reducible refine adraw_f 11 (by decide +kernel) ?_ | with_reducible refine adraw_cut 0 (by decide +kernel) ?_ | with_reducible refine adraw_cut 1 (by decide +kernel) ?_ | with_reducible refine adraw_cut 2 (by decide +kernel) ?_ | with_reducible refine adraw_cut 3 (by decide +kernel) ?_ | with_reducible refine adraw_cut 4 (by decide +kernel) ?_ | with_reducible refine adraw_cut 5 (by decide +kernel) ?_ | with_reducible refine adraw_cut 6 (by decide +kernel) ?_ | with_reducible refine adraw_cut 7 (by decide +kernel) ?_ | with_reducible refine adraw_cut 8 (by decide +kernel) ?_ | with_reducible refine adraw_cut 9 (by decide +kernel) ?_ | with_reducible refine adraw_all (by kernel_rfl) ?_)
    | with_reducible refine call_p (p_compareVersions _ _ _ _ _ _) (by simp) ?_
    | with_reducible refine call_f (p_compareVersions _ _ _ _ _ _) (by simp) ?_
    | simp (config := { contextual := true, maxSteps := 4000000 }) [*, inTF, -Int.not_le, -Int.not_lt]
  all_goals simp_all [inTF]

theorem q_has (t : Trm) (n : ByteArray) (v : Ver) : Pure Try.prog 100 [t.av, .v (.string n), v.av] (.v (.bool (inTF t n v))) := by
  refine pure_of_code (G := G0) vers0 mixed0 Try.func100 rfl (by decide) (by simp [Try.f100]) (by simp) fun ver => ?_
  simp only [Try.f100, G0]
  repeat' first
    | with_reducible refine And.intro ?_ ?_
    | with_reducible intro _
    | (first | with_reducible refine adraw_f 2 (by decide +kernel) ?_ | with_reducible refine adraw_f 3 (by decide +kernel) ?_ | with_reducible refine adraw_f 4 (by decide +kernel) ?_ | with_reducible refine adraw_f 5 (by decide +kernel) ?_ | with_reducible refine adraw_f 6 (by decide +kernel) ?_ | with_reducible refine adraw_f 7 (by decide +kernel) ?_ | with_reducible refine adraw_f 8 (by decide +kernel) ?_ | with_reducible refine adraw_f 9 (by decide +kernel) ?_ | with_reducible refine adraw_f 10 (by decide +kernel) ?_ | with_reducible refine adraw_f 11 (by decide +kernel) ?_ | with_reducible refine adraw_cut 0 (by decide +kernel) ?_ | with_reducible refine adraw_cut 1 (by decide +kernel) ?_ | with_reducible refine adraw_cut 2 (by decide +kernel) ?_ | with_reducible refine adraw_cut 3 (by decide +kernel) ?_ | with_reducible refine adraw_cut 4 (by decide +kernel) ?_ | with_reducible refine adraw_cut 5 (by decide +kernel) ?_ | with_reducible refine adraw_cut 6 (by decide +kernel) ?_ | with_reducible refine adraw_cut 7 (by decide +kernel) ?_ | with_reducible refine adraw_cut 8 (by decide +kernel) ?_ | with_reducible refine adraw_cut 9 (by decide +kernel) ?_ | with_reducible refine adraw_all (by kernel_rfl) ?_)
    | with_reducible refine call_p (p_compare _ _ _ _ _ _) (by simp) ?_
    | with_reducible refine call_f (p_compare _ _ _ _ _ _) (by simp) ?_
    | simp (config := { contextual := true, maxSteps := 4000000 }) [*, inTF, cmpF_anti, -Int.not_le, -Int.not_lt]
  all_goals simp_all [inTF, cmpF_anti]

theorem p_gives (d : Bool) (p : Pk) (hp : p.pr.length ≤ 4611686018427387904) (t : Trm) : Pure Try.prog 52 [p.av d, t.av] (.v (.bool (givesF p t))) := by
  refine pure_of_code (G := (G0)) vers0 mixed0 Try.func52 rfl (by decide) (by simp [Try.f52]) (by simp) fun ver => ?_
  simp only [Try.f52, G0]
  by_cases h1 : t.n = p.n
  · simp [h1]
    refine call_p (p_inTerm ⟨p.n, t.lo, t.hi⟩ p.n p.v) (by simp) ?_
    simp [givesF, inTF, h1]
  · simp [h1]
    refine call_p (p_holds _ p.pr hp _) (by simp) ?_
    cases h2 : memB t.n p.pr
    · simp [givesF, h1, h2]
    · simp
      refine call_p (p_inTerm t t.n p.v) (by simp) ?_
      simp [givesF, h1, h2]

end Go.Proofs.Ytokhnmchnfkiiaa.Am
