/- The law's own helpers over lists: sizes, copies, comparisons. No conditions. -/
import Derived.Test.YtokhnmchnfkiiaaAmC1
namespace Go.Proofs.Ytokhnmchnfkiiaa.Am
open Go Go.RowKit Go.Proofs
set_option linter.unusedSimpArgs false
set_option linter.unusedVariables false

theorem wrapS {k n : Nat} (h : k < n) (hn : n ≤ 4611686018427387904) : IntKind.i64.wrap ((k : Int) + 1) = ((k + 1 : Nat) : Int) := by rw [IntWalk.i64_in _ (by omega)]; omega

theorem e_version (a b c : Int) : Pure Try.prog 65 [.agg [.v (.int .i64 a), .v (.int .i64 b), .v (.int .i64 c)], .agg [.v (.int .i64 a), .v (.int .i64 b), .v (.int .i64 c)]] (.v (.bool true)) := by
  refine pure_of_code (G := G0) vers0 mixed0 Try.func65 rfl (by decide) (by simp [Try.f65]) (by simp) fun ver => ?_
  simp only [Try.f65, G0]
  repeat' first
    | with_reducible refine And.intro ?_ ?_
    | with_reducible intro _
    | (first | with_reducible refine adraw_f 2 (by decide +kernel) ?_ | with_reducible refine adraw_f 3 (by decide +kernel) ?_ | with_reducible refine adraw_f 4 (by decide +kernel) ?_ | with_reducible refine adraw_f 5 (by decide +kernel) ?_ | with_reducible refine adraw_f 6 (by decide +kernel) ?_ | with_reducible refine adraw_f 7 (by decide +kernel) ?_ | with_reducible refine adraw_f 8 (by decide +kernel) ?_ | with_reducible refine adraw_f 9 (by decide +kernel) ?_ | with_reducible refine adraw_f 10 (by decide +kernel) ?_ | with_reducible refine adraw_f 11 (by decide +kernel) ?_ | with_reducible refine adraw_cut 0 (by decide +kernel) ?_ | with_reducible refine adraw_cut 1 (by decide +kernel) ?_ | with_reducible refine adraw_cut 2 (by decide +kernel) ?_ | with_reducible refine adraw_cut 3 (by decide +kernel) ?_ | with_reducible refine adraw_cut 4 (by decide +kernel) ?_ | with_reducible refine adraw_cut 5 (by decide +kernel) ?_ | with_reducible refine adraw_cut 6 (by decide +kernel) ?_ | with_reducible refine adraw_cut 7 (by decide +kernel) ?_ | with_reducible refine adraw_cut 8 (by decide +kernel) ?_ | with_reducible refine adraw_cut 9 (by decide +kernel) ?_ | with_reducible refine adraw_all (by kernel_rfl) ?_)
    | simp (config := { contextual := true, maxSteps := 4000000 }) [*, -Int.not_le, -Int.not_lt]

theorem e_term (t : Trm) : Pure Try.prog 81 [t.av, t.av] (.v (.bool true)) := by
  simp only [Trm.av]
  refine pure_of_code (G := G0) vers0 mixed0 Try.func81 rfl (by decide) (by simp [Try.f81]) (by simp) fun ver => ?_
  simp only [Try.f81, G0]
  repeat' first
    | with_reducible refine And.intro ?_ ?_
    | with_reducible intro _
    | (first | with_reducible refine adraw_f 2 (by decide +kernel) ?_ | with_reducible refine adraw_f 3 (by decide +kernel) ?_ | with_reducible refine adraw_f 4 (by decide +kernel) ?_ | with_reducible refine adraw_f 5 (by decide +kernel) ?_ | with_reducible refine adraw_f 6 (by decide +kernel) ?_ | with_reducible refine adraw_f 7 (by decide +kernel) ?_ | with_reducible refine adraw_f 8 (by decide +kernel) ?_ | with_reducible refine adraw_f 9 (by decide +kernel) ?_ | with_reducible refine adraw_f 10 (by decide +kernel) ?_ | with_reducible refine adraw_f 11 (by decide +kernel) ?_ | with_reducible refine adraw_cut 0 (by decide +kernel) ?_ | with_reducible refine adraw_cut 1 (by decide +kernel) ?_ | with_reducible refine adraw_cut 2 (by decide +kernel) ?_ | with_reducible refine adraw_cut 3 (by decide +kernel) ?_ | with_reducible refine adraw_cut 4 (by decide +kernel) ?_ | with_reducible refine adraw_cut 5 (by decide +kernel) ?_ | with_reducible refine adraw_cut 6 (by decide +kernel) ?_ | with_reducible refine adraw_cut 7 (by decide +kernel) ?_ | with_reducible refine adraw_cut 8 (by decide +kernel) ?_ | with_reducible refine adraw_cut 9 (by decide +kernel) ?_ | with_reducible refine adraw_all (by kernel_rfl) ?_)
    | with_reducible refine call_p (e_version _ _ _) (by simp) ?_
    | with_reducible refine call_f (e_version _ _ _) (by simp) ?_
    | simp (config := { contextual := true, maxSteps := 4000000 }) [*, -Int.not_le, -Int.not_lt]

def szT (t : Trm) (n : Int) : Int := szTermF t.n n

theorem z_term (t : Trm) (n : Int) : Pure Try.prog 72 [t.av, .v (.int .i64 n)] (.v (.int .i64 (szT t n))) := p_szTerm _ _ _ _ _ _ _ _

@[reducible] def BigS (l : List ByteArray) : Prop := l.length * 16 ≤ 140737488355328
@[reducible] def BigI (l : List Int) : Prop := l.length * 8 ≤ 140737488355328
@[reducible] def BigT (l : List Trm) : Prop := l.length * 64 ≤ 140737488355328
@[reducible] def BigTT (l : List (List Trm)) : Prop := l.length * 24 ≤ 140737488355328 ∧ ∀ c ∈ l, BigT c
@[reducible] def Pk.Big (p : Pk) : Prop := BigS p.pr ∧ BigTT p.ne ∧ BigT p.ba
@[reducible] def BigP (l : List Pk) : Prop := l.length * 120 ≤ 140737488355328 ∧ ∀ p ∈ l, p.Big

def szr_strs : List ByteArray → Int → Int
  | [], n => n
  | a :: l, n => if IntKind.i64.wrap (n - a.size) < 0 then -1 else szr_strs l (IntKind.i64.wrap (n - a.size))
def sz_strs (l : List ByteArray) (n : Int) : Int := if IntKind.i64.wrap (n - l.length) < 0 then -1 else szr_strs l (IntKind.i64.wrap (n - l.length))

theorem z_strs (c : Bool) (l : List ByteArray) (hl : l.length * 16 ≤ 140737488355328) (n : Int) : Pure Try.prog 57 [strsAV c l, .v (.int .i64 n)] (.v (.int .i64 (sz_strs l n))) := by
  have hl2 : l.length ≤ 4611686018427387904 := by omega
  refine pure_of_code (G := (G0)) vers0 mixed0 Try.func57 rfl (by decide) (by simp [Try.f57]) (by simp) fun ver => ?_
  simp only [Try.f57, G0]
  by_cases h0 : IntKind.i64.wrap (n - l.length) < 0
  · simp [h0, sz_strs]
  have e : sz_strs l n = szr_strs l (IntKind.i64.wrap (n - l.length)) := by simp [sz_strs, h0]
  rw [e]
  simp [h0]
  refine aloop (α := Nat × Int) (fun d => ⟨envOf [(0, strsAV c l), (1, .v (.int .i64 d.2)), (5, .v (.int .i64 d.1))], ⟨[], noArrs ver⟩⟩)
    (fun d => d.1 ≤ l.length ∧ szr_strs (l.drop d.1) d.2 = szr_strs l (IntKind.i64.wrap (n - l.length))) (fun d => l.length - d.1) (0, IntKind.i64.wrap (n - l.length)) (less_envOf (by simp) rfl fun _ => rfl) (by simp) ?_
  rintro ⟨k, m⟩ ⟨hk, hm⟩
  simp only at hk hm ⊢
  by_cases hlt : k < l.length
  · have hw := wrapS hlt hl2
    rw [drop_get hlt, szr_strs] at hm
    have hmem : l[k] ∈ l := List.getElem_mem hlt
    simp [hlt, -Int.not_lt, -Int.not_le]
    try simp (config := { contextual := true }) [-Int.not_lt, -Int.not_le]
    refine And.intro (fun h => ?_) (fun h => ?_)
    · simpa [h] using hm
    · refine ⟨k + 1, IntKind.i64.wrap (m - l[k].size), less_envOf (by simp [hw]) rfl fun _ => rfl, ⟨by omega, by simpa [h] using hm⟩, by omega⟩
  · have hd : l.drop k = [] := List.drop_eq_nil_of_le (by omega)
    rw [hd] at hm
    simp [hlt]
    exact hm

def szr_trms : List Trm → Int → Int
  | [], n => n
  | a :: l, n => if szT a n < 0 then -1 else szr_trms l (szT a n)
def sz_trms (l : List Trm) (n : Int) : Int := if IntKind.i64.wrap (n - l.length) < 0 then -1 else szr_trms l (IntKind.i64.wrap (n - l.length))

theorem z_trms (c : Bool) (l : List Trm) (hl : l.length * 64 ≤ 140737488355328) (n : Int) : Pure Try.prog 24 [trmsAV c l, .v (.int .i64 n)] (.v (.int .i64 (sz_trms l n))) := by
  have hl2 : l.length ≤ 4611686018427387904 := by omega
  refine pure_of_code (G := (G0)) vers0 mixed0 Try.func24 rfl (by decide) (by simp [Try.f24]) (by simp) fun ver => ?_
  simp only [Try.f24, G0]
  by_cases h0 : IntKind.i64.wrap (n - l.length) < 0
  · simp [h0, sz_trms]
  have e : sz_trms l n = szr_trms l (IntKind.i64.wrap (n - l.length)) := by simp [sz_trms, h0]
  rw [e]
  simp [h0]
  refine aloop (α := Nat × Int) (fun d => ⟨envOf [(0, trmsAV c l), (1, .v (.int .i64 d.2)), (5, .v (.int .i64 d.1))], ⟨[], noArrs ver⟩⟩)
    (fun d => d.1 ≤ l.length ∧ szr_trms (l.drop d.1) d.2 = szr_trms l (IntKind.i64.wrap (n - l.length))) (fun d => l.length - d.1) (0, IntKind.i64.wrap (n - l.length)) (less_envOf (by simp) rfl fun _ => rfl) (by simp) ?_
  rintro ⟨k, m⟩ ⟨hk, hm⟩
  simp only at hk hm ⊢
  by_cases hlt : k < l.length
  · have hw := wrapS hlt hl2
    rw [drop_get hlt, szr_trms] at hm
    have hmem : l[k] ∈ l := List.getElem_mem hlt
    simp [hlt, -Int.not_lt, -Int.not_le]
    refine call_p (z_term l[k] _) (by simp) ?_
    try simp (config := { contextual := true }) [-Int.not_lt, -Int.not_le]
    refine And.intro (fun h => ?_) (fun h => ?_)
    · simpa [h] using hm
    · refine ⟨k + 1, szT l[k] m, less_envOf (by simp [hw]) rfl fun _ => rfl, ⟨by omega, by simpa [h] using hm⟩, by omega⟩
  · have hd : l.drop k = [] := List.drop_eq_nil_of_le (by omega)
    rw [hd] at hm
    simp [hlt]
    exact hm

def szr_cls : List (List Trm) → Int → Int
  | [], n => n
  | a :: l, n => if sz_trms a n < 0 then -1 else szr_cls l (sz_trms a n)
def sz_cls (l : List (List Trm)) (n : Int) : Int := if IntKind.i64.wrap (n - l.length) < 0 then -1 else szr_cls l (IntKind.i64.wrap (n - l.length))

theorem z_cls (c : Bool) (l : List (List Trm)) (hl : l.length * 24 ≤ 140737488355328 ∧ ∀ q ∈ l, BigT q) (n : Int) : Pure Try.prog 58 [clausesAV c l, .v (.int .i64 n)] (.v (.int .i64 (sz_cls l n))) := by
  have hl2 : l.length ≤ 4611686018427387904 := by have := hl.1; omega
  refine pure_of_code (G := (G0)) vers0 mixed0 Try.func58 rfl (by decide) (by simp [Try.f58]) (by simp) fun ver => ?_
  simp only [Try.f58, G0]
  by_cases h0 : IntKind.i64.wrap (n - l.length) < 0
  · simp [h0, sz_cls]
  have e : sz_cls l n = szr_cls l (IntKind.i64.wrap (n - l.length)) := by simp [sz_cls, h0]
  rw [e]
  simp [h0]
  refine aloop (α := Nat × Int) (fun d => ⟨envOf [(0, clausesAV c l), (1, .v (.int .i64 d.2)), (5, .v (.int .i64 d.1))], ⟨[], noArrs ver⟩⟩)
    (fun d => d.1 ≤ l.length ∧ szr_cls (l.drop d.1) d.2 = szr_cls l (IntKind.i64.wrap (n - l.length))) (fun d => l.length - d.1) (0, IntKind.i64.wrap (n - l.length)) (less_envOf (by simp) rfl fun _ => rfl) (by simp) ?_
  rintro ⟨k, m⟩ ⟨hk, hm⟩
  simp only at hk hm ⊢
  by_cases hlt : k < l.length
  · have hw := wrapS hlt hl2
    rw [drop_get hlt, szr_cls] at hm
    have hmem : l[k] ∈ l := List.getElem_mem hlt
    simp [hlt, -Int.not_lt, -Int.not_le]
    refine call_p (z_trms c l[k] (hl.2 _ hmem) _) (by simp) ?_
    try simp (config := { contextual := true }) [-Int.not_lt, -Int.not_le]
    refine And.intro (fun h => ?_) (fun h => ?_)
    · simpa [h] using hm
    · refine ⟨k + 1, sz_trms l[k] m, less_envOf (by simp [hw]) rfl fun _ => rfl, ⟨by omega, by simpa [h] using hm⟩, by omega⟩
  · have hd : l.drop k = [] := List.drop_eq_nil_of_le (by omega)
    rw [hd] at hm
    simp [hlt]
    exact hm

def szPk (p : Pk) (n : Int) : Int :=
  if IntKind.i64.wrap (n - p.n.size) < 0 then -1 else if sz_strs p.pr (IntKind.i64.wrap (n - p.n.size)) < 0 then -1 else
  if sz_cls p.ne (sz_strs p.pr (IntKind.i64.wrap (n - p.n.size))) < 0 then -1 else
  if sz_trms p.ba (sz_cls p.ne (sz_strs p.pr (IntKind.i64.wrap (n - p.n.size)))) < 0 then -1 else sz_trms p.ba (sz_cls p.ne (sz_strs p.pr (IntKind.i64.wrap (n - p.n.size))))

theorem z_pk (c : Bool) (p : Pk) (hp : p.Big) (n : Int) : Pure Try.prog 15 [p.av c, .v (.int .i64 n)] (.v (.int .i64 (szPk p n))) := by
  simp only [Pk.av]
  obtain ⟨hp1, hp2, hp3⟩ := hp
  refine pure_of_code (G := G0) vers0 mixed0 Try.func15 rfl (by decide) (by simp [Try.f15]) (by simp) fun ver => ?_
  simp only [Try.f15, G0]
  repeat' first
    | with_reducible refine And.intro ?_ ?_
    | with_reducible intro _
    | (first | with_reducible refine adraw_f 2 (by decide +kernel) ?_ | with_reducible refine adraw_f 3 (by decide +kernel) ?_ | with_reducible refine adraw_f 4 (by decide +kernel) ?_ | with_reducible refine adraw_f 5 (by decide +kernel) ?_ | with_reducible refine adraw_f 6 (by decide +kernel) ?_ | with_reducible refine adraw_f 7 (by decide +kernel) ?_ | with_reducible refine adraw_f 8 (by decide +kernel) ?_ | with_reducible refine adraw_f 9 (by decide +kernel) ?_ | with_reducible refine adraw_f 10 (by decide +kernel) ?_ | with_reducible refine adraw_f 11 (by decide +kernel) ?_ | with_reducible refine adraw_cut 0 (by decide +kernel) ?_ | with_reducible refine adraw_cut 1 (by decide +kernel) ?_ | with_reducible refine adraw_cut 2 (by decide +kernel) ?_ | with_reducible refine adraw_cut 3 (by decide +kernel) ?_ | with_reducible refine adraw_cut 4 (by decide +kernel) ?_ | with_reducible refine adraw_cut 5 (by decide +kernel) ?_ | with_reducible refine adraw_cut 6 (by decide +kernel) ?_ | with_reducible refine adraw_cut 7 (by decide +kernel) ?_ | with_reducible refine adraw_cut 8 (by decide +kernel) ?_ | with_reducible refine adraw_cut 9 (by decide +kernel) ?_ | with_reducible refine adraw_all (by kernel_rfl) ?_)
    | with_reducible refine call_p (z_strs c p.pr hp1 _) (by simp) ?_
    | with_reducible refine call_f (z_strs c p.pr hp1 _) (by simp) ?_
    | with_reducible refine call_p (z_cls c p.ne hp2 _) (by simp) ?_
    | with_reducible refine call_f (z_cls c p.ne hp2 _) (by simp) ?_
    | with_reducible refine call_p (z_trms c p.ba hp3 _) (by simp) ?_
    | with_reducible refine call_f (z_trms c p.ba hp3 _) (by simp) ?_
    | simp (config := { contextual := true, maxSteps := 4000000 }) [*, szPk, -Int.not_le, -Int.not_lt]

def szr_pks : List Pk → Int → Int
  | [], n => n
  | a :: l, n => if szPk a n < 0 then -1 else szr_pks l (szPk a n)
def sz_pks (l : List Pk) (n : Int) : Int := if IntKind.i64.wrap (n - l.length) < 0 then -1 else szr_pks l (IntKind.i64.wrap (n - l.length))

theorem z_pks (c : Bool) (l : List Pk) (hl : l.length * 120 ≤ 140737488355328 ∧ ∀ p ∈ l, p.Big) (n : Int) : Pure Try.prog 23 [pksAV c c l, .v (.int .i64 n)] (.v (.int .i64 (sz_pks l n))) := by
  have hl2 : l.length ≤ 4611686018427387904 := by have := hl.1; omega
  refine pure_of_code (G := (G0)) vers0 mixed0 Try.func23 rfl (by decide) (by simp [Try.f23]) (by simp) fun ver => ?_
  simp only [Try.f23, G0]
  by_cases h0 : IntKind.i64.wrap (n - l.length) < 0
  · simp [h0, sz_pks]
  have e : sz_pks l n = szr_pks l (IntKind.i64.wrap (n - l.length)) := by simp [sz_pks, h0]
  rw [e]
  simp [h0]
  refine aloop (α := Nat × Int) (fun d => ⟨envOf [(0, pksAV c c l), (1, .v (.int .i64 d.2)), (5, .v (.int .i64 d.1))], ⟨[], noArrs ver⟩⟩)
    (fun d => d.1 ≤ l.length ∧ szr_pks (l.drop d.1) d.2 = szr_pks l (IntKind.i64.wrap (n - l.length))) (fun d => l.length - d.1) (0, IntKind.i64.wrap (n - l.length)) (less_envOf (by simp) rfl fun _ => rfl) (by simp) ?_
  rintro ⟨k, m⟩ ⟨hk, hm⟩
  simp only at hk hm ⊢
  by_cases hlt : k < l.length
  · have hw := wrapS hlt hl2
    rw [drop_get hlt, szr_pks] at hm
    have hmem : l[k] ∈ l := List.getElem_mem hlt
    simp [hlt, -Int.not_lt, -Int.not_le]
    refine call_p (z_pk c l[k] (hl.2 _ hmem) _) (by simp) ?_
    try simp (config := { contextual := true }) [-Int.not_lt, -Int.not_le]
    refine And.intro (fun h => ?_) (fun h => ?_)
    · simpa [h] using hm
    · refine ⟨k + 1, szPk l[k] m, less_envOf (by simp [hw]) rfl fun _ => rfl, ⟨by omega, by simpa [h] using hm⟩, by omega⟩
  · have hd : l.drop k = [] := List.drop_eq_nil_of_le (by omega)
    rw [hd] at hm
    simp [hlt]
    exact hm

theorem t_strs (c : Bool) (l : List ByteArray) (hl : BigS l) : Pure Try.prog 62 [strsAV c l] (strsAV false l) := by
  have hl1 : l.length * 16 ≤ 140737488355328 := hl
  have hl2 : (l.length : Int) * 16 ≤ 140737488355328 := by omega
  have hl3 : (l.length : Int) ≤ 140737488355328 := by omega
  have hl4 : l.length ≤ 4611686018427387904 := by omega
  refine pure_of_code (G := (G0)) vers0 mixed0 Try.func62 rfl (by decide) (by simp [Try.f62]) (by simp) fun ver => ?_
  simp only [Try.f62, G0]
  simp [hl2, hl3, Mem.made, noArrs]
  refine aloop (α := Nat) (fun k => ⟨envOf [(0, strsAV c l), (3, .arr 7 (ver 7 + 1) 0 l.length), (4, .v (.int .i64 k))], ⟨[], fun j => if j = 7 then ⟨ver 7 + 1, true, 9, fillR (strCells) [.v (.string ByteArray.empty)] l k⟩ else ⟨ver j, false, 0, []⟩⟩⟩)
    (fun k => k ≤ l.length) (fun k => l.length - k) 0 (less_envOf (by simp) rfl (by intro j; simp [fillR_zero])) (by simp) ?_
  intro k hk
  by_cases hlt : k < l.length
  · have hw := wrapS hlt hl4
    have hmem : l[k] ∈ l := List.getElem_mem hlt
    have hset := fillR_set (strCells) [.v (.string ByteArray.empty)] l hlt
    simp only [strCells, intCells, byteCells, Trm.cells, clauseCells, Pk.cells] at hset
    simp [hlt, Mem.ok, fillR_get]
    refine ⟨k + 1, less_envOf (by simp [hw]) rfl (by intro j; by_cases hj : j = 7 <;> simp [hj, hset]), by omega, by omega⟩
  · obtain rfl : k = l.length := by omega
    simp [Mem.ok, fillR_all]

theorem t_ints (c : Bool) (l : List Int) (hl : BigI l) : Pure Try.prog 28 [intsAV c l] (intsAV false l) := by
  have hl1 : l.length * 8 ≤ 140737488355328 := hl
  have hl2 : (l.length : Int) * 8 ≤ 140737488355328 := by omega
  have hl3 : (l.length : Int) ≤ 140737488355328 := by omega
  have hl4 : l.length ≤ 4611686018427387904 := by omega
  refine pure_of_code (G := (G0)) vers0 mixed0 Try.func28 rfl (by decide) (by simp [Try.f28]) (by simp) fun ver => ?_
  simp only [Try.f28, G0]
  simp [hl2, hl3, Mem.made, noArrs]
  refine aloop (α := Nat) (fun k => ⟨envOf [(0, intsAV c l), (3, .arr 7 (ver 7 + 1) 0 l.length), (4, .v (.int .i64 k))], ⟨[], fun j => if j = 7 then ⟨ver 7 + 1, true, 2, fillR (intCells) [.v (.int .i64 0)] l k⟩ else ⟨ver j, false, 0, []⟩⟩⟩)
    (fun k => k ≤ l.length) (fun k => l.length - k) 0 (less_envOf (by simp) rfl (by intro j; simp [fillR_zero])) (by simp) ?_
  intro k hk
  by_cases hlt : k < l.length
  · have hw := wrapS hlt hl4
    have hmem : l[k] ∈ l := List.getElem_mem hlt
    have hset := fillR_set (intCells) [.v (.int .i64 0)] l hlt
    simp only [strCells, intCells, byteCells, Trm.cells, clauseCells, Pk.cells] at hset
    simp [hlt, Mem.ok, fillR_get]
    refine ⟨k + 1, less_envOf (by simp [hw]) rfl (by intro j; by_cases hj : j = 7 <;> simp [hj, hset]), by omega, by omega⟩
  · obtain rfl : k = l.length := by omega
    simp [Mem.ok, fillR_all]

theorem t_term (t : Trm) : Pure Try.prog 76 [t.av] t.av := p_toTerm _ _ _ _ _ _ _

theorem t_trms (c : Bool) (l : List Trm) (hl : BigT l) : Pure Try.prog 27 [trmsAV c l] (trmsAV false l) := by
  have hl1 : l.length * 64 ≤ 140737488355328 := hl
  have hl2 : (l.length : Int) * 64 ≤ 140737488355328 := by omega
  have hl3 : (l.length : Int) ≤ 140737488355328 := by omega
  have hl4 : l.length ≤ 4611686018427387904 := by omega
  refine pure_of_code (G := (G0)) vers0 mixed0 Try.func27 rfl (by decide) (by simp [Try.f27]) (by simp) fun ver => ?_
  simp only [Try.f27, G0]
  simp [hl2, hl3, Mem.made, noArrs]
  refine aloop (α := Nat) (fun k => ⟨envOf [(0, trmsAV c l), (3, .arr 7 (ver 7 + 1) 0 l.length), (4, .v (.int .i64 k))], ⟨[], fun j => if j = 7 then ⟨ver 7 + 1, true, 28, fillR (Trm.cells) [.v (.string ByteArray.empty), .v (.int .i64 0), .v (.int .i64 0), .v (.int .i64 0), .v (.int .i64 0), .v (.int .i64 0), .v (.int .i64 0)] l k⟩ else ⟨ver j, false, 0, []⟩⟩⟩)
    (fun k => k ≤ l.length) (fun k => l.length - k) 0 (less_envOf (by simp) rfl (by intro j; simp [fillR_zero])) (by simp) ?_
  intro k hk
  by_cases hlt : k < l.length
  · have hw := wrapS hlt hl4
    have hmem : l[k] ∈ l := List.getElem_mem hlt
    have hset := fillR_set (Trm.cells) [.v (.string ByteArray.empty), .v (.int .i64 0), .v (.int .i64 0), .v (.int .i64 0), .v (.int .i64 0), .v (.int .i64 0), .v (.int .i64 0)] l hlt
    simp only [strCells, intCells, byteCells, Trm.cells, clauseCells, Pk.cells] at hset
    simp [hlt, Mem.ok, fillR_get]
    refine call_p (t_term l[k]) (by simp) ?_
    simp [Mem.ok, hlt, fillR_get]
    refine ⟨k + 1, less_envOf (by simp [hw]) rfl (by intro j; by_cases hj : j = 7 <;> simp [hj, hset]), by omega, by omega⟩
  · obtain rfl : k = l.length := by omega
    simp [Mem.ok, fillR_all]

theorem t_cls (c : Bool) (l : List (List Trm)) (hl : l.length * 24 ≤ 140737488355328 ∧ ∀ q ∈ l, BigT q) : Pure Try.prog 63 [clausesAV c l] (clausesAV false l) := by
  have hl1 : l.length * 24 ≤ 140737488355328 := hl.1
  have hl2 : (l.length : Int) * 24 ≤ 140737488355328 := by omega
  have hl3 : (l.length : Int) ≤ 140737488355328 := by omega
  have hl4 : l.length ≤ 4611686018427387904 := by omega
  refine pure_of_code (G := (G0)) vers0 mixed0 Try.func63 rfl (by decide) (by simp [Try.f63]) (by simp) fun ver => ?_
  simp only [Try.f63, G0]
  simp [hl2, hl3, Mem.made, noArrs]
  refine aloop (α := Nat) (fun k => ⟨envOf [(0, clausesAV c l), (3, .arr 7 (ver 7 + 1) 0 l.length), (4, .v (.int .i64 k))], ⟨[], fun j => if j = 7 then ⟨ver 7 + 1, true, 36, fillR (clauseCells false) [.nil] l k⟩ else ⟨ver j, false, 0, []⟩⟩⟩)
    (fun k => k ≤ l.length) (fun k => l.length - k) 0 (less_envOf (by simp) rfl (by intro j; simp [fillR_zero])) (by simp) ?_
  intro k hk
  by_cases hlt : k < l.length
  · have hw := wrapS hlt hl4
    have hmem : l[k] ∈ l := List.getElem_mem hlt
    have hset := fillR_set (clauseCells false) [.nil] l hlt
    simp only [strCells, intCells, byteCells, Trm.cells, clauseCells, Pk.cells] at hset
    simp [hlt, Mem.ok, fillR_get]
    refine call_p (t_trms c l[k] (hl.2 _ hmem)) (by simp) ?_
    simp [Mem.ok, hlt, fillR_get]
    refine ⟨k + 1, less_envOf (by simp [hw]) rfl (by intro j; by_cases hj : j = 7 <;> simp [hj, hset]), by omega, by omega⟩
  · obtain rfl : k = l.length := by omega
    simp [Mem.ok, fillR_all]

theorem t_pk (c : Bool) (p : Pk) (hp : p.Big) : Pure Try.prog 17 [p.av c] (p.av false) := by
  simp only [Pk.av]
  obtain ⟨hp1, hp2, hp3⟩ := hp
  refine pure_of_code (G := G0) vers0 mixed0 Try.func17 rfl (by decide) (by simp [Try.f17]) (by simp) fun ver => ?_
  simp only [Try.f17, G0]
  repeat' first
    | with_reducible refine And.intro ?_ ?_
    | with_reducible intro _
    | (first | with_reducible refine adraw_f 2 (by decide +kernel) ?_ | with_reducible refine adraw_f 3 (by decide +kernel) ?_ | with_reducible refine adraw_f 4 (by decide +kernel) ?_ | with_reducible refine adraw_f 5 (by decide +kernel) ?_ | with_reducible refine adraw_f 6 (by decide +kernel) ?_ | with_reducible refine adraw_f 7 (by decide +kernel) ?_ | with_reducible refine adraw_f 8 (by decide +kernel) ?_ | with_reducible refine adraw_f 9 (by decide +kernel) ?_ | with_reducible refine adraw_f 10 (by decide +kernel) ?_ | with_reducible refine adraw_f 11 (by decide +kernel) ?_ | with_reducible refine adraw_cut 0 (by decide +kernel) ?_ | with_reducible refine adraw_cut 1 (by decide +kernel) ?_ | with_reducible refine adraw_cut 2 (by decide +kernel) ?_ | with_reducible refine adraw_cut 3 (by decide +kernel) ?_ | with_reducible refine adraw_cut 4 (by decide +kernel) ?_ | with_reducible refine adraw_cut 5 (by decide +kernel) ?_ | with_reducible refine adraw_cut 6 (by decide +kernel) ?_ | with_reducible refine adraw_cut 7 (by decide +kernel) ?_ | with_reducible refine adraw_cut 8 (by decide +kernel) ?_ | with_reducible refine adraw_cut 9 (by decide +kernel) ?_ | with_reducible refine adraw_all (by kernel_rfl) ?_)
    | with_reducible refine call_p (p_toVersion _ _ _) (by simp) ?_
    | with_reducible refine call_f (p_toVersion _ _ _) (by simp) ?_
    | with_reducible refine call_p (t_strs c p.pr hp1) (by simp) ?_
    | with_reducible refine call_f (t_strs c p.pr hp1) (by simp) ?_
    | with_reducible refine call_p (t_cls c p.ne hp2) (by simp) ?_
    | with_reducible refine call_f (t_cls c p.ne hp2) (by simp) ?_
    | with_reducible refine call_p (t_trms c p.ba hp3) (by simp) ?_
    | with_reducible refine call_f (t_trms c p.ba hp3) (by simp) ?_
    | simp (config := { contextual := true, maxSteps := 4000000 }) [*, -Int.not_le, -Int.not_lt]

theorem t_pks (c : Bool) (l : List Pk) (hl : l.length * 120 ≤ 140737488355328 ∧ ∀ p ∈ l, p.Big) : Pure Try.prog 26 [pksAV c c l] (pksAV false false l) := by
  have hl1 : l.length * 120 ≤ 140737488355328 := hl.1
  have hl2 : (l.length : Int) * 120 ≤ 140737488355328 := by omega
  have hl3 : (l.length : Int) ≤ 140737488355328 := by omega
  have hl4 : l.length ≤ 4611686018427387904 := by omega
  refine pure_of_code (G := (G0)) vers0 mixed0 Try.func26 rfl (by decide) (by simp [Try.f26]) (by simp) fun ver => ?_
  simp only [Try.f26, G0]
  simp [hl2, hl3, Mem.made, noArrs]
  refine aloop (α := Nat) (fun k => ⟨envOf [(0, pksAV c c l), (3, .arr 7 (ver 7 + 1) 0 l.length), (4, .v (.int .i64 k))], ⟨[], fun j => if j = 7 then ⟨ver 7 + 1, true, 38, fillR (Pk.cells false) [.v (.string ByteArray.empty), .v (.int .i64 0), .v (.int .i64 0), .v (.int .i64 0), .v (.int .i64 0), .nil, .nil, .nil] l k⟩ else ⟨ver j, false, 0, []⟩⟩⟩)
    (fun k => k ≤ l.length) (fun k => l.length - k) 0 (less_envOf (by simp) rfl (by intro j; simp [fillR_zero])) (by simp) ?_
  intro k hk
  by_cases hlt : k < l.length
  · have hw := wrapS hlt hl4
    have hmem : l[k] ∈ l := List.getElem_mem hlt
    have hset := fillR_set (Pk.cells false) [.v (.string ByteArray.empty), .v (.int .i64 0), .v (.int .i64 0), .v (.int .i64 0), .v (.int .i64 0), .nil, .nil, .nil] l hlt
    simp only [strCells, intCells, byteCells, Trm.cells, clauseCells, Pk.cells] at hset
    simp [hlt, Mem.ok, fillR_get]
    refine call_p (t_pk c l[k] (hl.2 _ hmem)) (by simp) ?_
    simp [Mem.ok, hlt, fillR_get]
    refine ⟨k + 1, less_envOf (by simp [hw]) rfl (by intro j; by_cases hj : j = 7 <;> simp [hj, hset]), by omega, by omega⟩
  · obtain rfl : k = l.length := by omega
    simp [Mem.ok, fillR_all]

theorem e_strs (c d : Bool) (l : List ByteArray) (hl : l.length ≤ 4611686018427387904) : Pure Try.prog 66 [strsAV c l, strsAV d l] (.v (.bool true)) := by
  refine pure_of_code (G := (G0)) vers0 mixed0 Try.func66 rfl (by decide) (by simp [Try.f66]) (by simp) fun ver => ?_
  simp only [Try.f66, G0]
  simp
  refine aloop (α := Nat) (fun k => ⟨envOf [(0, strsAV c l), (1, strsAV d l), (5, .v (.int .i64 k))], ⟨[], noArrs ver⟩⟩)
    (fun k => k ≤ l.length) (fun k => l.length - k) 0 (less_envOf (by simp) rfl fun _ => rfl) (by simp) ?_
  intro k hk
  by_cases hlt : k < l.length
  · have hw := wrapS hlt hl
    have hmem : l[k] ∈ l := List.getElem_mem hlt
    simp [hlt]
    refine adraw_all (by kernel_rfl) ?_
    simp [hlt]
    try simp
    refine ⟨k + 1, less_envOf (by simp [hw]) rfl fun _ => rfl, by omega, by omega⟩
  · simp [hlt]

theorem e_ints (c d : Bool) (l : List Int) (hl : l.length ≤ 4611686018427387904) : Pure Try.prog 32 [intsAV c l, intsAV d l] (.v (.bool true)) := by
  refine pure_of_code (G := (G0)) vers0 mixed0 Try.func32 rfl (by decide) (by simp [Try.f32]) (by simp) fun ver => ?_
  simp only [Try.f32, G0]
  simp
  refine aloop (α := Nat) (fun k => ⟨envOf [(0, intsAV c l), (1, intsAV d l), (5, .v (.int .i64 k))], ⟨[], noArrs ver⟩⟩)
    (fun k => k ≤ l.length) (fun k => l.length - k) 0 (less_envOf (by simp) rfl fun _ => rfl) (by simp) ?_
  intro k hk
  by_cases hlt : k < l.length
  · have hw := wrapS hlt hl
    have hmem : l[k] ∈ l := List.getElem_mem hlt
    simp [hlt]
    refine adraw_all (by kernel_rfl) ?_
    simp [hlt]
    try simp
    refine ⟨k + 1, less_envOf (by simp [hw]) rfl fun _ => rfl, by omega, by omega⟩
  · simp [hlt]

theorem e_trms (c d : Bool) (l : List Trm) (hl : l.length ≤ 4611686018427387904) : Pure Try.prog 30 [trmsAV c l, trmsAV d l] (.v (.bool true)) := by
  refine pure_of_code (G := (G0)) vers0 mixed0 Try.func30 rfl (by decide) (by simp [Try.f30]) (by simp) fun ver => ?_
  simp only [Try.f30, G0]
  simp
  refine aloop (α := Nat) (fun k => ⟨envOf [(0, trmsAV c l), (1, trmsAV d l), (5, .v (.int .i64 k))], ⟨[], noArrs ver⟩⟩)
    (fun k => k ≤ l.length) (fun k => l.length - k) 0 (less_envOf (by simp) rfl fun _ => rfl) (by simp) ?_
  intro k hk
  by_cases hlt : k < l.length
  · have hw := wrapS hlt hl
    have hmem : l[k] ∈ l := List.getElem_mem hlt
    simp [hlt]
    refine adraw_all (by kernel_rfl) ?_
    simp [hlt]
    refine call_p (e_term l[k]) (by simp) ?_
    try simp
    refine ⟨k + 1, less_envOf (by simp [hw]) rfl fun _ => rfl, by omega, by omega⟩
  · simp [hlt]

theorem e_cls (c d : Bool) (l : List (List Trm)) (hl : l.length ≤ 4611686018427387904) (hb : ∀ q ∈ l, q.length ≤ 4611686018427387904) : Pure Try.prog 67 [clausesAV c l, clausesAV d l] (.v (.bool true)) := by
  refine pure_of_code (G := (G0)) vers0 mixed0 Try.func67 rfl (by decide) (by simp [Try.f67]) (by simp) fun ver => ?_
  simp only [Try.f67, G0]
  simp
  refine aloop (α := Nat) (fun k => ⟨envOf [(0, clausesAV c l), (1, clausesAV d l), (5, .v (.int .i64 k))], ⟨[], noArrs ver⟩⟩)
    (fun k => k ≤ l.length) (fun k => l.length - k) 0 (less_envOf (by simp) rfl fun _ => rfl) (by simp) ?_
  intro k hk
  by_cases hlt : k < l.length
  · have hw := wrapS hlt hl
    have hmem : l[k] ∈ l := List.getElem_mem hlt
    simp [hlt]
    refine adraw_all (by kernel_rfl) ?_
    simp [hlt]
    refine call_p (e_trms c d l[k] (hb _ hmem)) (by simp) ?_
    try simp
    refine ⟨k + 1, less_envOf (by simp [hw]) rfl fun _ => rfl, by omega, by omega⟩
  · simp [hlt]

@[reducible] def Pk.Len (p : Pk) : Prop := p.pr.length ≤ 4611686018427387904 ∧ p.ne.length ≤ 4611686018427387904 ∧ (∀ q ∈ p.ne, q.length ≤ 4611686018427387904) ∧ p.ba.length ≤ 4611686018427387904
theorem Pk.Big.len {p : Pk} (h : p.Big) : p.Len := by
  obtain ⟨h1, ⟨h2, h3⟩, h4⟩ := h
  unfold BigS BigT at *
  exact ⟨by omega, by omega, fun q hq => by have := h3 q hq; omega, by omega⟩

theorem e_pk (c d : Bool) (p : Pk) (hp : p.Len) : Pure Try.prog 19 [p.av c, p.av d] (.v (.bool true)) := by
  simp only [Pk.av]
  obtain ⟨hp1, hp2, hp3, hp4⟩ := hp
  refine pure_of_code (G := G0) vers0 mixed0 Try.func19 rfl (by decide) (by simp [Try.f19]) (by simp) fun ver => ?_
  simp only [Try.f19, G0]
  repeat' first
    | with_reducible refine And.intro ?_ ?_
    | with_reducible intro _
    | (first | with_reducible refine adraw_f 2 (by decide +kernel) ?_ | with_reducible refine adraw_f 3 (by decide +kernel) ?_ | with_reducible refine adraw_f 4 (by decide +kernel) ?_ | with_reducible refine adraw_f 5 (by decide +kernel) ?_ | with_reducible refine adraw_f 6 (by decide +kernel) ?_ | with_reducible refine adraw_f 7 (by decide +kernel) ?_ | with_reducible refine adraw_f 8 (by decide +kernel) ?_ | with_reducible refine adraw_f 9 (by decide +kernel) ?_ | with_reducible refine adraw_f 10 (by decide +kernel) ?_ | with_reducible refine adraw_f 11 (by decide +kernel) ?_ | with_reducible refine adraw_cut 0 (by decide +kernel) ?_ | with_reducible refine adraw_cut 1 (by decide +kernel) ?_ | with_reducible refine adraw_cut 2 (by decide +kernel) ?_ | with_reducible refine adraw_cut 3 (by decide +kernel) ?_ | with_reducible refine adraw_cut 4 (by decide +kernel) ?_ | with_reducible refine adraw_cut 5 (by decide +kernel) ?_ | with_reducible refine adraw_cut 6 (by decide +kernel) ?_ | with_reducible refine adraw_cut 7 (by decide +kernel) ?_ | with_reducible refine adraw_cut 8 (by decide +kernel) ?_ | with_reducible refine adraw_cut 9 (by decide +kernel) ?_ | with_reducible refine adraw_all (by kernel_rfl) ?_)
    | with_reducible refine call_p (e_version _ _ _) (by simp) ?_
    | with_reducible refine call_f (e_version _ _ _) (by simp) ?_
    | with_reducible refine call_p (e_strs c d p.pr hp1) (by simp) ?_
    | with_reducible refine call_f (e_strs c d p.pr hp1) (by simp) ?_
    | with_reducible refine call_p (e_cls c d p.ne hp2 hp3) (by simp) ?_
    | with_reducible refine call_f (e_cls c d p.ne hp2 hp3) (by simp) ?_
    | with_reducible refine call_p (e_trms c d p.ba hp4) (by simp) ?_
    | with_reducible refine call_f (e_trms c d p.ba hp4) (by simp) ?_
    | simp (config := { contextual := true, maxSteps := 4000000 }) [*, -Int.not_le, -Int.not_lt]

theorem e_pks (c d : Bool) (l : List Pk) (hl : l.length ≤ 4611686018427387904) (hb : ∀ q ∈ l, q.Len) : Pure Try.prog 31 [pksAV c c l, pksAV d d l] (.v (.bool true)) := by
  refine pure_of_code (G := (G0)) vers0 mixed0 Try.func31 rfl (by decide) (by simp [Try.f31]) (by simp) fun ver => ?_
  simp only [Try.f31, G0]
  simp
  refine aloop (α := Nat) (fun k => ⟨envOf [(0, pksAV c c l), (1, pksAV d d l), (5, .v (.int .i64 k))], ⟨[], noArrs ver⟩⟩)
    (fun k => k ≤ l.length) (fun k => l.length - k) 0 (less_envOf (by simp) rfl fun _ => rfl) (by simp) ?_
  intro k hk
  by_cases hlt : k < l.length
  · have hw := wrapS hlt hl
    have hmem : l[k] ∈ l := List.getElem_mem hlt
    simp [hlt]
    refine adraw_all (by kernel_rfl) ?_
    simp [hlt]
    refine call_p (e_pk c d l[k] (hb _ hmem)) (by simp) ?_
    try simp
    refine ⟨k + 1, less_envOf (by simp [hw]) rfl fun _ => rfl, by omega, by omega⟩
  · simp [hlt]

end Go.Proofs.Ytokhnmchnfkiiaa.Am
