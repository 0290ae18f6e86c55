/- The law's own helpers over lists: sizes, copies, comparisons. No conditions. -/
import Derived.Test.YtldbckbldddaaaaAmC1
namespace Go.Proofs.Ytldbckbldddaaaa.Am
open Go Go.RowKit Go.Proofs
set_option linter.unusedSimpArgs false
set_option linter.unusedVariables false

theorem wrapS {k n : Nat} (h : k < n) (hn : n ≤ 4611686018427387904) : IntKind.i64.wrap ((k : Int) + 1) = ((k + 1 : Nat) : Int) := by rw [IntWalk.i64_in _ (by omega)]; omega

theorem e_version (a b c : Int) : Pure Try.prog 42 [.agg [.v (.int .i64 a), .v (.int .i64 b), .v (.int .i64 c)], .agg [.v (.int .i64 a), .v (.int .i64 b), .v (.int .i64 c)]] (.v (.bool true)) := by
  refine pure_of_code (G := G0) vers0 mixed0 Try.func42 rfl (by decide) (by simp [Try.f42]) (by simp) fun ver => ?_
  simp only [Try.f42, G0]
  repeat' first
    | with_reducible refine And.intro ?_ ?_
    | with_reducible intro _
    | (first | with_reducible refine adraw_f 2 (by decide +kernel) ?_ | with_reducible refine adraw_f 3 (by decide +kernel) ?_ | with_reducible refine adraw_f 4 (by decide +kernel) ?_ | with_reducible refine adraw_f 5 (by decide +kernel) ?_ | with_reducible refine adraw_f 6 (by decide +kernel) ?_ | with_reducible refine adraw_f 7 (by decide +kernel) ?_ | with_reducible refine adraw_f 8 (by decide +kernel) ?_ | with_reducible refine adraw_f 9 (by decide +kernel) ?_ | with_reducible refine adraw_f 10 (by decide +kernel) ?_ | with_reducible refine adraw_f 11 (by decide +kernel) ?_ | with_reducible refine adraw_cut 0 (by decide +kernel) ?_ | with_reducible refine adraw_cut 1 (by decide +kernel) ?_ | with_reducible refine adraw_cut 2 (by decide +kernel) ?_ | with_reducible refine adraw_cut 3 (by decide +kernel) ?_ | with_reducible refine adraw_cut 4 (by decide +kernel) ?_ | with_reducible refine adraw_cut 5 (by decide +kernel) ?_ | with_reducible refine adraw_cut 6 (by decide +kernel) ?_ | with_reducible refine adraw_cut 7 (by decide +kernel) ?_ | with_reducible refine adraw_cut 8 (by decide +kernel) ?_ | with_reducible refine adraw_cut 9 (by decide +kernel) ?_ | with_reducible refine adraw_all (by kernel_rfl) ?_)
    | simp (config := { contextual := true, maxSteps := 4000000 }) [*, -Int.not_le, -Int.not_lt]

theorem e_term (t : Trm) : Pure Try.prog 19 [t.av, t.av] (.v (.bool true)) := by
  simp only [Trm.av]
  refine pure_of_code (G := G0) vers0 mixed0 Try.func19 rfl (by decide) (by simp [Try.f19]) (by simp) fun ver => ?_
  simp only [Try.f19, G0]
  repeat' first
    | with_reducible refine And.intro ?_ ?_
    | with_reducible intro _
    | (first | with_reducible refine adraw_f 2 (by decide +kernel) ?_ | with_reducible refine adraw_f 3 (by decide +kernel) ?_ | with_reducible refine adraw_f 4 (by decide +kernel) ?_ | with_reducible refine adraw_f 5 (by decide +kernel) ?_ | with_reducible refine adraw_f 6 (by decide +kernel) ?_ | with_reducible refine adraw_f 7 (by decide +kernel) ?_ | with_reducible refine adraw_f 8 (by decide +kernel) ?_ | with_reducible refine adraw_f 9 (by decide +kernel) ?_ | with_reducible refine adraw_f 10 (by decide +kernel) ?_ | with_reducible refine adraw_f 11 (by decide +kernel) ?_ | with_reducible refine adraw_cut 0 (by decide +kernel) ?_ | with_reducible refine adraw_cut 1 (by decide +kernel) ?_ | with_reducible refine adraw_cut 2 (by decide +kernel) ?_ | with_reducible refine adraw_cut 3 (by decide +kernel) ?_ | with_reducible refine adraw_cut 4 (by decide +kernel) ?_ | with_reducible refine adraw_cut 5 (by decide +kernel) ?_ | with_reducible refine adraw_cut 6 (by decide +kernel) ?_ | with_reducible refine adraw_cut 7 (by decide +kernel) ?_ | with_reducible refine adraw_cut 8 (by decide +kernel) ?_ | with_reducible refine adraw_cut 9 (by decide +kernel) ?_ | with_reducible refine adraw_all (by kernel_rfl) ?_)
    | with_reducible refine call_p (e_version _ _ _) (by simp) ?_
    | with_reducible refine call_f (e_version _ _ _) (by simp) ?_
    | simp (config := { contextual := true, maxSteps := 4000000 }) [*, -Int.not_le, -Int.not_lt]

def szT (t : Trm) (n : Int) : Int := szTermF t.n n

theorem z_term (t : Trm) (n : Int) : Pure Try.prog 26 [t.av, .v (.int .i64 n)] (.v (.int .i64 (szT t n))) := p_szTerm _ _ _ _ _ _ _ _

@[reducible] def BigS (l : List ByteArray) : Prop := l.length * 16 ≤ 140737488355328
@[reducible] def BigI (l : List Int) : Prop := l.length * 8 ≤ 140737488355328
@[reducible] def BigT (l : List Trm) : Prop := l.length * 64 ≤ 140737488355328
@[reducible] def BigTT (l : List (List Trm)) : Prop := l.length * 24 ≤ 140737488355328 ∧ ∀ c ∈ l, BigT c
@[reducible] def Pk.Big (p : Pk) : Prop := BigS p.pr ∧ BigTT p.ne ∧ BigT p.ba
@[reducible] def BigP (l : List Pk) : Prop := l.length * 120 ≤ 140737488355328 ∧ ∀ p ∈ l, p.Big

def szr_strs : List ByteArray → Int → Int
  | [], n => n
  | a :: l, n => if IntKind.i64.wrap (n - a.size) < 0 then -1 else szr_strs l (IntKind.i64.wrap (n - a.size))
def sz_strs (l : List ByteArray) (n : Int) : Int := if IntKind.i64.wrap (n - l.length) < 0 then -1 else szr_strs l (IntKind.i64.wrap (n - l.length))

def szr_trms : List Trm → Int → Int
  | [], n => n
  | a :: l, n => if szT a n < 0 then -1 else szr_trms l (szT a n)
def sz_trms (l : List Trm) (n : Int) : Int := if IntKind.i64.wrap (n - l.length) < 0 then -1 else szr_trms l (IntKind.i64.wrap (n - l.length))

def szr_cls : List (List Trm) → Int → Int
  | [], n => n
  | a :: l, n => if sz_trms a n < 0 then -1 else szr_cls l (sz_trms a n)
def sz_cls (l : List (List Trm)) (n : Int) : Int := if IntKind.i64.wrap (n - l.length) < 0 then -1 else szr_cls l (IntKind.i64.wrap (n - l.length))

def szPk (p : Pk) (n : Int) : Int :=
  if IntKind.i64.wrap (n - p.n.size) < 0 then -1 else if sz_strs p.pr (IntKind.i64.wrap (n - p.n.size)) < 0 then -1 else
  if sz_cls p.ne (sz_strs p.pr (IntKind.i64.wrap (n - p.n.size))) < 0 then -1 else
  if sz_trms p.ba (sz_cls p.ne (sz_strs p.pr (IntKind.i64.wrap (n - p.n.size)))) < 0 then -1 else sz_trms p.ba (sz_cls p.ne (sz_strs p.pr (IntKind.i64.wrap (n - p.n.size))))

def szr_pks : List Pk → Int → Int
  | [], n => n
  | a :: l, n => if szPk a n < 0 then -1 else szr_pks l (szPk a n)
def sz_pks (l : List Pk) (n : Int) : Int := if IntKind.i64.wrap (n - l.length) < 0 then -1 else szr_pks l (IntKind.i64.wrap (n - l.length))

theorem t_term (t : Trm) : Pure Try.prog 28 [t.av] t.av := p_toTerm _ _ _ _ _ _ _

@[reducible] def Pk.Len (p : Pk) : Prop := p.pr.length ≤ 4611686018427387904 ∧ p.ne.length ≤ 4611686018427387904 ∧ (∀ q ∈ p.ne, q.length ≤ 4611686018427387904) ∧ p.ba.length ≤ 4611686018427387904
theorem Pk.Big.len {p : Pk} (h : p.Big) : p.Len := by
  obtain ⟨h1, ⟨h2, h3⟩, h4⟩ := h
  unfold BigS BigT at *
  exact ⟨by omega, by omega, fun q hq => by have := h3 q hq; omega, by omega⟩

end Go.Proofs.Ytldbckbldddaaaa.Am
