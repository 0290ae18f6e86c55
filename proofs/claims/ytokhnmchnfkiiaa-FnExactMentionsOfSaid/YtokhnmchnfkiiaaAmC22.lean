/- The packages that give a term, as the reference and the program find them. No conditions. -/
import Derived.Test.YtokhnmchnfkiiaaAmC21
namespace Go.Proofs.Ytokhnmchnfkiiaa.Am
open Go Go.RowKit Go.Proofs
set_option linter.unusedSimpArgs false
set_option linter.unusedVariables false

/-- An array that is nil as long as it is empty. -/
def refN (p v n : Nat) : AV := if n = 0 then .nil else .arr p v 0 n
def arrN (p : Nat) (ver : Nat → Nat) (v : Nat) (e : TypeId) (es : List (List AV)) : Nat → ArrSt := if es = [] then noArrs ver else fun j => if j = p then ⟨v, true, e, es⟩ else ⟨ver j, false, 0, []⟩
def setRes (code : Int) (x : AV) : AV := .agg [.v (.int .i64 code), .v (.int .i64 0), x]

/-- Numbers are put behind an array that is nil as long as it is empty. -/
theorem append_refN {G : Cfg} {t e : TypeId} (he : G.elemT t = some e) (hz : G.csz e = some 1) (hb : G.bts e = some 8) (ho : G.zerOK e = true) (p : Nat) (ver : Nat → Nat) (v : Nat) (out : List Int) (n : Int) (bx : List (List AV)) (c : Bool) (h : (out.length + 1) * 8 ≤ 140737488355328) :
    ∃ w, aappend G (some p) t t ⟨bx, arrN p ver v e (out.map intCells)⟩ (refN p v out.length) (.sl c [intCells n]) = some (.arr p w 0 (out.length + 1), ⟨bx, arrN p ver w e ((out ++ [n]).map intCells)⟩) := by
  cases out with
  | nil =>
    refine ⟨ver p + 1, ?_⟩
    simp [aappend, he, hz, hb, ho, refN, arrN, Mem.made, sealRows, sealCells, noArrs]
  | cons a l =>
    refine ⟨v + 1, ?_⟩
    have h2 : (l.length + 1 + 1) * 8 ≤ 140737488355328 := by simpa using h
    simp [aappend, he, hz, hb, ho, refN, arrN, sealRows, sealCells, h2]
    funext j
    by_cases hj : j = p <;> simp [hj]

@[simp] theorem one_refN (p v n : Nat) : (refN p v n).one = true := by unfold refN; split <;> rfl
theorem fin1_refN (bx : List (List AV)) (p : Nat) (ver : Nat → Nat) (v : Nat) (e : TypeId) (es : List (List AV)) : fin1 ⟨bx, arrN p ver v e es⟩ (refN p v es.length) = .sl false es := by
  cases es with
  | nil => simp [refN, fin1]
  | cons a l => simp [refN, arrN, fin1]

noncomputable def giversF (c : List Pk) (s : List Int) (t : Trm) : Int × List Int := if setF c s ≠ 0 then (setF c s, []) else if trmF t ≠ 0 then (trmF t, []) else (0, s.filter fun x => givesF (pkAt c x) t)

end Go.Proofs.Ytokhnmchnfkiiaa.Am
