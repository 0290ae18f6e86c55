/- The abstract machine: structs of three i64 compared. No conditions. -/
import Derived.Test.YtbmfoijakgccgaaAmS
import Derived.Laws.StructEq
namespace Go.Proofs.Ytbmfoijakgccgaa.Am
open Go Go.RowKit
set_option linter.unusedSimpArgs false
set_option linter.unusedVariables false

theorem vers_of {P : Program} {t : TypeId} {f0 f1 f2 : Field} (hu : P.underlying t = some (.struct #[f0, f1, f2])) (hp : P.stoodInHeld t = false) (hg : P.eqGuardType P.depth t = false)
    (n0 : (f0.name == "_") = false) (n1 : (f1.name == "_") = false) (n2 : (f2.name == "_") = false) (o0 : f0.offset = 0) (o1 : f1.offset = 1) (o2 : f2.offset = 2)
    (u0 : P.underlying f0.type = some (.int .i64)) (u1 : P.underlying f1.type = some (.int .i64)) (u2 : P.underlying f2.type = some (.int .i64)) (x y : Operand) (a1 a2 a3 b1 b2 b3 : Int) (w : World) :
    (do eqGuard .eql t x y (.agg #[.int .i64 a1, .int .i64 a2, .int .i64 a3]) (.agg #[.int .i64 b1, .int .i64 b2, .int .i64 b3]); binOp .eql t (.agg #[.int .i64 a1, .int .i64 a2, .int .i64 a3]) (.agg #[.int .i64 b1, .int .i64 b2, .int .i64 b3]) : Sem Value).run P w =
    .ok (.bool (decide (a1 = b1 ∧ a2 = b2 ∧ a3 = b3))) w ∧
    (do eqGuard .neq t x y (.agg #[.int .i64 a1, .int .i64 a2, .int .i64 a3]) (.agg #[.int .i64 b1, .int .i64 b2, .int .i64 b3]); binOp .neq t (.agg #[.int .i64 a1, .int .i64 a2, .int .i64 a3]) (.agg #[.int .i64 b1, .int .i64 b2, .int .i64 b3]) : Sem Value).run P w =
    .ok (.bool (decide (¬ (a1 = b1 ∧ a2 = b2 ∧ a3 = b3)))) w := by
  have hf : P.fieldsOf t = #[f0, f1, f2] := by simp [Program.fieldsOf, hu]
  have pt : ∀ (ty : TypeId) (xs : Array Value) (off : Nat) (v : Value), P.underlying ty = some (.int .i64) → xs[off]? = some v → (part ty xs off).run P w = .ok v w := by
    intro ty xs off v hu hv
    simp [part, isAgg, run_underlying hu, hv]
  have one : ∀ (f : Field) (xs ys : Array Value) (a b : Int) (fs : List Field) (r : Bool), (f.name == "_") = false → P.underlying f.type = some (.int .i64) → xs[f.offset]? = some (.int .i64 a) → ys[f.offset]? = some (.int .i64 b) →
      (Op.eqFields (Op.maxDepth - 1) xs ys fs).run P w = .ok r w → (Op.eqFields (Op.maxDepth - 1) xs ys (f :: fs)).run P w = .ok (a == b && r) w := by
    intro f xs ys a b fs r hn hu hx hy hr
    have hn' : f.name ≠ "_" := by simpa using hn
    rw [Op.eqFields]
    simp only [if_pos hn', Sem.run_bind, pt f.type xs f.offset _ hu hx, pt f.type ys f.offset _ hu hy, Result.andThen_ok]
    rw [show Op.maxDepth - 1 = (Op.maxDepth - 2) + 1 from rfl, run_equalIn_int (P := P) w _ f.type .i64 .i64 a b hu]
    rw [show Op.maxDepth - 1 = (Op.maxDepth - 2) + 1 from rfl] at hr
    simp only [Result.andThen_ok]
    cases hab : (a == b)
    · simp
    · simpa using hr
  have eqr : (Op.equal t (.agg #[.int .i64 a1, .int .i64 a2, .int .i64 a3]) (.agg #[.int .i64 b1, .int .i64 b2, .int .i64 b3])).run P w = .ok (decide (a1 = b1 ∧ a2 = b2 ∧ a3 = b3)) w := by
    unfold Op.equal
    rw [show Op.maxDepth = (Op.maxDepth - 1) + 1 from rfl, run_equalIn_struct (P := P) w _ t _ _ (by rw [hf]; exact hu) hp, hf]
    have h3 := one f2 #[.int .i64 a1, .int .i64 a2, .int .i64 a3] #[.int .i64 b1, .int .i64 b2, .int .i64 b3] a3 b3 [] true n2 u2 (by rw [o2]; rfl) (by rw [o2]; rfl) (by simp [Op.eqFields])
    have h2 := one f1 #[.int .i64 a1, .int .i64 a2, .int .i64 a3] #[.int .i64 b1, .int .i64 b2, .int .i64 b3] a2 b2 _ _ n1 u1 (by rw [o1]; rfl) (by rw [o1]; rfl) h3
    have h1 := one f0 #[.int .i64 a1, .int .i64 a2, .int .i64 a3] #[.int .i64 b1, .int .i64 b2, .int .i64 b3] a1 b1 _ _ n0 u0 (by rw [o0]; rfl) (by rw [o0]; rfl) h2
    refine h1.trans ?_
    congr 1
    by_cases q1 : a1 = b1 <;> by_cases q2 : a2 = b2 <;> by_cases q3 : a3 = b3 <;> simp [q1, q2, q3]
  refine ⟨?_, ?_⟩
  · simp [eqGuard, hg, binOp, eqr]
  · simp [eqGuard, hg, binOp, eqr]

end Go.Proofs.Ytbmfoijakgccgaa.Am
