/- The abstract machine: operations that only reckon are what the model does. No conditions. -/
import Derived.Test.YtbmfoijakgccgaaAmE
namespace Go.Proofs.Ytbmfoijakgccgaa.Am
open Go Go.RowKit
set_option linter.unusedSimpArgs false
set_option linter.unusedVariables false

/-- What is asked of the types that are told to be three i64: the model's test of two of their values. -/
def Cfg.Vers (G : Cfg) : Prop := ∀ t, G.verT t = true → ∀ (x y : Operand) (a1 a2 a3 b1 b2 b3 : Int) (w : World),
  (do eqGuard .eql t x y (.agg #[.int .i64 a1, .int .i64 a2, .int .i64 a3]) (.agg #[.int .i64 b1, .int .i64 b2, .int .i64 b3]); binOp .eql t (.agg #[.int .i64 a1, .int .i64 a2, .int .i64 a3]) (.agg #[.int .i64 b1, .int .i64 b2, .int .i64 b3]) : Sem Value).run G.P w =
    .ok (.bool (decide (a1 = b1 ∧ a2 = b2 ∧ a3 = b3))) w ∧
  (do eqGuard .neq t x y (.agg #[.int .i64 a1, .int .i64 a2, .int .i64 a3]) (.agg #[.int .i64 b1, .int .i64 b2, .int .i64 b3]); binOp .neq t (.agg #[.int .i64 a1, .int .i64 a2, .int .i64 a3]) (.agg #[.int .i64 b1, .int .i64 b2, .int .i64 b3]) : Sem Value).run G.P w =
    .ok (.bool (decide (¬ (a1 = b1 ∧ a2 = b2 ∧ a3 = b3)))) w

theorem eqGuard_int {op : BinOp} {t : TypeId} {x y : Operand} {k k' : IntKind} {a b : Int} (P : Program) (w : World) : (eqGuard op t x y (.int k a) (.int k' b)).run P w = .ok () w := by
  unfold eqGuard
  simp
theorem eqGuard_string {op : BinOp} {t : TypeId} {x y : Operand} {a b : ByteArray} (P : Program) (w : World) : (eqGuard op t x y (.string a) (.string b)).run P w = .ok () w := by
  unfold eqGuard
  simp
theorem eqGuard_bool {op : BinOp} {t : TypeId} {x y : Operand} {a b : Bool} (P : Program) (w : World) : (eqGuard op t x y (.bool a) (.bool b)).run P w = .ok () w := by
  unfold eqGuard
  simp

theorem bytes_eq (a b : ByteArray) : (a.toList == b.toList) = decide (a = b) := by
  rw [ByteArray.toList_eq, ByteArray.toList_eq]
  by_cases h : a = b
  · subst h; simp
  · rw [decide_eq_false h]
    simp only [beq_eq_false_iff_ne, ne_eq]
    intro e
    apply h
    cases a; cases b
    simp only [ByteArray.mk.injEq]
    exact Array.ext' e

theorem isBool_under {G : Cfg} {t : TypeId} (h : G.isBool t = true) : G.P.underlying t = some .bool := by
  unfold Cfg.isBool at h
  split at h
  · assumption
  · cases h

theorem abin_run {G : Cfg} {op : BinOp} {t : TypeId} {x y : Operand} {a b r : Value} (h : abin op a b = some r) (hb : ∀ p, a = .bool p → G.isBool t = true) (w : World) :
    (do eqGuard op t x y a b; binOp op t a b : Sem Value).run G.P w = .ok r w := by
  unfold abin at h
  split at h
  · split at h
    · rename_i k a k' b hk
      subst hk
      rw [Sem.run_bind, eqGuard_int, Result.andThen_ok]
      cases op <;> simp only at h <;> first
        | (cases h; done)
        | (cases h; simp [binOp, Op.intArith, Op.intCmp]; done)
        | (cases h; simp [binOp, Op.intBits, andF]; done)
        | (split at h
           · cases h
           · rename_i h0
             cases h
             simp [binOp, Op.intDiv, h0])
        | (cases h
           simp only [binOp, Op.intCmp, ne_eq, not_true_eq_false, if_false, Sem.run_pure, Result.ok.injEq, Value.bool.injEq, and_true]
           first | rfl | (rw [Bool.eq_iff_iff]; simp))
    · cases h
  · rename_i a b
    rw [Sem.run_bind, eqGuard_string, Result.andThen_ok]
    have eo : ∀ o, (o = .add ∨ o = .eql ∨ o = .neq ∨ o = .lss ∨ o = .gtr) → binOp o t (.string a) (.string b) = Op.stringOp o a b := by
      rintro o (rfl | rfl | rfl | rfl | rfl) <;> rfl
    cases op <;> simp only at h <;> try (cases h; done)
    · split at h
      · rename_i h0
        cases h
        rw [eo _ (by simp)]
        unfold Op.stringOp
        have hm : ¬ (((a.size + b.size : Nat) : Int) > IntKind.i64.max) := by
          have : IntKind.i64.max = 9223372036854775807 := by decide
          omega
        simp only [hm, if_false, Sem.run_pure]
      · cases h
    · cases h
      rw [eo _ (by simp)]
      simp only [Op.stringOp, Sem.run_pure, bytes_eq]
    · cases h
      rw [eo _ (by simp)]
      simp only [Op.stringOp, Sem.run_pure, bytes_eq, Result.ok.injEq, Value.bool.injEq, and_true]
      simp
    · cases h
      rw [eo _ (by simp)]
      simp only [Op.stringOp, Sem.run_pure, ByteArray.toList_eq]
    · cases h
      rw [eo _ (by simp)]
      simp only [Op.stringOp, Sem.run_pure, bytes_eq]
      simp only [ByteArray.toList_eq]
  · rename_i a b
    have hu := isBool_under (hb a rfl)
    have e : Op.equal t (.bool a) (.bool b) = Op.equalIn (9999 + 1) t (.bool a) (.bool b) := rfl
    have er : ∀ w, (Op.equal t (.bool a) (.bool b)).run G.P w = .ok (a == b) w := by
      intro w
      rw [e]
      unfold Op.equalIn
      simp [run_underlying hu]
    rw [Sem.run_bind, eqGuard_bool, Result.andThen_ok]
    cases op <;> simp only at h <;> try (cases h; done)
    · cases h
      have eb : binOp .eql t (.bool a) (.bool b) = (do pure (.bool (← Op.equal t (.bool a) (.bool b)))) := rfl
      rw [eb, Sem.run_bind, er]
      rfl
    · cases h
      have eb : binOp .neq t (.bool a) (.bool b) = (do pure (.bool (!(← Op.equal t (.bool a) (.bool b))))) := rfl
      rw [eb, Sem.run_bind, er]
      rfl
  · cases h

theorem ashift_run {G : Cfg} {op : BinOp} {t : TypeId} {x y : Operand} {a b r : Value} (hop : op = .shl ∨ op = .shr) (h : ashift op a b = some r) (w : World) :
    (do eqGuard op t x y a b; binOp op t a b : Sem Value).run G.P w = .ok r w := by
  unfold ashift at h
  split at h
  · rename_i k a k' b
    rw [Sem.run_bind, eqGuard_int, Result.andThen_ok]
    rcases hop with rfl | rfl <;> simp only at h <;>
      (split at h
       · cases h
       · rename_i h0
         cases h
         simp [binOp, Op.shift, h0])
  · cases h

theorem rv_v {C : Ctx} {p x : Value} (h : RV C (.v p) x) : x = p := by cases h; rfl
theorem rv_three {C : Ctx} {p1 p2 p3 vx : Value} (hh : RV C (.agg [.v p1, .v p2, .v p3]) vx) : vx = .agg #[p1, p2, p3] := by
  cases hh with
  | agg _ vs hl hq =>
    have hs : vs.size = 3 := hl.symm
    have q0 := rv_v (hq 0 (.v p1) vs[0] rfl (Array.getElem?_eq_getElem (by omega)))
    have q1 := rv_v (hq 1 (.v p2) vs[1] rfl (Array.getElem?_eq_getElem (by omega)))
    have q2 := rv_v (hq 2 (.v p3) vs[2] rfl (Array.getElem?_eq_getElem (by omega)))
    refine congrArg Value.agg (Array.ext (by rw [hs]; rfl) ?_)
    intro i hi1 hi2
    have hi : i = 0 ∨ i = 1 ∨ i = 2 := by omega
    rcases hi with rfl | rfl | rfl
    · exact q0
    · exact q1
    · exact q2

theorem bin_run {G : Cfg} (V : G.Vers) {C : Ctx} {op : BinOp} {t : TypeId} {x y : Operand} {a b r : AV} {va vb : Value} (ha : RV C a va) (hb : RV C b vb) (h : G.bin op t a b = some r) (w : World) :
    ∃ v, (do eqGuard op t x y va vb; binOp op t va vb : Sem Value).run G.P w = .ok v w ∧ RV C r v := by
  unfold Cfg.bin at h
  split at h
  · have hva := rv_v ha
    have hvb := rv_v hb
    subst hva hvb
    by_cases hbool : G.boolOK t va = true
    · rw [if_pos hbool] at h
      split at h
      · cases hr : ashift .shl va vb with
        | none => simp [hr] at h
        | some q =>
          simp only [hr, Option.map_some, Option.some.injEq] at h
          subst h
          exact ⟨q, ashift_run (.inl rfl) hr w, .v q⟩
      · cases hr : ashift .shr va vb with
        | none => simp [hr] at h
        | some q =>
          simp only [hr, Option.map_some, Option.some.injEq] at h
          subst h
          exact ⟨q, ashift_run (.inr rfl) hr w, .v q⟩
      · cases hr : abin op va vb with
        | none => simp [hr] at h
        | some q =>
          simp only [hr, Option.map_some, Option.some.injEq] at h
          subst h
          exact ⟨q, abin_run hr (fun p hp => by subst hp; exact hbool) w, .v q⟩
    · rw [if_neg hbool] at h
      cases h
  · rename_i a1 a2 a3 b1 b2 b3
    split at h
    · rename_i hv
      have e1 := rv_three ha
      have e2 := rv_three hb
      subst e1 e2
      obtain ⟨v1, v2⟩ := V t hv x y a1 a2 a3 b1 b2 b3 w
      split at h
      · cases h; exact ⟨_, v1, .v _⟩
      · cases h; exact ⟨_, v2, .v _⟩
      · cases h
    · cases h
  · cases h

end Go.Proofs.Ytbmfoijakgccgaa.Am
