/- Rules for a law's statements, one by one: behind each only the slots that are named are known. No conditions. -/
import Derived.Test.YtokhnmchnfkiiaaAmC30
namespace Go.Proofs.Ytokhnmchnfkiiaa.Am
open Go Go.RowKit Go.Proofs
set_option linter.unusedSimpArgs false
set_option linter.unusedVariables false

theorem BigP.len {l : List Pk} (h : BigP l) : l.length ≤ 4611686018427387904 ∧ ∀ p ∈ l, p.Len := ⟨by have := h.1; omega, fun p hp => (h.2 p hp).len⟩

section
variable {G : Cfg} {nt : Nat} {a b r x : Code} {K : Exit → St → Prop} {st : St} {t : Tmp}
theorem seq_step (M : Mem) (Q : (Nat → AV) → Prop) (h : acode G nt a (fun e s => e = .normal ∧ s.mem = M ∧ Q s.env) st) (hk : ∀ E, Q E → acode G nt b K ⟨E, M⟩) : acode G nt (.seq a b) K st := by
  rw [acode_seq]
  exact acode_cutE M Q h hk
/-- A test that is known to fail. -/
theorem if_skip (M : Mem) (Q : (Nat → AV) → Prop) (h : acode G nt r (fun e s => e = .normal ∧ s.mem = M ∧ s.env t = .v (.bool false) ∧ Q s.env) st) (hk : ∀ E, Q E → acode G nt b K ⟨E, M⟩) : acode G nt (.seq (.seq r (.cond (.tmp t) x .skip)) b) K st := by
  rw [acode_seq, acode_seq]
  refine acode_cutE M (fun E => E t = .v (.bool false) ∧ Q E) h ?_
  rintro E ⟨h1, h2⟩
  rw [kSeq_normal, acode_cond, ev_tmp, mk_env, h1, onBool_b]
  exact ⟨fun e => (by cases e), fun _ => hk E h2⟩
/-- A test that decides; where it holds the law ends. -/
theorem if_dec (P : Prop) [Decidable P] (M : Mem) (Q : (Nat → AV) → Prop) (h : acode G nt r (fun e s => e = .normal ∧ s.mem = M ∧ s.env t = .v (.bool (decide P)) ∧ Q s.env) st) (hx : P → ∀ E, Q E → acode G nt x (fun e s => e = .ret ∧ K .ret s) ⟨E, M⟩) (hk : ¬ P → ∀ E, Q E → acode G nt b K ⟨E, M⟩) :
    acode G nt (.seq (.seq r (.cond (.tmp t) x .skip)) b) K st := by
  rw [acode_seq, acode_seq]
  refine acode_cutE M (fun E => E t = .v (.bool (decide P)) ∧ Q E) h ?_
  rintro E ⟨h1, h2⟩
  rw [kSeq_normal, acode_cond, ev_tmp, mk_env, h1, onBool_b]
  refine ⟨fun e => ?_, fun e => hk (of_decide_eq_false e) E h2⟩
  refine acode_mono x ?_ (hx (of_decide_eq_true e) E h2)
  rintro e s ⟨rfl, h3⟩
  exact h3
/-- A test that holds: the law ends. -/
theorem if_take (M : Mem) (Q : (Nat → AV) → Prop) (h : acode G nt r (fun e s => e = .normal ∧ s.mem = M ∧ s.env t = .v (.bool true) ∧ Q s.env) st) (hx : ∀ E, Q E → acode G nt x (fun e s => e = .ret ∧ K .ret s) ⟨E, M⟩) : acode G nt (.seq (.seq r (.cond (.tmp t) x .skip)) b) K st := by
  rw [acode_seq, acode_seq]
  refine acode_cutE M (fun E => E t = .v (.bool true) ∧ Q E) h ?_
  rintro E ⟨h1, h2⟩
  rw [kSeq_normal, acode_cond, ev_tmp, mk_env, h1, onBool_b]
  refine ⟨fun _ => ?_, fun e => (by cases e)⟩
  refine acode_mono x ?_ (hx E h2)
  rintro e s ⟨rfl, h3⟩
  exact h3
end

/-- One array of the law's own. -/
def arrW (p v : Nat) (e : TypeId) (es : List (List AV)) (ver : Nat → Nat) : Nat → ArrSt := fun j => if j = p then ⟨v, true, e, es⟩ else noArrs ver j
@[simp] theorem noArrs_ver (ver : Nat → Nat) (i : Nat) : (noArrs ver i).ver = ver i := rfl
@[simp] theorem noArrs_live (ver : Nat → Nat) (i : Nat) : (noArrs ver i).live = false := rfl
@[simp] theorem arrW_self (p v : Nat) (e : TypeId) (es : List (List AV)) (ver : Nat → Nat) : arrW p v e es ver p = ⟨v, true, e, es⟩ := by simp [arrW]
theorem noArrs_put (p v : Nat) (e : TypeId) (es : List (List AV)) (ver : Nat → Nat) : (fun j => if j = p then (⟨v, true, e, es⟩ : ArrSt) else noArrs ver j) = arrW p v e es ver := rfl
theorem arrW_put (p v w : Nat) (e e' : TypeId) (es es' : List (List AV)) (ver : Nat → Nat) : (fun j => if j = p then (⟨w, true, e', es'⟩ : ArrSt) else arrW p v e es ver j) = arrW p w e' es' ver := by
  funext j
  simp only [arrW]
  by_cases h : j = p <;> simp [h]
theorem arrW_stay {p v : Nat} {e : TypeId} {es : List (List AV)} {ver : Nat → Nat} (h : ∀ r ∈ es, ∀ c ∈ r, c.Stay) (i : Nat) : (arrW p v e es ver i).live = true → ∀ r ∈ (arrW p v e es ver i).es, ∀ c ∈ r, c.Stay := by
  simp only [arrW]
  by_cases hi : i = p
  · simp only [hi, if_pos]
    exact fun _ => h
  · rw [if_neg hi]
    intro h
    cases h
@[simp] theorem olds_box (k o : Nat) : Olds (.box k o) (.box k o) = True := eq_true (.box k o)
@[simp] theorem olds_arr (i n o l : Nat) : Olds (.arr i n o l) (.arr i n o l) = True := eq_true (.arr i n o l)
@[simp] theorem olds_dead (a : AV) : Olds a .dead = True := eq_true (.dead a)
@[simp] theorem olds_cls (l : List (List Trm)) : Olds (.sl true (l.map (clauseCells true))) (.sl true (l.map (clauseCells true))) = True := eq_true (olds_rows true l oldc_cls)
theorem stayr_map {α : Type} {g : α → List AV} (l : List α) (h : ∀ a, ∀ c ∈ g a, c.Stay) : ∀ r ∈ l.map g, ∀ c ∈ r, c.Stay := by
  intro r hr c hc
  obtain ⟨a, _, rfl⟩ := List.mem_map.1 hr
  exact h a c hc

end Go.Proofs.Ytokhnmchnfkiiaa.Am
