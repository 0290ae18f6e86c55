/- The abstract machine: the arguments of a law, and what a call of a pure law function leaves. No conditions. -/
import Derived.Test.YtbmfoijakgccgaaAmU
import Derived.Carry
namespace Go.Proofs.Ytbmfoijakgccgaa.Am
open Go Go.RowKit
set_option linter.unusedSimpArgs false
set_option linter.unusedVariables false

/-- A value of a type, as an argument. -/
def TypedV (P : Program) (n : Nat) (t : TypeId) (a : AV) : Prop :=
  match P.underlying t with
  | some (.struct _) => ∃ cs, a = .agg cs ∧ Typed P n t cs
  | _ => Typed P n t [a]

def TypedArgs (P : Program) (n : Nat) : List TypeId → List AV → Prop
  | [], as => as = []
  | t :: ts, as => ∃ a bs, as = a :: bs ∧ TypedV P n t a ∧ TypedArgs P n ts bs

section
variable {H : Type} {enc : TypeId × Value → H} {P : Program} {w : World} {sp : Nat → Bool} {held : Bool}

theorem arg_rv {n : Nat} {t : TypeId} {v : Value} {d : DataW H} {ps : List MemPlace} {r : Reach} {b0 : Nat} (hp : plainT P n t = true) (hval : Value.okWide P w r b0 t v) (h : DataW.Trod enc P w 0 sp held t v d ps) (hw : ∀ x ∈ d.weights P t, x ≤ reachBytes) :
    ∃ a, RV (Ctx.outer w) a v ∧ TypedV P n t a := by
  obtain ⟨fuel, h⟩ := h
  obtain ⟨cs, rc, tc⟩ := open_rv n fuel t _ d ps hp h hw
  cases n with
  | zero => cases hp
  | succ n =>
  unfold TypedV
  unfold Value.okWide at hval
  have single : (∀ u, v ≠ .agg u) → ∃ a, RV (Ctx.outer w) a v ∧ Typed P (n + 1) t [a] := by
    intro hne
    have hc : v.cells.toList = [v] := by
      cases v <;> first | rfl | exact (hne _ rfl).elim
    rw [hc] at rc
    match cs, rc with
    | [a], rc => exact ⟨a, rc.2 0 a v rfl rfl, tc⟩
  simp only [plainT] at hp
  split at hp
  · rename_i ht
    simp only [ht, Cell.okWide] at hval ⊢
    exact single fun u e => by subst e; simp [Cell.ok, ht] at hval
  · rename_i k ht
    simp only [ht, Cell.okWide] at hval ⊢
    exact single fun u e => by subst e; simp [Cell.ok, ht] at hval
  · rename_i ht
    simp only [ht, Cell.okWide] at hval ⊢
    exact single fun u e => by subst e; simp [Cell.ok, ht] at hval
  · rename_i e ht
    simp only [ht, Cell.okWide] at hval ⊢
    exact single fun u e => by subst e; simp [Cell.ok, ht] at hval
  · rename_i fs ht
    simp only [ht] at hval ⊢
    obtain ⟨us, rfl, _, _⟩ := hval
    refine ⟨.agg cs, .agg cs us ?_ ?_, cs, rfl, tc⟩
    · have := rc.1; simpa [Value.cells] using this
    · intro j c x h1 h2
      exact rc.2 j c x h1 (by rw [Array.getElem?_toList]; exact h2)
  · cases hp

theorem args_rv {n : Nat} {r : Reach} {b0 : Nat} : ∀ {ts : List TypeId} {vs : List Value} {ds : List (DataW H)} {ps : List MemPlace}, ts.all (plainT P n) = true → (∀ (j : Nat) t v, ts[j]? = some t → vs[j]? = some v → Value.okWide P w r b0 t v) →
    DataW.TrodAll enc P w 0 sp held ts vs ds ps → (∀ x ∈ DataW.weightsEach P ts ds, x ≤ reachBytes) → ∃ as, RVs (Ctx.outer w) as vs ∧ TypedArgs P n ts as
  | [], vs, ds, ps, _, _, h, _ => by
    cases vs with
    | nil => exact ⟨[], rvs_nil, rfl⟩
    | cons v vs => cases ds <;> exact h.elim
  | t :: ts, vs, ds, ps, hp, hval, h, hw => by
    cases vs with
    | nil => exact h.elim
    | cons v vs =>
      cases ds with
      | nil => exact h.elim
      | cons d ds =>
        obtain ⟨p, q, h1, h2, _⟩ := h
        simp only [List.all_cons, Bool.and_eq_true] at hp
        obtain ⟨a, ra, ta⟩ := arg_rv (r := r) (b0 := b0) hp.1 (hval 0 t v rfl rfl) h1 fun x hx => hw x (by simp [DataW.weightsEach, hx])
        obtain ⟨as, rs, tas⟩ := args_rv hp.2 (fun j t v h3 h4 => hval (j + 1) t v (by simpa using h3) (by simpa using h4)) h2 fun x hx => hw x (by simp [DataW.weightsEach, hx])
        exact ⟨a :: as, RVs.cons ra rs, a, as, rfl, ta, tas⟩

theorem trodAll_lt {ts : List TypeId} : ∀ {vs : List Value} {ds : List (DataW H)} {ps : List MemPlace}, DataW.TrodAll enc P w 0 sp held ts vs ds ps → ∀ x ∈ ps, x.block < w.heap.size := by
  induction ts with
  | nil =>
    intro vs ds ps h
    cases vs <;> cases ds <;> first | exact h.elim | skip
    cases h
    simp
  | cons t ts ih =>
    intro vs ds ps h
    cases vs with
    | nil => exact h.elim
    | cons v vs =>
      cases ds with
      | nil => exact h.elim
      | cons d ds =>
        obtain ⟨p, q, ⟨fuel, h1⟩, h2, rfl⟩ := h
        intro x hx
        rcases List.mem_append.1 hx with hx | hx
        · exact DataW.trod_lt _ _ _ _ h1 x hx
        · exact ih h2 x hx

theorem trodAll_below {P : Program} {W W' : World} (hl : laidOutB P = true) (hb : Below W.heap.size W W') : ∀ {ts : List TypeId} {vs : List Value} {ds : List (DataW H)} {ps : List MemPlace}, (ts.all fun t => P.readableRec t && decide (t < P.types.size)) = true →
    DataW.TrodAll enc P W 0 (fun _ => true) true ts vs ds ps → DataW.TrodAll enc P W' 0 (fun b => decide (b < W.heap.size)) true ts vs ds ps
  | [], vs, ds, ps, _, h => by
    cases vs <;> cases ds <;> first | exact h.elim | exact h
  | t :: ts, vs, ds, ps, hr, h => by
    cases vs with
    | nil => exact h.elim
    | cons v vs =>
      cases ds with
      | nil => exact h.elim
      | cons d ds =>
        obtain ⟨p, q, h1, h2, e⟩ := h
        simp only [List.all_cons, Bool.and_eq_true, decide_eq_true_eq] at hr
        have hlt : ∀ x ∈ p, x.block < W.heap.size := by
          obtain ⟨fuel, h3⟩ := h1
          exact DataW.trod_lt _ _ _ _ h3
        exact ⟨p, q, Below.trod hl hr.1.1 hr.1.2 h1 hb hlt, trodAll_below hl hb hr.2 h2, e⟩

end

/-- A law function that is a plain function of its arguments, called from outside. -/
theorem law_calls {P : Program} {f : FuncId} {as : List AV} {args : Array Value} {W : World} (hp : Pure P f as (.v (.bool true))) (ha : RVs (Ctx.outer W) as args.toList) :
    Calls P f args W fun e W' => e = .returned (.bool true) ∧ Below W.heap.size W W' := by
  refine (hp.2.2 (Ctx.outer W) args (fun _ => rfl) ⟨rfl, List.nodup_nil, fun b hb => (by cases hb), fun k b cs h => (by simp [Ctx.outer] at h)⟩ (fun col b h => h.elim) ha).mono ?_
  rintro e W' ⟨v, C', rfl, hw, _, _, _, _, hW, hr⟩
  refine ⟨by cases hr; rfl, ⟨hW.os, hW.tape, hW.output, hW.size, fun k hk => hW.block k hk (by simp [Ctx.outer])⟩⟩

end Go.Proofs.Ytbmfoijakgccgaa.Am
