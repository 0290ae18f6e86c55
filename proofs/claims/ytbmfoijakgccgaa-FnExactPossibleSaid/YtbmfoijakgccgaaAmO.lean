/- The abstract machine: code and functions: the precondition is sound. No conditions. -/
import Derived.Test.YtbmfoijakgccgaaAmN
namespace Go.Proofs.Ytbmfoijakgccgaa.Am
open Go Go.RowKit
set_option linter.unusedSimpArgs false
set_option linter.unusedVariables false

/-- Where the machine stands: a context, a state that the frame holds. -/
def Post (G : Cfg) (nt base : Nat) (bx0 : List Nat) (C0 : Ctx) (K : Exit → St → Prop) : Exit → Act → World → Prop :=
  fun e a w => ∃ D st, D.w = w ∧ K e st ∧ Rel G nt base bx0 D st a ∧ Keeps C0 D ∧ D.N0 = C0.N0 ∧ WExt base bx0 C0.w w

/-- A loop, by a measure of the abstract state. -/
theorem wp_rounds {P : Program} {c : Code} {Q : Exit → Act → World → Prop} (I : Nat → Act → World → Prop) (round : ∀ n a w, I n a w → c.wp P (Exit.then (fun a' w' => ∃ m, m < n ∧ I m a' w') Q) a w) {n : Nat} {a : Act} {w : World} (h₀ : I n a w) : (Code.loop c).wp P Q a w := by
  intro b k cs
  have key : ∀ n a w, I n a w → ∃ e a' w', Q e a' w' ∧ Arrives P (lone (b.at a (.code c :: .inLoop c :: k)) cs w) b k cs e a' w' := by
    intro n
    induction n using Nat.strongRecOn with
    | _ n ih =>
      intro a w hI
      obtain ⟨e, a₁, w₁, hq, harr⟩ := round n a w hI b (.inLoop c :: k) cs
      cases e with
      | normal =>
        obtain ⟨m, hlt, hI₁⟩ := hq
        obtain ⟨e₂, a₂, w₂, hq₂, harr₂⟩ := ih m hlt a₁ w₁ hI₁
        exact ⟨e₂, a₂, w₂, hq₂, .of_steps (Steps.trans harr (.one step_inLoop)) harr₂⟩
      | exit id => exact ⟨_, a₁, w₁, hq, .pass (x := .inLoop c) rfl (fun _ _ => .inl (by simp)) harr⟩
      | goto l => exact ⟨_, a₁, w₁, hq, .pass (x := .inLoop c) rfl (fun _ _ => .inl (by simp)) harr⟩
      | ret => exact ⟨_, a₁, w₁, hq, .pass (x := .inLoop c) rfl (fun _ _ => .inl (by simp)) harr⟩
      | panic ch => exact ⟨_, a₁, w₁, hq, .pass (x := .inLoop c) rfl (fun _ _ => .inl (by simp)) harr⟩
      | outgrown => exact ⟨_, a₁, w₁, hq, .pass (x := .inLoop c) rfl (fun _ _ => .inl (by simp)) harr⟩
  obtain ⟨e, a', w', hq, harr⟩ := key n a w h₀
  exact ⟨e, a', w', hq, .of_steps (.one step_loop) harr⟩

/-- Regions that draw their order: sound (proved in the text behind this one's import). -/
def DrawSound (G : Cfg) : Prop := ∀ (nt base : Nat) (bx0 : List Nat) (id : Nat) (ops : Array Oper) (K : St → Prop) (C0 C : Ctx) (st : St) (a : Act), Rel G nt base bx0 C st a → Keeps C0 C → C.N0 = C0.N0 → WExt base bx0 C0.w C.w → adraw G nt ops K st →
  (Code.region id ops true).wp G.P (Post G nt base bx0 C0 fun e st' => e = .normal ∧ K st') a C.w

theorem acode_sound {G : Cfg} (V : G.Vers) (DS : DrawSound G) {nt base : Nat} {bx0 : List Nat} : ∀ (c : Code) (K : Exit → St → Prop) (C0 C : Ctx) (st : St) (a : Act), Rel G nt base bx0 C st a → Keeps C0 C → C.N0 = C0.N0 → WExt base bx0 C0.w C.w → acode G nt c K st →
    c.wp G.P (Post G nt base bx0 C0 K) a C.w := by
  intro c
  induction c with
  | skip => intro K C0 C st a R K0 hN W h; exact wp_skip ⟨C, st, rfl, h, R, K0, hN, W⟩
  | label l => intro K C0 C st a R K0 hN W h; exact wp_label ⟨C, st, rfl, h, R, K0, hN, W⟩
  | exit id => intro K C0 C st a R K0 hN W h; exact wp_exit ⟨C, st, rfl, h, R, K0, hN, W⟩
  | ret => intro K C0 C st a R K0 hN W h; exact wp_ret ⟨C, st, rfl, h, R, K0, hN, W⟩
  | seq x y ihx ihy =>
    intro K C0 C st a R K0 hN W h
    refine wp_seq (wp_mono (ihx _ C0 C st a R K0 hN W h) ?_)
    rintro e a' w' ⟨D, st', rfl, hK, R', K', hN', W'⟩
    cases e with
    | normal => exact ihy K C0 D st' a' R' K' hN' W' hK
    | _ => exact ⟨D, st', rfl, hK, R', K', hN', W'⟩
  | cond c x y ihx ihy =>
    intro K C0 C st a R K0 hN W h
    simp only [acode] at h
    split at h
    · rename_i b hb
      have he := rv_ev R.env c
      rw [hb] at he
      have hv := rv_v he
      refine wp_cond_split hv (fun ht => ihx K C0 C st a R K0 hN W (h.1 ht)) (fun hf => ihy K C0 C st a R K0 hN W (h.2 hf))
    · exact h.elim
  | block id c ih =>
    intro K C0 C st a R K0 hN W h
    refine wp_block (wp_mono (ih _ C0 C st a R K0 hN W h) ?_)
    rintro e a' w' ⟨D, st', rfl, hK, R', K', hN', W'⟩
    cases e with
    | exit id' =>
      simp only [Exit.inBlock]
      by_cases hid : id' = id
      · rw [if_pos hid]
        simp only [kBlock, hid, if_true] at hK
        exact ⟨D, st', rfl, hK, R', K', hN', W'⟩
      · rw [if_neg hid]
        simp only [kBlock, hid, if_false] at hK
        exact ⟨D, st', rfl, hK, R', K', hN', W'⟩
    | _ => exact ⟨D, st', rfl, hK, R', K', hN', W'⟩
  | loop c ih =>
    intro K C0 C st a R K0 hN W h
    obtain ⟨I, n0, ⟨st0, hl0, h0⟩, hr⟩ := h
    refine wp_rounds (fun n a w => ∃ D st', D.w = w ∧ I n st' ∧ Rel G nt base bx0 D st' a ∧ Keeps C0 D ∧ D.N0 = C0.N0 ∧ WExt base bx0 C0.w w) ?_ ⟨C, st0, rfl, h0, R.less hl0, K0, hN, W⟩
    rintro n a1 w1 ⟨D, st', rfl, hI, R', K', hN', W'⟩
    refine wp_mono (ih _ C0 D st' a1 R' K' hN' W' (hr n st' hI)) ?_
    rintro e a' w' ⟨E, st2, rfl, hK, R2, K2, hN2, W2⟩
    cases e with
    | normal =>
      obtain ⟨st3, m, hl, hm, h3⟩ := hK
      exact ⟨m, hm, E, st3, rfl, h3, R2.less hl, K2, hN2, W2⟩
    | _ => exact ⟨E, st2, rfl, hK, R2, K2, hN2, W2⟩
  | region id ops draw =>
    intro K C0 C st a R K0 hN W h
    cases draw with
    | false =>
      refine wp_region (aops_sound V ops _ (List.range ops.size) ops.toList ?_ C0 C st a (K .normal) R K0 hN W h ?_)
      · apply List.ext_getElem?
        intro i
        simp only [List.getElem?_map]
        by_cases hi : i < ops.size
        · simp [hi]
        · simp [hi]
      · intro D st' a' hK R' K' hN' W'
        exact ⟨D, st', rfl, hK, R', K', hN', W'⟩
    | true =>
      refine wp_mono (DS nt base bx0 id ops (K .normal) C0 C st a R K0 hN W h) ?_
      rintro e a' w' ⟨D, st', rfl, ⟨rfl, hK⟩, R', K', hN', W'⟩
      exact ⟨D, st', rfl, hK, R', K', hN', W'⟩
  | scope c ih => intro K C0 C st a R K0 hN W h; exact h.elim
  | goto l => intro K C0 C st a R K0 hN W h; exact h.elim
  | refuse why => intro K C0 C st a R K0 hN W h; exact h.elim
  | rangeFunc f ps x y ihx ihy => intro K C0 C st a R K0 hN W h; exact h.elim

/-! ### Functions -/

/-- A value as the caller gets it: arrays of the call's own are let go. -/
def fin1 (m : Mem) : AV → AV
  | .arr i n off len => if m.ok i n = true then .sl false (((m.arrs i).es.drop off).take len) else .dead
  | .nil => .sl false []
  | a => a
def fin (m : Mem) : AV → AV
  | .agg cs => .agg (cs.map (fin1 m))
  | a => fin1 m a

def resVar (G : Cfg) (st : St) : ResultVar → Option AV
  | .tmp t => some (st.env t)
  | .cell p t => (st.mem.cellsAt (st.env p)).bind (G.loadOf t)

/-- What a function returns from a state. -/
def resOf (G : Cfg) (rs : List ResultVar) (st : St) : Option AV :=
  match rs with
  | [r] => (resVar G st r).map (fin st.mem)
  | rs => (rs.mapM (resVar G st)).map fun vs => .tup (vs.map (fin st.mem))

def startEnv (args : List AV) : Nat → AV := fun t => args.getD t .dead

def noArrs (ver : Nat → Nat) : Nat → ArrSt := fun i => ⟨ver i, false, 0, []⟩


/-- The context that is left when the call's own arrays are let go. -/
def Ctx.done (C : Ctx) : Ctx := { C with A := fun _ => none }
theorem done_keeps (C : Ctx) : Keeps C C.done := by
  refine ⟨Nat.le_refl _, ?_, fun _ _ _ => rfl, fun _ _ h => h, fun _ => Nat.le_refl _, fun i I h _ => by cases h⟩
  rintro col b _ hn (h | h | ⟨_, _, h, _⟩)
  · exact hn (.inl h)
  · exact hn (.inr (.inl h))
  · cases h

theorem fin1_rv {G : Cfg} {base : Nat} {bx0 : List Nat} {C : Ctx} {m : Mem} (M : MemOK G base bx0 C m) {a : AV} {x : Value} (h : RV C a x) : RV C.done (fin1 m a) x := by
  cases a with
  | arr i n off len =>
    simp only [fin1]
    split
    · rename_i hk
      obtain ⟨I, xs, hI, hs, z1, z2, z3, z4, z5, z6⟩ := arr_rv M h hk
      refine (sl_of_own (C := C.done) hs z3 z4 z5 (fun i' j r c y _ hr hc hy => (z6 (off + i') j r c y hr hc hy).keep (done_keeps C)) false ?_).1
      rintro g hg (h1 | h1 | ⟨_, _, h1, _⟩)
      · exact (M.own hI hg).1.elim (fun h3 => by have h2 := (M.n0 _ _ h1).1; omega) (fun h3 => (M.n0 _ _ h1).2 h3)
      · exact (M.sep i I g hI hg).1 h1
      · cases h1
    · exact .dead _
  | nil => cases h with | nil a => exact .sl0 _ _ _
  | _ => exact h.keep (done_keeps C)

theorem fin_rv {G : Cfg} {base : Nat} {bx0 : List Nat} {C : Ctx} {m : Mem} (M : MemOK G base bx0 C m) {a : AV} {x : Value} (h : RV C a x) : RV C.done (fin m a) x := by
  cases a with
  | agg cs =>
    cases h with
    | agg _ vs hl hh =>
      refine .agg _ _ (by simp [hl]) ?_
      intro j c y h1 h2
      rw [List.getElem?_map] at h1
      obtain ⟨d, hd, he⟩ := Option.map_eq_some_iff.1 h1
      subst he
      exact fin1_rv M (hh j d y hd h2)
  | _ => exact fin1_rv M h

theorem mapM_run {α β : Type} (P : Program) (w : World) (g : α → Sem β) : ∀ (l : List α) (ys : List β), l.length = ys.length → (∀ (i : Nat) (x : α) (y : β), l[i]? = some x → ys[i]? = some y → (g x).run P w = .ok y w) → (l.mapM g).run P w = .ok ys w
  | [], ys, hl, _ => by
    cases ys with
    | nil => rfl
    | cons => simp at hl
  | x :: l, ys, hl, h => by
    cases ys with
    | nil => simp at hl
    | cons y ys =>
      rw [List.mapM_cons]
      simp [h 0 x y rfl rfl, mapM_run P w g l ys (by simpa using hl) (fun i a b h1 h2 => h (i + 1) a b (by simpa using h1) (by simpa using h2))]

theorem res_sound {G : Cfg} {nt base : Nat} {bx0 : List Nat} {C : Ctx} {st : St} {a : Act} (R : Rel G nt base bx0 C st a) {fn : Func} {r : AV} (h : resOf G fn.results.toList st = some r) :
    ∃ v, (results fn a.tmps).run G.P C.w = .ok v C.w ∧ RV C.done r v := by
  have one : ∀ (rv : ResultVar) (x : AV), resVar G st rv = some x → ∃ v, (match rv with | .tmp t => pure (a.tmps.getD t undef) | .cell p t => do loadVar t (← asAddr (a.tmps.getD p undef)) : Sem Value).run G.P C.w = .ok v C.w ∧ RV C x v := by
    intro rv x hx
    cases rv with
    | tmp t =>
      simp only [resVar, Option.some.injEq] at hx
      subst hx
      exact ⟨_, rfl, R.env t⟩
    | cell p t =>
      simp only [resVar] at hx
      obtain ⟨cs, hc, hl⟩ := Option.bind_eq_some_iff.1 hx
      obtain ⟨b, off, hp, hcells⟩ := cellsAt_rv R.mem (R.env p) hc
      obtain ⟨v, hv, hr⟩ := loadVar_run hcells hl
      refine ⟨v, ?_, hr⟩
      simp only [hp]
      simp [asAddr, hv]
  have many : ∀ (rs : List ResultVar) (xs : List AV), rs.mapM (resVar G st) = some xs → ∃ vs : List Value, (rs.mapM fun rv => (match rv with | .tmp t => pure (a.tmps.getD t undef) | .cell p t => do loadVar t (← asAddr (a.tmps.getD p undef)) : Sem Value)).run G.P C.w = .ok vs C.w ∧ RVs C xs vs ∧ xs.length = rs.length := by
    intro rs
    induction rs with
    | nil => intro xs h; simp at h; subst h; exact ⟨[], rfl, RVs.nil C, rfl⟩
    | cons rv rs ih =>
      intro xs h
      simp only [List.mapM_cons, Option.bind_eq_bind, Option.pure_def] at h
      obtain ⟨x, hx, h2⟩ := Option.bind_eq_some_iff.1 h
      obtain ⟨ys, hy, h3⟩ := Option.bind_eq_some_iff.1 h2
      cases h3
      obtain ⟨v, hv, hr⟩ := one rv x hx
      obtain ⟨vs, hvs, hrs, hl⟩ := ih ys hy
      refine ⟨v :: vs, ?_, RVs.cons hr hrs, by simp [hl]⟩
      rw [List.mapM_cons]
      simp only [Sem.run_bind, hv, Result.andThen_ok, hvs, Sem.run_pure]
  have eq : ∀ vs : List Value, (fn.results.toList.mapM fun rv => (match rv with | .tmp t => pure (a.tmps.getD t undef) | .cell p t => do loadVar t (← asAddr (a.tmps.getD p undef)) : Sem Value)).run G.P C.w = .ok vs C.w →
      (results fn a.tmps).run G.P C.w = .ok (if h : vs.toArray.size = 1 then vs.toArray[0] else .tuple vs.toArray) C.w := by
    intro vs hvs
    unfold results
    rw [Sem.run_bind, Array.mapM_eq_mapM_toList, Sem.run_map]
    have e2 := congrArg (fun z => Result.andThen (Result.andThen z (fun a w => (Result.ok a.toArray w : Result (Array Value)))) (fun vs w => (Result.ok (if h : vs.size = 1 then vs[0] else .tuple vs) w : Result Value))) hvs
    exact e2
  unfold resOf at h
  split at h
  · rename_i rv hrs
    obtain ⟨x, hx, h2⟩ := Option.map_eq_some_iff.1 h
    subst h2
    obtain ⟨v, hv, hr⟩ := one rv x hx
    refine ⟨v, ?_, fin_rv R.mem hr⟩
    have := eq [v] (by rw [hrs]; simp only [List.mapM_cons, List.mapM_nil, Sem.run_bind, hv, Result.andThen_ok, Sem.run_pure])
    rw [this]
    rfl
  · rename_i hne
    obtain ⟨xs, hx, h2⟩ := Option.map_eq_some_iff.1 h
    subst h2
    obtain ⟨vs, hvs, hr, hl⟩ := many _ xs hx
    have hlen : ¬ vs.toArray.size = 1 := by
      intro e
      have e2 : fn.results.toList.length = 1 := by have := hr.1; simp only [List.size_toArray] at e; omega
      match hq : fn.results.toList, e2 with
      | [r0], _ => exact hne r0 hq
    refine ⟨.tuple vs.toArray, by rw [eq vs hvs, dif_neg hlen], .tup _ _ (by simp [hr.1]) ?_⟩
    intro j c y h1 h2
    rw [List.getElem?_map] at h1
    obtain ⟨d, hd, he⟩ := Option.map_eq_some_iff.1 h1
    subst he
    exact fin_rv R.mem (hr.2 j d y hd (by simpa using h2))

theorem acall_of_code {G : Cfg} (V : G.Vers) (DS : DrawSound G) {f : FuncId} {fn : Func} {c : Code} (hf : G.P.funcs[f]? = some fn) (hb : fn.body = some c) {args : List AV} {bs : List (List AV)} (ha : args.length ≤ fn.ntmps) (hwr : ∀ k, G.wr k = true → bs.length ≤ k) {r : AV}
    (h : ∀ ver, acode G fn.ntmps c (fun e st => (e = .normal ∨ e = .ret) ∧ resOf G fn.results.toList st = some r) ⟨startEnv args, ⟨bs, noArrs ver⟩⟩) : ACall G.P f args bs (fun _ => false) r (fun _ => True) := by
  intro C vs hA hB hN hvs
  have hlen : args.length = vs.size := by simpa using hvs.1
  have R : Rel G fn.ntmps C.w.heap.size [] C ⟨startEnv args, ⟨bs, noArrs C.ver⟩⟩ { tmps := vs ++ Array.replicate (fn.ntmps - vs.size) undef, defers := [] } := by
    refine ⟨⟨hB.len, hB.nodup, ?_, Nat.le_refl _, fun col b h => ⟨hN col b h, by simp⟩, hB.box, fun _ => rfl, fun i _ => hA i, fun i hl => (by cases hl), fun i I g hI => (by rw [hA i] at hI; cases hI), fun i I g hI => (by rw [hA i] at hI; cases hI)⟩, ?_, by simp; omega, rfl⟩
    · intro k b hk hw
      have h1 := hwr k hw
      have h2 := (List.getElem?_eq_some_iff.1 hk).1
      have h3 := hB.len
      omega
    · intro t
      simp only [startEnv]
      by_cases ht : t < args.length
      · have e1 : args.getD t .dead = args[t] := by simp [ht]
        have e2 : (vs ++ Array.replicate (fn.ntmps - vs.size) undef).getD t undef = vs[t] := by
          have : t < vs.size := by omega
          simp [Array.getElem?_append, this]
        rw [e1, e2]
        exact hvs.2 t _ _ (List.getElem?_eq_getElem ht) (by simp)
      · have e1 : args.getD t .dead = .dead := by simp [ht]
        rw [e1]
        exact .dead _
  refine calls_of_wp hf hb (wp_mono (acode_sound V DS c _ C C _ _ R (Keeps.refl C) rfl (WExt.refl _ _ _) (h C.ver)) ?_)
  rintro e a' w' ⟨D, st, rfl, ⟨he, hres⟩, R', K, hn, W⟩
  obtain ⟨v, hv, hr⟩ := res_sound R' hres
  have post : a'.defers = [] ∧ ∃ v, (results fn a'.tmps).run G.P D.w = .ok v D.w ∧ ∃ u C', Ending.returned v = .returned u ∧ C'.w = D.w ∧ C'.N0 = C.N0 ∧ Keeps C C' ∧ (∀ i, C'.A i = none) ∧ (∃ bs', True ∧ BoxOK C' bs') ∧
      WExt C.w.heap.size ((List.range C.bx.length).filterMap fun k => if (fun _ : Nat => false) k then C.bx[k]? else none) C.w D.w ∧ RV C' r u := by
    refine ⟨R'.defers, v, hv, v, D.done, rfl, rfl, hn, K.trans (done_keeps D), fun _ => rfl, ⟨st.mem.boxes, trivial, R'.mem.bxlen, R'.mem.nodup, fun b hb => R'.mem.bxin hb, ?_⟩, ?_, hr⟩
    · intro k b cs h1 h2
      obtain ⟨cur, t, hc, hs, hrr⟩ := R'.mem.box k b cs h1 h2
      exact ⟨cur, t, hc, hs, fun j c x h3 h4 => (hrr j c x h3 h4).keep (done_keeps D)⟩
    · rw [wr_none]
      exact W
  rcases he with rfl | rfl
  · exact post
  · exact post

end Go.Proofs.Ytbmfoijakgccgaa.Am
