/- The abstract machine: contracts of functions, and what a call by one of them leaves. No conditions. -/
import Derived.Test.YtbmfoijakgccgaaAmL
namespace Go.Proofs.Ytbmfoijakgccgaa.Am
open Go Go.RowKit
set_option linter.unusedSimpArgs false
set_option linter.unusedVariables false

/-- No pointer to a box; slices of the allowed colours alone. -/
inductive AV.Free (p : Bool → Prop) : AV → Prop
  | v (x : Value) : AV.Free p (.v x)
  | agg (cs : List AV) (h : ∀ c ∈ cs, AV.Free p c) : AV.Free p (.agg cs)
  | tup (cs : List AV) (h : ∀ c ∈ cs, AV.Free p c) : AV.Free p (.tup cs)
  | sl (col : Bool) (es : List (List AV)) (hp : p col) (h : ∀ e ∈ es, ∀ c ∈ e, AV.Free p c) : AV.Free p (.sl col es)
  | nil : AV.Free p .nil
  | el (col : Bool) (cs : List AV) (hp : p col) (h : ∀ c ∈ cs, AV.Free p c) : AV.Free p (.el col cs)
  | clo (f : FuncId) (pre post : List AV) (h : ∀ c ∈ pre, AV.Free p c) (h' : ∀ c ∈ post, AV.Free p c) : AV.Free p (.clo f pre post)
  | dead : AV.Free p .dead

/-- A reference to an array of the call's own, handed on: what it holds now, lent. -/
def lend1 (m : Mem) : AV → AV
  | .arr i n off len => if m.ok i n = true then .sl true (((m.arrs i).es.drop off).take len) else .dead
  | .nil => .sl true []
  | a => a
def lend (m : Mem) : AV → AV
  | .agg cs => .agg (cs.map (lend1 m))
  | .tup cs => .tup (cs.map (lend1 m))
  | a => lend1 m a

structure BoxOK (C : Ctx) (bs : List (List AV)) : Prop where
  len : C.bx.length = bs.length
  nodup : C.bx.Nodup
  lt : ∀ b ∈ C.bx, b < C.w.heap.size
  box : ∀ (k b : Nat) (cs : List AV), C.bx[k]? = some b → bs[k]? = some cs → ∃ cur t, C.w.heap[b]? = some (.cells cur t (0, 0)) ∧ cur.size = cs.length ∧
    ∀ (j : Nat) (c : AV) (x : Value), cs[j]? = some c → cur[j]? = some x → RV C c x

/-- A function called with such arguments, such boxes: it returns r; the boxes outside 'wr' are not written, the boxes are then such as B says; nothing else that was there has turned. -/
def ACall (P : Program) (f : FuncId) (args : List AV) (bs : List (List AV)) (wr : Nat → Bool) (r : AV) (B : List (List AV) → Prop) : Prop :=
  ∀ (C : Ctx) (vs : Array Value), (∀ i, C.A i = none) → BoxOK C bs → (∀ col b, C.N0 col b → b < C.w.heap.size) → RVs C args vs.toList →
    Calls P f vs C.w fun e w' => ∃ v C', e = .returned v ∧ C'.w = w' ∧ C'.N0 = C.N0 ∧ Keeps C C' ∧ (∀ i, C'.A i = none) ∧ (∃ bs', B bs' ∧ BoxOK C' bs') ∧
      WExt C.w.heap.size ((List.range C.bx.length).filterMap fun k => if wr k then C.bx[k]? else none) C.w w' ∧ RV C' r v

/-- The function has a body, and a call of it enters it. -/
def enters (P : Program) (f : FuncId) : Bool := match P.funcs[f]? with | some fn => fn.name != "runtime.NumGoroutine" && fn.body.isSome | none => false

/-- A function that reads no box: a plain function of its arguments. -/
def Pure (P : Program) (f : FuncId) (args : List AV) (r : AV) : Prop := enters P f = true ∧ r.Free (· = false) ∧ ACall P f args [] (fun _ => false) r (fun _ => True)

/-- A function that may read the boxes, and writes none of them. -/
def BCall (P : Program) (f : FuncId) (args : List AV) (bs : List (List AV)) (r : AV) : Prop := enters P f = true ∧ r.Free (· = false) ∧ ACall P f args bs (fun _ => false) r (fun _ => True)

/-- The context that a callee without boxes is given. -/
def Ctx.bare (C : Ctx) : Ctx := { w := C.w, N0 := fun col b => C.N0 col b ∨ b ∈ C.bx ∨ (col = false ∧ ∃ i I, C.A i = some I ∧ I.val.ownBlock = some b), bx := [], ver := C.ver, A := fun _ => none }

theorem bare_N {C : Ctx} {col : Bool} {b : Nat} (h : ¬ C.N col b) : ¬ C.bare.N col b := by
  rintro ((h1 | h1 | ⟨_, i, I, h1, h2⟩) | h1 | ⟨_, _, h1, _⟩)
  · exact h (.inl h1)
  · exact h (.inr (.inl h1))
  · exact h (.inr (.inr ⟨i, I, h1, h2⟩))
  · cases h1
  · cases h1

theorem rv_bare {C : Ctx} {a : AV} {x : Value} (h : RV C a x) {p : Bool → Prop} (hf : a.Free p) : RV C.bare a x := by
  induction h with
  | v x => exact .v x
  | agg cs vs hl _ ih =>
    cases hf with
    | agg _ hh => exact .agg cs vs hl fun j c x h1 h2 => ih j c x h1 h2 (hh c (List.mem_of_getElem? h1))
  | tup cs vs hl _ ih =>
    cases hf with
    | tup _ hh => exact .tup cs vs hl fun j c x h1 h2 => ih j c x h1 h2 (hh c (List.mem_of_getElem? h1))
  | nil a => exact .nil a
  | sl0 col a cap => exact .sl0 col a cap
  | sl col es b off size cap f hne hs hN hb hcap hc _ ih =>
    cases hf with
    | sl _ _ _ hh => exact .sl col es b off size cap f hne hs (bare_N hN) hb hcap hc fun i j e c h1 h2 => ih i j e c h1 h2 (hh e (List.mem_of_getElem? h1) c (List.mem_of_getElem? h2))
  | el col cs b off f hN hb hc _ ih =>
    cases hf with
    | el _ _ _ hh => exact .el col cs b off f (bare_N hN) hb hc fun j c h1 => ih j c h1 (hh c (List.mem_of_getElem? h1))
  | box k off b h => cases hf
  | arr i n off len x h1 hn _ => cases hf
  | ael i n idx off x h1 hn _ => cases hf
  | clo f pre post ps qs hp hq _ _ ih ih' =>
    cases hf with
    | clo _ _ _ hh hh' => exact .clo f pre post ps qs hp hq (fun j c x h1 h2 => ih j c x h1 h2 (hh c (List.mem_of_getElem? h1))) (fun j c x h1 h2 => ih' j c x h1 h2 (hh' c (List.mem_of_getElem? h1)))
  | dead x => exact .dead x

theorem lend1_rv {G : Cfg} {base : Nat} {bx0 : List Nat} {C : Ctx} {m : Mem} (M : MemOK G base bx0 C m) {a : AV} {x : Value} (h : RV C a x) {p : Bool → Prop} (hf : (lend1 m a).Free p) : RV C.bare (lend1 m a) x := by
  cases a with
  | arr i n off len =>
    simp only [lend1] at hf ⊢
    split
    · rename_i hk
      rw [if_pos hk] at hf
      obtain ⟨I, xs, hI, hs, z1, z2, z3, z4, z5, z6⟩ := arr_rv M h hk
      cases hf with
      | sl _ _ _ hh =>
        refine (sl_of_own (C := C.bare) hs z3 z4 z5 ?_ true ?_).1
        · intro i' j r c y hil hr hc hy
          refine rv_bare (z6 (off + i') j r c y hr hc hy) (hh r ?_ c (List.mem_of_getElem? hc))
          refine List.mem_of_getElem? (i := i') ?_
          rw [List.getElem?_take, if_pos hil, List.getElem?_drop]
          exact hr
        · rintro g hg ((h1 | h1 | ⟨h1, _⟩) | h1 | ⟨_, _, h1, _⟩)
          · exact (M.own hI hg).1.elim (fun h3 => by have h2 := (M.n0 _ _ h1).1; omega) (fun h3 => (M.n0 _ _ h1).2 h3)
          · exact (M.sep i I g hI hg).1 h1
          · cases h1
          · cases h1
          · cases h1
    · exact .dead _
  | nil => cases h with | nil a => exact .sl0 _ _ _
  | _ => exact rv_bare h hf

theorem lend_rv {G : Cfg} {base : Nat} {bx0 : List Nat} {C : Ctx} {m : Mem} (M : MemOK G base bx0 C m) {a : AV} {x : Value} (h : RV C a x) {p : Bool → Prop} (hf : (lend m a).Free p) : RV C.bare (lend m a) x := by
  have many : ∀ (cs : List AV) (vs : Array Value), cs.length = vs.size → (∀ (j : Nat) (c : AV) (x : Value), cs[j]? = some c → vs[j]? = some x → RV C c x) → (∀ c ∈ cs.map (lend1 m), c.Free p) →
      (cs.map (lend1 m)).length = vs.size ∧ ∀ (j : Nat) (c : AV) (x : Value), (cs.map (lend1 m))[j]? = some c → vs[j]? = some x → RV C.bare c x := by
    intro cs vs hl hh hff
    refine ⟨by simp [hl], ?_⟩
    intro j c y h1 h2
    have hm := List.mem_of_getElem? h1
    rw [List.getElem?_map] at h1
    obtain ⟨d, hd, he⟩ := Option.map_eq_some_iff.1 h1
    subst he
    exact lend1_rv M (hh j d y hd h2) (hff _ hm)
  cases a with
  | agg cs =>
    simp only [lend] at hf ⊢
    cases h with
    | agg _ vs hl hh =>
      cases hf with
      | agg _ hff => obtain ⟨q1, q2⟩ := many cs vs hl hh hff; exact .agg _ _ q1 q2
  | tup cs =>
    simp only [lend] at hf ⊢
    cases h with
    | tup _ vs hl hh =>
      cases hf with
      | tup _ hff => obtain ⟨q1, q2⟩ := many cs vs hl hh hff; exact .tup _ _ q1 q2
  | _ => exact lend1_rv M h hf

/-- Back from a callee without boxes: the caller's context over the new world, and the result in it. -/
theorem back_bare {G : Cfg} {base : Nat} {bx0 : List Nat} {C : Ctx} {m : Mem} (M : MemOK G base bx0 C m) {w' : World} (W : WExt C.w.heap.size [] C.w w') {R : Ctx → Prop} (hR : ∀ D, D.w = w' → D.bx = C.bx → D.ver = C.ver → D.A = C.A → D.N0 = C.N0 → R D) : Nxt G base bx0 C w' m R := by
  have hblk : ∀ k, k < C.w.heap.size → w'.heap[k]? = C.w.heap[k]? := fun k hk => W.block k hk (by simp)
  have K : Keeps C { C with w := w' } := ⟨W.size, fun _ _ _ h => h, fun b hb _ => hblk b hb, fun _ _ h => h, fun _ => Nat.le_refl _, fun _ I h _ => ⟨I, h, rfl, rfl, rfl⟩⟩
  refine ⟨{ C with w := w' }, rfl, rfl, K, ?_, ⟨W.os, W.tape, W.output, W.size, fun k hk _ => hblk k (Nat.lt_of_lt_of_le hk M.le)⟩, hR _ rfl rfl rfl rfl rfl⟩
  refine ⟨M.bxlen, M.nodup, M.bxlt, Nat.le_trans M.le W.size, M.n0, ?_, M.ver, M.dead, ?_, M.sep, M.lo⟩
  · intro k b cs h1 h2
    obtain ⟨cur, t, hc, hs, hr⟩ := M.box k b cs h1 h2
    exact ⟨cur, t, (hblk b (M.bxin (List.mem_of_getElem? h1))).trans hc, hs, fun j c x a b => (hr j c x a b).keep K⟩
  · intro i hl
    obtain ⟨I, xs, hA, hz, hp, hlen, hes, ho, hr⟩ := M.arr i hl
    exact ⟨I, xs, hA, hz, hp, hlen, hes, ho.kept (row := none) ⟨W.os, W.tape, W.output, W.size, fun k hk _ => hblk k hk⟩ (by cases I.val.ownBlock <;> simp), fun idx j e c x a b d => (hr idx j e c x a b d).keep K⟩

theorem rv_back {D : Ctx} {r : AV} {x : Value} (h : RV D r x) (hf : r.Free (· = false)) {E : Ctx} (hw : E.w = D.w) (hN : ∀ b, b < D.w.heap.size → ¬ D.N false b → ¬ E.N false b) : RV E r x := by
  induction h with
  | v x => exact .v x
  | agg cs vs hl _ ih =>
    cases hf with
    | agg _ hh => exact .agg cs vs hl fun j c x h1 h2 => ih j c x h1 h2 (hh c (List.mem_of_getElem? h1))
  | tup cs vs hl _ ih =>
    cases hf with
    | tup _ hh => exact .tup cs vs hl fun j c x h1 h2 => ih j c x h1 h2 (hh c (List.mem_of_getElem? h1))
  | nil a => exact .nil a
  | sl0 col a cap => exact .sl0 col a cap
  | sl col es b off size cap f hne hs hN' hb hcap hc _ ih =>
    cases hf with
    | sl _ _ hp hh =>
      subst hp
      exact .sl false es b off size cap f hne hs (hN b hb hN') (by rw [hw]; exact hb) hcap (by rw [hw]; exact hc) fun i j e c h1 h2 => ih i j e c h1 h2 (hh e (List.mem_of_getElem? h1) c (List.mem_of_getElem? h2))
  | el col cs b off f hN' hb hc _ ih =>
    cases hf with
    | el _ _ hp hh =>
      subst hp
      exact .el false cs b off f (hN b hb hN') (by rw [hw]; exact hb) (by rw [hw]; exact hc) fun j c h1 => ih j c h1 (hh c (List.mem_of_getElem? h1))
  | box k off b h => cases hf
  | arr i n off len x h1 hn hh => cases hf
  | ael i n idx off x h1 hn _ => cases hf
  | clo f pre post ps qs hp hq _ _ ih ih' =>
    cases hf with
    | clo _ _ _ hh hh' => exact .clo f pre post ps qs hp hq (fun j c x h1 h2 => ih j c x h1 h2 (hh c (List.mem_of_getElem? h1))) (fun j c x h1 h2 => ih' j c x h1 h2 (hh' c (List.mem_of_getElem? h1)))
  | dead x => exact .dead x


theorem wr_none (bx : List Nat) : ((List.range bx.length).filterMap fun k => if (fun _ : Nat => false) k then bx[k]? else none) = [] := by
  rw [List.filterMap_eq_nil_iff]
  intro k _
  rfl

theorem bare_boxes (C : Ctx) : BoxOK C.bare [] where
  len := rfl
  nodup := List.nodup_nil
  lt := fun b hb => by cases hb
  box := fun k b cs h => by
    have h' : ([] : List Nat)[k]? = some b := h
    simp at h'

theorem pure_call {G : Cfg} {base : Nat} {bx0 : List Nat} {C : Ctx} {m : Mem} (M : MemOK G base bx0 C m) {f : FuncId} {args : List AV} {r : AV} (hp : Pure G.P f (args.map (lend m)) r) (hfree : ∀ a ∈ args, (lend m a).Free (fun _ => True)) {vs : Array Value}
    (hv : RVs C args vs.toList) : Calls G.P f vs C.w fun e w' => ∃ v, e = .returned v ∧ Nxt G base bx0 C w' m fun D => RV D r v := by
  obtain ⟨_, hf, hc⟩ := hp
  refine (hc C.bare vs (fun _ => rfl) (bare_boxes C) ?_ ?_).mono ?_
  · rintro col b (h | h | ⟨_, i, I, hI, hg⟩)
    · have h1 := (M.n0 _ _ h).1; have h2 := M.le; exact Nat.lt_of_lt_of_le h1 h2
    · exact M.bxin h
    · exact (M.own hI hg).2
  · refine ⟨by simpa using hv.1, ?_⟩
    intro j c x h1 h2
    rw [List.getElem?_map] at h1
    obtain ⟨a, ha, he⟩ := Option.map_eq_some_iff.1 h1
    subst he
    exact lend_rv M (hv.2 j a x ha h2) (hfree a (List.mem_of_getElem? ha))
  · rintro e w' ⟨v, C', rfl, hw, hn, K, hA, hB, W, hr⟩
    refine ⟨v, rfl, back_bare M ?_ ?_⟩
    · have : ((List.range C.bare.bx.length).filterMap fun k => if (fun _ : Nat => false) k then C.bare.bx[k]? else none) = [] := rfl
      rw [this] at W
      exact W
    · intro D d1 d2 d3 d4 d5
      refine rv_back hr hf (d1.trans hw.symm) ?_
      rintro b _ hN (h | h | ⟨i, I, hI, hg⟩)
      · exact hN (.inl (by rw [hn]; exact .inl (by rw [d5] at h; exact h)))
      · exact hN (.inl (by rw [hn]; exact .inr (.inl (by rw [d2] at h; exact h))))
      · exact hN (.inl (by rw [hn]; exact .inr (.inr ⟨rfl, i, I, by rw [d4] at hI; exact hI, hg⟩)))

def lentBoxes (m : Mem) : List (List AV) := m.boxes.map (·.map (lend1 m))

/-- The context that a callee is given which may read the boxes. -/
def Ctx.lent (C : Ctx) : Ctx := { w := C.w, N0 := fun col b => C.N0 col b ∨ (col = false ∧ ∃ i I, C.A i = some I ∧ I.val.ownBlock = some b), bx := C.bx, ver := C.ver, A := fun _ => none }

theorem lent_keeps (C : Ctx) : Keeps C C.lent := by
  refine ⟨Nat.le_refl _, ?_, fun _ _ _ => rfl, fun _ _ h => h, fun _ => Nat.le_refl _, fun i I h _ => by cases h⟩
  rintro col b _ hn ((h | ⟨_, i, I, h1, h2⟩) | h | ⟨_, _, h, _⟩)
  · exact hn (.inl h)
  · exact hn (.inr (.inr ⟨i, I, h1, h2⟩))
  · exact hn (.inr (.inl h))
  · cases h

theorem lend1_lent {G : Cfg} {base : Nat} {bx0 : List Nat} {C : Ctx} {m : Mem} (M : MemOK G base bx0 C m) {a : AV} {x : Value} (h : RV C a x) : RV C.lent (lend1 m a) x := by
  cases a with
  | arr i n off len =>
    simp only [lend1]
    split
    · rename_i hk
      obtain ⟨I, xs, hI, hs, z1, z2, z3, z4, z5, z6⟩ := arr_rv M h hk
      refine (sl_of_own (C := C.lent) hs z3 z4 z5 (fun i' j r c y _ hr hc hy => (z6 (off + i') j r c y hr hc hy).keep (lent_keeps C)) true ?_).1
      rintro g hg ((h1 | ⟨h1, _⟩) | h1 | ⟨_, _, h1, _⟩)
      · exact (M.own hI hg).1.elim (fun h3 => by have h2 := (M.n0 _ _ h1).1; omega) (fun h3 => (M.n0 _ _ h1).2 h3)
      · cases h1
      · exact (M.sep i I g hI hg).1 h1
      · cases h1
    · exact .dead _
  | nil => cases h with | nil a => exact .sl0 _ _ _
  | _ => exact h.keep (lent_keeps C)

theorem lend_lent {G : Cfg} {base : Nat} {bx0 : List Nat} {C : Ctx} {m : Mem} (M : MemOK G base bx0 C m) {a : AV} {x : Value} (h : RV C a x) : RV C.lent (lend m a) x := by
  cases a with
  | agg cs =>
    cases h with
    | agg _ vs hl hh =>
      refine .agg _ _ (by simp [hl]) ?_
      intro j c y h1 h2
      rw [List.getElem?_map] at h1
      obtain ⟨d, hd, he⟩ := Option.map_eq_some_iff.1 h1
      subst he
      exact lend1_lent M (hh j d y hd h2)
  | tup cs =>
    cases h with
    | tup _ vs hl hh =>
      refine .tup _ _ (by simp [hl]) ?_
      intro j c y h1 h2
      rw [List.getElem?_map] at h1
      obtain ⟨d, hd, he⟩ := Option.map_eq_some_iff.1 h1
      subst he
      exact lend1_lent M (hh j d y hd h2)
  | _ => exact lend1_lent M h

theorem lent_boxes {G : Cfg} {base : Nat} {bx0 : List Nat} {C : Ctx} {m : Mem} (M : MemOK G base bx0 C m) : BoxOK C.lent (lentBoxes m) := by
  refine ⟨by have := M.bxlen; simp only [lentBoxes, List.length_map]; exact this, M.nodup, fun b hb => M.bxin hb, ?_⟩
  intro k b cs h1 h2
  simp only [lentBoxes, List.getElem?_map] at h2
  obtain ⟨ds, hd, he⟩ := Option.map_eq_some_iff.1 h2
  subst he
  obtain ⟨cur, t, hc, hs, hr⟩ := M.box k b ds h1 hd
  refine ⟨cur, t, hc, by simp [hs], ?_⟩
  intro j c x h3 h4
  rw [List.getElem?_map] at h3
  obtain ⟨d, hd', he⟩ := Option.map_eq_some_iff.1 h3
  subst he
  exact lend1_lent M (hr j d x hd' h4)

theorem boxes_call {G : Cfg} {base : Nat} {bx0 : List Nat} {C : Ctx} {m : Mem} (M : MemOK G base bx0 C m) {f : FuncId} {args : List AV} {r : AV} (hp : BCall G.P f (args.map (lend m)) (lentBoxes m) r) {vs : Array Value}
    (hv : RVs C args vs.toList) : Calls G.P f vs C.w fun e w' => ∃ v, e = .returned v ∧ Nxt G base bx0 C w' m fun D => RV D r v := by
  obtain ⟨_, hf, hc⟩ := hp
  refine (hc C.lent vs (fun _ => rfl) (lent_boxes M) ?_ ?_).mono ?_
  · rintro col b (h | ⟨_, i, I, hI, hg⟩)
    · have h1 := (M.n0 _ _ h).1; have h2 := M.le; exact Nat.lt_of_lt_of_le h1 h2
    · exact (M.own hI hg).2
  · refine ⟨by simpa using hv.1, ?_⟩
    intro j c x h1 h2
    rw [List.getElem?_map] at h1
    obtain ⟨a, ha, he⟩ := Option.map_eq_some_iff.1 h1
    subst he
    exact lend_lent M (hv.2 j a x ha h2)
  · rintro e w' ⟨v, C', rfl, hw, hn, K, hA, hB, W, hr⟩
    refine ⟨v, rfl, back_bare M ?_ ?_⟩
    · rw [wr_none] at W
      exact W
    · intro D d1 d2 d3 d4 d5
      refine rv_back hr hf (d1.trans hw.symm) ?_
      rintro b hlt hN (h | h | ⟨i, I, hI, hg⟩)
      · exact hN (.inl (by rw [hn]; exact .inl (by rw [d5] at h; exact h)))
      · refine hN (.inr (.inl ?_))
        rw [d2] at h
        obtain ⟨k, hk, rfl⟩ := List.getElem_of_mem h
        exact List.mem_of_getElem? (K.bx k _ (List.getElem?_eq_getElem hk))
      · exact hN (.inl (by rw [hn]; exact .inr ⟨rfl, i, I, by rw [d4] at hI; exact hI, hg⟩))

end Go.Proofs.Ytbmfoijakgccgaa.Am
