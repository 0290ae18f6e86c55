/- The abstract machine: functions that are handed an array of the caller's own, or hand one back. No conditions. -/
import Derived.Test.YtbmfoijakgccgaaAmM
namespace Go.Proofs.Ytbmfoijakgccgaa.Am
open Go Go.RowKit
set_option linter.unusedSimpArgs false
set_option linter.unusedVariables false

theorem rv_move {D : Ctx} {p : Bool → Prop} {r : AV} {x : Value} (h : RV D r x) (hf : r.Free p) {E : Ctx} (hw : E.w = D.w) (hN : ∀ col b, p col → b < D.w.heap.size → ¬ D.N col b → ¬ E.N col b) : RV E r x := by
  induction h with
  | v x => exact .v x
  | agg cs vs hl _ ih =>
    cases hf with
    | agg _ hh => exact .agg cs vs hl fun j c x h1 h2 => ih j c x h1 h2 (hh c (List.mem_of_getElem? h1))
  | tup cs vs hl _ ih =>
    cases hf with
    | tup _ hh => exact .tup cs vs hl fun j c x h1 h2 => ih j c x h1 h2 (hh c (List.mem_of_getElem? h1))
  | nil a => exact .nil a
  | sl0 col a cap => exact .sl0 col a cap
  | sl col es b off size cap f hne hs hN' hb hcap hc _ ih =>
    cases hf with
    | sl _ _ hp hh =>
      exact .sl col es b off size cap f hne hs (hN col b hp hb hN') (by rw [hw]; exact hb) hcap (by rw [hw]; exact hc) fun i j e c h1 h2 => ih i j e c h1 h2 (hh e (List.mem_of_getElem? h1) c (List.mem_of_getElem? h2))
  | el col cs b off f hN' hb hc _ ih =>
    cases hf with
    | el _ _ hp hh =>
      exact .el col cs b off f (hN col b hp hb hN') (by rw [hw]; exact hb) (by rw [hw]; exact hc) fun j c h1 => ih j c h1 (hh c (List.mem_of_getElem? h1))
  | box k off b h => cases hf
  | arr i n off len x h1 hn hh => cases hf
  | ael i n idx off x h1 hn _ => cases hf
  | clo f pre post ps qs hp hq _ _ ih ih' =>
    cases hf with
    | clo _ _ _ hh hh' => exact .clo f pre post ps qs hp hq (fun j c x h1 h2 => ih j c x h1 h2 (hh c (List.mem_of_getElem? h1))) (fun j c x h1 h2 => ih' j c x h1 h2 (hh' c (List.mem_of_getElem? h1)))
  | dead x => exact .dead x

/-- The array in transit is at place 0, in version 0. -/
def HasArr (P : Program) (C : Ctx) (e : TypeId) (es : List (List AV)) : Prop :=
  ∃ I xs, C.A 0 = some I ∧ (P.info? e).map (·.size) = some I.size ∧ 0 < I.size ∧ I.len = es.length ∧ (∀ r ∈ es, r.length = I.size) ∧ C.w.ownsRow 0 e I.size I.val I.len xs ∧
    ∀ (idx j : Nat) (r : List AV) (c : AV) (x : Value), es[idx]? = some r → r[j]? = some c → xs[idx * I.size + j]? = some x → RV C c x

def Ctx.blk (C : Ctx) : List Nat := match C.A 0 with
  | some I => I.val.ownBlock.toList
  | none => []

/-- The reference to the array in transit left out. -/
def strip1 : AV → AV
  | .arr _ _ _ _ => .dead
  | a => a
def strip : AV → AV
  | .agg cs => .agg (cs.map strip1)
  | .tup cs => .tup (cs.map strip1)
  | a => strip1 a
/-- The reference to the array in transit under another name. -/
def ren1 (i n : Nat) : AV → AV
  | .arr 0 0 off len => .arr i n off len
  | .arr _ _ _ _ => .dead
  | a => a
def ren (i n : Nat) : AV → AV
  | .agg cs => .agg (cs.map (ren1 i n))
  | .tup cs => .tup (cs.map (ren1 i n))
  | a => ren1 i n a

/-- What is known of the array that is handed back. -/
def OutOK (P : Program) (C C' : Ctx) : Option (Bool × TypeId × List (List AV)) → Prop
  | none => True
  | some (s, e, es) => HasArr P C' e es ∧ (∀ I g, C'.A 0 = some I → I.val.ownBlock = some g → g ∈ C.blk ∨ C.w.heap.size ≤ g) ∧ (s = true → C'.A 0 = C.A 0)
def InOK (P : Program) (C : Ctx) : Option (TypeId × List (List AV)) → Prop
  | none => C.A 0 = none
  | some (e, es) => HasArr P C e es

/-- A function that may be handed an array of the caller's own, and may hand one back (true: the same one, written in place). -/
def OCall (P : Program) (f : FuncId) (inp : Option (TypeId × List (List AV))) (args : List AV) (out : Option (Bool × TypeId × List (List AV))) (r : AV) : Prop :=
  enters P f = true ∧ (strip r).Free (· = false) ∧ (∀ s e es, out = some (s, e, es) → ∀ q ∈ es, ∀ c ∈ q, AV.Free (· = false) c) ∧
  ∀ (C : Ctx) (vs : Array Value), C.bx = [] → (∀ i, C.ver i = 0) → (∀ i, i ≠ 0 → C.A i = none) →
    InOK P C inp →
    (∀ col b, C.N0 col b → b < C.w.heap.size ∧ b ∉ C.blk) → RVs C args vs.toList →
    Calls P f vs C.w fun e w' => ∃ v C', e = .returned v ∧ C'.w = w' ∧ (∀ col b, C.N0 col b → C'.N0 col b) ∧ WExt C.w.heap.size C.blk C.w w' ∧ C'.ver 0 = 0 ∧ RV C' r v ∧ OutOK P C C' out

/-- Back from a callee: its result in the caller's context. -/
theorem rv_ren1 {D : Ctx} {r : AV} {x : Value} (h : RV D r x) (hf : (strip1 r).Free (· = false)) (hv : D.ver 0 = 0) {E : Ctx} {i n : Nat} (hw : E.w = D.w) (hN : ∀ b, b < D.w.heap.size → ¬ D.N false b → ¬ E.N false b)
    (hi : n ≤ E.ver i) (hA : ∀ I, E.A i = some I → n = E.ver i → D.A 0 = some I) : RV E (ren1 i n r) x := by
  cases r with
  | arr j k off len =>
    by_cases hj : j = 0 ∧ k = 0
    · obtain ⟨rfl, rfl⟩ := hj
      cases h with
      | arr _ _ _ _ _ h1 hn hh => exact .arr i n off len x h1 hi fun I h2 h3 => hh I (hA I h2 h3) hv.symm
    · have e : ren1 i n (.arr j k off len) = .dead := by
        cases j with
        | zero => cases k with
          | zero => exact (hj ⟨rfl, rfl⟩).elim
          | succ k => rfl
        | succ j => rfl
      rw [e]
      exact .dead _
  | _ => exact rv_back h hf hw hN

theorem rv_ren {D : Ctx} {r : AV} {x : Value} (h : RV D r x) (hf : (strip r).Free (· = false)) (hv : D.ver 0 = 0) {E : Ctx} {i n : Nat} (hw : E.w = D.w) (hN : ∀ b, b < D.w.heap.size → ¬ D.N false b → ¬ E.N false b)
    (hi : n ≤ E.ver i) (hA : ∀ I, E.A i = some I → n = E.ver i → D.A 0 = some I) : RV E (ren i n r) x := by
  cases r with
  | agg cs =>
    cases h with
    | agg _ vs hl hh =>
      cases hf with
      | agg _ hf =>
        refine .agg _ _ (by simp [hl]) ?_
        intro j c y h1 h2
        rw [List.getElem?_map] at h1
        obtain ⟨d, hd, he⟩ := Option.map_eq_some_iff.1 h1
        subst he
        exact rv_ren1 (hh j d y hd h2) (hf _ (List.mem_map.2 ⟨d, List.mem_of_getElem? hd, rfl⟩)) hv hw hN hi hA
  | tup cs =>
    cases h with
    | tup _ vs hl hh =>
      cases hf with
      | tup _ hf =>
        refine .tup _ _ (by simp [hl]) ?_
        intro j c y h1 h2
        rw [List.getElem?_map] at h1
        obtain ⟨d, hd, he⟩ := Option.map_eq_some_iff.1 h1
        subst he
        exact rv_ren1 (hh j d y hd h2) (hf _ (List.mem_map.2 ⟨d, List.mem_of_getElem? hd, rfl⟩)) hv hw hN hi hA
  | _ => exact rv_ren1 h hf hv hw hN hi hA

/-- An argument as it is handed on, the array at place i with it. -/
def lendO1 (m : Mem) (i : Nat) : AV → AV
  | .arr j n off len => if j = i then (if m.ok i n = true ∧ off = 0 ∧ len = (m.arrs i).es.length then .arr 0 0 0 len else .dead) else lend1 m (.arr j n off len)
  | a => lend1 m a
def lendO (m : Mem) (i : Nat) : AV → AV
  | .agg cs => .agg (cs.map (lendO1 m i))
  | .tup cs => .tup (cs.map (lendO1 m i))
  | a => lendO1 m i a

/-- The context that the callee is given. -/
def Ctx.hand (C : Ctx) (i : Option Nat) : Ctx :=
  { w := C.w, N0 := fun col b => C.N0 col b ∨ b ∈ C.bx ∨ (col = false ∧ ∃ j I, some j ≠ i ∧ C.A j = some I ∧ I.val.ownBlock = some b), bx := [], ver := fun _ => 0, A := fun j => if j = 0 then i.bind C.A else none }

theorem hand_N {C : Ctx} {i : Option Nat} {col : Bool} {b : Nat} (h : ¬ C.N col b) : ¬ (C.hand i).N col b := by
  rintro ((h1 | h1 | ⟨_, j, I, _, h1, h2⟩) | h1 | ⟨j, I, h1, h2⟩)
  · exact h (.inl h1)
  · exact h (.inr (.inl h1))
  · exact h (.inr (.inr ⟨j, I, h1, h2⟩))
  · cases h1
  · have h1' : (if j = 0 then i.bind C.A else none) = some I := h1
    split at h1'
    · obtain ⟨k, _, hk⟩ := Option.bind_eq_some_iff.1 h1'
      exact h (.inr (.inr ⟨k, I, hk, h2⟩))
    · cases h1'

theorem rv_hand {C : Ctx} {i : Option Nat} {a : AV} {x : Value} (h : RV C a x) {p : Bool → Prop} (hf : a.Free p) : RV (C.hand i) a x := rv_move h hf rfl fun _ _ _ _ h => hand_N h

theorem lend1_hand {G : Cfg} {base : Nat} {bx0 : List Nat} {C : Ctx} {m : Mem} (M : MemOK G base bx0 C m) {o : Option Nat} {a : AV} {x : Value} (ho : ∀ j n off len, a = .arr j n off len → o ≠ some j) (h : RV C a x) {p : Bool → Prop} (hf : (lend1 m a).Free p) : RV (C.hand o) (lend1 m a) x := by
  cases a with
  | arr i n off len =>
    simp only [lend1] at hf ⊢
    split
    · rename_i hk
      rw [if_pos hk] at hf
      obtain ⟨I, xs, hI, hs, z1, z2, z3, z4, z5, z6⟩ := arr_rv M h hk
      cases hf with
      | sl _ _ _ hh =>
        refine (sl_of_own (C := C.hand o) hs z3 z4 z5 ?_ true ?_).1
        · intro i' j r c y hil hr hc hy
          refine rv_hand (z6 (off + i') j r c y hr hc hy) (hh r ?_ c (List.mem_of_getElem? hc))
          refine List.mem_of_getElem? (i := i') ?_
          rw [List.getElem?_take, if_pos hil, List.getElem?_drop]
          exact hr
        · rintro g hg ((h1 | h1 | ⟨h1, _⟩) | h1 | ⟨k, J, h1, h2⟩)
          · exact (M.own hI hg).1.elim (fun h3 => by have h2 := (M.n0 _ _ h1).1; omega) (fun h3 => (M.n0 _ _ h1).2 h3)
          · exact (M.sep i I g hI hg).1 h1
          · cases h1
          · cases h1
          · have h1' : (if k = 0 then o.bind C.A else none) = some J := h1
            split at h1'
            · obtain ⟨q, hq, hk⟩ := Option.bind_eq_some_iff.1 h1'
              have := (M.sep i I g hI hg).2 q J hk h2
              exact ho i n off len rfl (by rw [hq, this])
            · cases h1'
    · exact .dead _
  | nil => cases h with | nil a => exact .sl0 _ _ _
  | _ => exact rv_hand h hf

theorem lend_hand {G : Cfg} {base : Nat} {bx0 : List Nat} {C : Ctx} {m : Mem} (M : MemOK G base bx0 C m) {a : AV} {x : Value} (h : RV C a x) {p : Bool → Prop} (hf : (lend m a).Free p) : RV (C.hand none) (lend m a) x := by
  cases a with
  | agg cs =>
    cases h with
    | agg _ vs hl hh =>
      cases hf with
      | agg _ hf =>
        refine .agg _ _ (by simp [hl]) ?_
        intro j c y h1 h2
        rw [List.getElem?_map] at h1
        obtain ⟨d, hd, he⟩ := Option.map_eq_some_iff.1 h1
        subst he
        exact lend1_hand M (fun _ _ _ _ _ => by simp) (hh j d y hd h2) (hf _ (List.mem_map.2 ⟨d, List.mem_of_getElem? hd, rfl⟩))
  | tup cs =>
    cases h with
    | tup _ vs hl hh =>
      cases hf with
      | tup _ hf =>
        refine .tup _ _ (by simp [hl]) ?_
        intro j c y h1 h2
        rw [List.getElem?_map] at h1
        obtain ⟨d, hd, he⟩ := Option.map_eq_some_iff.1 h1
        subst he
        exact lend1_hand M (fun _ _ _ _ _ => by simp) (hh j d y hd h2) (hf _ (List.mem_map.2 ⟨d, List.mem_of_getElem? hd, rfl⟩))
  | _ => exact lend1_hand M (fun _ _ _ _ _ => by simp) h hf

theorem lendO1_rv {G : Cfg} {base : Nat} {bx0 : List Nat} {C : Ctx} {m : Mem} (M : MemOK G base bx0 C m) {i : Nat} {a : AV} {x : Value} (h : RV C a x) (hf : (strip1 (lendO1 m i a)).Free fun _ => True) : RV (C.hand (some i)) (lendO1 m i a) x := by
  cases a with
  | arr j n off len =>
    simp only [lendO1] at hf ⊢
    split
    · rename_i hj
      subst hj
      split
      · rename_i hk
        obtain ⟨hk, rfl, hlen⟩ := hk
        obtain ⟨I, xs, hI, hs, z1, z2, z3, z4, z5, z6⟩ := arr_rv M h hk
        cases h with
        | arr _ _ _ _ _ h1 hn hh =>
          refine .arr 0 0 0 len x h1 (Nat.le_refl _) ?_
          intro J hJ _
          have hJ' : (if (0 : Nat) = 0 then (some j).bind C.A else none) = some J := hJ
          simp only [if_true, Option.bind_some] at hJ'
          rw [hI] at hJ'
          cases hJ'
          exact hs
      · exact .dead _
    · rename_i hj
      rw [if_neg hj] at hf
      have hf' : (lend1 m (.arr j n off len)).Free fun _ => True := by
        simp only [lend1] at hf ⊢
        by_cases hk : m.ok j n = true
        · rw [if_pos hk] at hf ⊢
          exact hf
        · rw [if_neg hk] at hf ⊢
          exact hf
      exact lend1_hand M (fun _ _ _ _ e => by cases e; exact fun h => hj (Option.some.inj h).symm) h hf'
  | nil => exact lend1_hand M (fun _ _ _ _ e => by cases e) h hf
  | v => exact lend1_hand M (fun _ _ _ _ e => by cases e) h hf
  | agg => exact lend1_hand M (fun _ _ _ _ e => by cases e) h hf
  | tup => exact lend1_hand M (fun _ _ _ _ e => by cases e) h hf
  | sl => exact lend1_hand M (fun _ _ _ _ e => by cases e) h hf
  | el => exact lend1_hand M (fun _ _ _ _ e => by cases e) h hf
  | box => exact lend1_hand M (fun _ _ _ _ e => by cases e) h hf
  | ael => exact lend1_hand M (fun _ _ _ _ e => by cases e) h hf
  | clo => exact lend1_hand M (fun _ _ _ _ e => by cases e) h hf
  | dead => exact .dead _

theorem lendO_rv {G : Cfg} {base : Nat} {bx0 : List Nat} {C : Ctx} {m : Mem} (M : MemOK G base bx0 C m) {i : Nat} {a : AV} {x : Value} (h : RV C a x) (hf : (strip (lendO m i a)).Free fun _ => True) : RV (C.hand (some i)) (lendO m i a) x := by
  cases a with
  | agg cs =>
    cases h with
    | agg _ vs hl hh =>
      cases hf with
      | agg _ hf =>
        refine .agg _ _ (by simp [hl]) ?_
        intro j c y h1 h2
        rw [List.getElem?_map] at h1
        obtain ⟨d, hd, he⟩ := Option.map_eq_some_iff.1 h1
        subst he
        exact lendO1_rv M (hh j d y hd h2) (hf _ (List.mem_map.2 ⟨_, List.mem_map.2 ⟨d, List.mem_of_getElem? hd, rfl⟩, rfl⟩))
  | tup cs =>
    cases h with
    | tup _ vs hl hh =>
      cases hf with
      | tup _ hf =>
        refine .tup _ _ (by simp [hl]) ?_
        intro j c y h1 h2
        rw [List.getElem?_map] at h1
        obtain ⟨d, hd, he⟩ := Option.map_eq_some_iff.1 h1
        subst he
        exact lendO1_rv M (hh j d y hd h2) (hf _ (List.mem_map.2 ⟨_, List.mem_map.2 ⟨d, List.mem_of_getElem? hd, rfl⟩, rfl⟩))
  | arr j n off len =>
    refine lendO1_rv M h ?_
    have e : strip (lendO m i (.arr j n off len)) = strip1 (lendO1 m i (.arr j n off len)) := by
      simp only [lendO, lendO1, lend1]
      split <;> split <;> rfl
    rw [← e]
    exact hf
  | nil => exact lendO1_rv M h hf
  | v => exact lendO1_rv M h hf
  | sl => exact lendO1_rv M h hf
  | el => exact lendO1_rv M h hf
  | box => exact lendO1_rv M h hf
  | ael => exact lendO1_rv M h hf
  | clo => exact lendO1_rv M h hf
  | dead => exact lendO1_rv M h hf

/-- A call that hands back a new array. -/
theorem new_call {G : Cfg} {base : Nat} {bx0 : List Nat} {C : Ctx} {m : Mem} (M : MemOK G base bx0 C m) {f : FuncId} {args : List AV} {r : AV} {e : TypeId} {es : List (List AV)} (hp : OCall G.P f none (args.map (lend m)) (some (false, e, es)) r)
    (hfree : ∀ a ∈ args, (lend m a).Free (fun _ => True)) {vs : Array Value} (hv : RVs C args vs.toList) (d : Nat) :
    Calls G.P f vs C.w fun en w' => ∃ v, en = .returned v ∧ Nxt G base bx0 C w' (m.made d e es).2 fun D => RV D (ren d ((m.arrs d).ver + 1) r) v := by
  obtain ⟨_, hf, hfe, hc⟩ := hp
  refine (hc (C.hand none) vs rfl (fun _ => rfl) (fun i hi => if_neg hi) rfl ?_ ?_).mono ?_
  · intro col b h
    refine ⟨?_, by simp [Ctx.blk, Ctx.hand]⟩
    rcases h with h | h | ⟨_, j, I, _, hI, hg⟩
    · have h1 := (M.n0 _ _ h).1; have h2 := M.le; exact Nat.lt_of_lt_of_le h1 h2
    · exact M.bxin h
    · exact (M.own hI hg).2
  · refine ⟨by simpa using hv.1, ?_⟩
    intro j c x h1 h2
    rw [List.getElem?_map] at h1
    obtain ⟨a, ha, he⟩ := Option.map_eq_some_iff.1 h1
    subst he
    exact lend_hand M (hv.2 j a x ha h2) (hfree a (List.mem_of_getElem? ha))
  · rintro en w' ⟨v, C', rfl, hw, hn, W, hv0, hr, ⟨I, xs, hA, hz, hp, hlen, hes, ho, hcon⟩, hblk, _⟩
    have hb0 : (C.hand none).blk = [] := rfl
    rw [hb0] at W hblk
    have hnew : ∀ g, I.val.ownBlock = some g → C.w.heap.size ≤ g := fun g hg => (hblk I g hA hg).elim (fun h => by cases h) id
    have imp : ∀ E : Ctx, E.N0 = C.N0 → E.bx = C.bx → (∀ j J, E.A j = some J → (j ≠ d ∧ C.A j = some J) ∨ (j = d ∧ J = I)) → ∀ b, b < C'.w.heap.size → ¬ C'.N false b → ¬ E.N false b := by
      rintro E e1 e2 e3 b _ hN (h | h | ⟨j, J, hJ, hg⟩)
      · exact hN (.inl (hn _ _ (.inl (e1 ▸ h))))
      · exact hN (.inl (hn _ _ (.inr (.inl (e2 ▸ h)))))
      · rcases e3 j J hJ with ⟨_, h⟩ | ⟨_, rfl⟩
        · exact hN (.inl (hn _ _ (.inr (.inr ⟨rfl, j, J, by simp, h, hg⟩))))
        · exact hN (.inr (.inr ⟨0, J, hA, hg⟩))
    refine ⟨v, rfl, Nxt.setArrW M d w' none ⟨W.os, W.tape, W.output, W.size, fun k hk _ => W.block k hk (by simp)⟩ (fun _ h => by cases h) I xs e es hz hp hlen hes (hw ▸ ho) (fun g hg => .inl (hnew g hg)) ?_ ?_⟩
    · intro E _ ew ebx en0 eA idx j q c x h1 h2 h3
      exact rv_back (hcon idx j q c x h1 h2 h3) (hfe _ _ _ rfl q (List.mem_of_getElem? h1) c (List.mem_of_getElem? h2)) (ew.trans hw.symm) (imp E en0 ebx eA)
    · intro E _ ew ebx en0 eA eAd ever
      refine rv_ren hr hf hv0 (ew.trans hw.symm) (imp E en0 ebx eA) (by rw [ever, M.ver d]; exact Nat.le_refl _) ?_
      intro J hJ _
      rw [eAd] at hJ
      cases hJ
      exact hA

/-- Memory behind a call that was handed the array at place i. -/
def Mem.handed (m : Mem) (i : Nat) : Option (Bool × TypeId × List (List AV)) → Mem
  | none => { m with arrs := fun j => if j = i then { m.arrs i with live := false } else m.arrs j }
  | some (true, _, es) => { m with arrs := fun j => if j = i then { m.arrs i with es := es } else m.arrs j }
  | some (false, e, es) => { m with arrs := fun j => if j = i then ⟨(m.arrs i).ver + 1, true, e, es⟩ else m.arrs j }
def Mem.handedVer (m : Mem) (i : Nat) : Option (Bool × TypeId × List (List AV)) → Nat
  | some (false, _, _) => (m.arrs i).ver + 1
  | _ => (m.arrs i).ver

theorem hand_call {G : Cfg} {base : Nat} {bx0 : List Nat} {C : Ctx} {m : Mem} (M : MemOK G base bx0 C m) {f : FuncId} {args : List AV} {r : AV} {out : Option (Bool × TypeId × List (List AV))} {i : Nat} (hl : (m.arrs i).live = true)
    (hp : OCall G.P f (some ((m.arrs i).elem, (m.arrs i).es)) (args.map (lendO m i)) out r) (hfree : ∀ a ∈ args, (strip (lendO m i a)).Free (fun _ => True)) (hfe0 : ∀ q ∈ (m.arrs i).es, ∀ c ∈ q, AV.Free (fun _ => True) c)
    (hsame : ∀ e es, out = some (true, e, es) → e = (m.arrs i).elem) {vs : Array Value} (hv : RVs C args vs.toList) :
    Calls G.P f vs C.w fun en w' => ∃ v, en = .returned v ∧ Nxt G base bx0 C w' (m.handed i out) fun D => RV D (ren i (m.handedVer i out) r) v := by
  obtain ⟨_, hf, hfe, hc⟩ := hp
  obtain ⟨I0, xs0, hI0, y1, y2, y3, y4, y5, y6⟩ := M.arr i hl
  have hb0 : (C.hand (some i)).blk = I0.val.ownBlock.toList := by simp [Ctx.blk, Ctx.hand, hI0]
  refine (hc (C.hand (some i)) vs rfl (fun _ => rfl) (fun j hj => if_neg hj) ⟨I0, xs0, by simp [Ctx.hand, hI0], y1, y2, y3, y4, y5, ?_⟩ ?_ ?_).mono ?_
  · intro idx j q c x h1 h2 h3
    exact rv_hand (y6 idx j q c x h1 h2 h3) (hfe0 q (List.mem_of_getElem? h1) c (List.mem_of_getElem? h2))
  · intro col b h
    rw [hb0]
    rcases h with h | h | ⟨_, j, I, hne, hI, hg⟩
    · have h1 := (M.n0 _ _ h).1; have h2 := M.le
      refine ⟨Nat.lt_of_lt_of_le h1 h2, fun hb => ?_⟩
      have hg : I0.val.ownBlock = some b := by simpa using hb
      exact (M.own hI0 hg).1.elim (fun h3 => by omega) (fun h3 => (M.n0 _ _ h).2 h3)
    · refine ⟨M.bxin h, fun hb => ?_⟩
      exact (M.sep i I0 b hI0 (by simpa using hb)).1 h
    · refine ⟨(M.own hI hg).2, fun hb => ?_⟩
      have := (M.sep i I0 b hI0 (by simpa using hb)).2 j I hI hg
      exact hne (by rw [this])
  · refine ⟨by simpa using hv.1, ?_⟩
    intro j c x h1 h2
    rw [List.getElem?_map] at h1
    obtain ⟨a, ha, he⟩ := Option.map_eq_some_iff.1 h1
    subst he
    exact lendO_rv M (hv.2 j a x ha h2) (hfree a (List.mem_of_getElem? ha))
  · rintro en w' ⟨v, C', rfl, hw, hn, W, hv0, hr, hout⟩
    rw [hb0] at W
    have hg0 : C.w.grownBy w' I0.val.ownBlock := ⟨W.os, W.tape, W.output, W.size, fun k hk hne => W.block k hk (by
      intro h
      have h' : I0.val.ownBlock = some k := by simpa using h
      exact hne h'.symm)⟩
    refine ⟨v, rfl, ?_⟩
    cases out with
    | none =>
      refine Nxt.dropArr M i I0 hI0 w' hg0 ?_
      intro E _ ew ebx en0 eA ever
      refine rv_ren hr hf hv0 (ew.trans hw.symm) ?_ (by rw [ever, M.ver i]; exact Nat.le_refl _) ?_
      · rintro b _ hN (h | h | ⟨j, J, hJ, hg⟩)
        · exact hN (.inl (hn _ _ (.inl (en0 ▸ h))))
        · exact hN (.inl (hn _ _ (.inr (.inl (ebx ▸ h)))))
        · obtain ⟨hj, h⟩ := eA j J hJ
          exact hN (.inl (hn _ _ (.inr (.inr ⟨rfl, j, J, fun e => hj (Option.some.inj e), h, hg⟩))))
      · intro J hJ _
        exact ((eA i J hJ).1 rfl).elim
    | some o =>
      obtain ⟨s, e, es⟩ := o
      obtain ⟨⟨I, xs, hA, hz, hp, hlen, hes, ho, hcon⟩, hblk, hs⟩ := hout
      rw [hb0] at hblk
      have imp : ∀ E : Ctx, E.N0 = C.N0 → E.bx = C.bx → (∀ j J, E.A j = some J → (j ≠ i ∧ C.A j = some J) ∨ (j = i ∧ J = I)) → ∀ b, b < C'.w.heap.size → ¬ C'.N false b → ¬ E.N false b := by
        rintro E e1 e2 e3 b _ hN (h | h | ⟨j, J, hJ, hg⟩)
        · exact hN (.inl (hn _ _ (.inl (e1 ▸ h))))
        · exact hN (.inl (hn _ _ (.inr (.inl (e2 ▸ h)))))
        · rcases e3 j J hJ with ⟨hj, h⟩ | ⟨_, rfl⟩
          · exact hN (.inl (hn _ _ (.inr (.inr ⟨rfl, j, J, fun e => hj (Option.some.inj e), h, hg⟩))))
          · exact hN (.inr (.inr ⟨0, J, hA, hg⟩))
      cases s with
      | false =>
        refine Nxt.setArrW M i w' I0.val.ownBlock hg0 (fun g hg => ⟨I0, hI0, hg⟩) I xs e es hz hp hlen hes (hw ▸ ho) ?_ ?_ ?_
        · intro g hg
          rcases hblk I g hA hg with h | h
          · exact .inr ⟨I0, hI0, by simpa using h⟩
          · exact .inl h
        · intro E _ ew ebx en0 eA idx j q c x h1 h2 h3
          exact rv_back (hcon idx j q c x h1 h2 h3) (hfe _ _ _ rfl q (List.mem_of_getElem? h1) c (List.mem_of_getElem? h2)) (ew.trans hw.symm) (imp E en0 ebx eA)
        · intro E _ ew ebx en0 eA eAd ever
          refine rv_ren hr hf hv0 (ew.trans hw.symm) (imp E en0 ebx eA) (by rw [ever, M.ver i]; exact Nat.le_refl _) ?_
          intro J hJ _
          rw [eAd] at hJ
          cases hJ
          exact hA
      | true =>
        have hII : C'.A 0 = some I0 := by rw [hs rfl]; simp [Ctx.hand, hI0]
        rw [hA] at hII
        cases hII
        have he := hsame e es rfl
        subst he
        refine Nxt.putElW M i I0 hI0 w' hg0 xs es hlen hes (hw ▸ ho) ?_ ?_
        · intro E _ ew ebx en0 eA idx j q c x h1 h2 h3
          refine rv_back (hcon idx j q c x h1 h2 h3) (hfe _ _ _ rfl q (List.mem_of_getElem? h1) c (List.mem_of_getElem? h2)) (ew.trans hw.symm) (imp E en0 ebx ?_)
          intro j J hJ
          rw [eA] at hJ
          by_cases hj : j = i
          · subst hj; rw [hI0] at hJ; cases hJ; exact .inr ⟨rfl, rfl⟩
          · exact .inl ⟨hj, hJ⟩
        · intro E _ ew ebx en0 eA ever
          refine rv_ren hr hf hv0 (ew.trans hw.symm) (imp E en0 ebx ?_) (by rw [ever, M.ver i]; exact Nat.le_refl _) ?_
          · intro j J hJ
            rw [eA] at hJ
            by_cases hj : j = i
            · subst hj; rw [hI0] at hJ; cases hJ; exact .inr ⟨rfl, rfl⟩
            · exact .inl ⟨hj, hJ⟩
          · intro J hJ _
            rw [eA, hI0] at hJ
            cases hJ
            exact hA

end Go.Proofs.Ytbmfoijakgccgaa.Am
