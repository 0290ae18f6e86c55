/- The abstract machine: functions that are handed an array of the caller's own, or hand one back. No conditions. -/
import Derived.Test.YtokhnmchnfkiiaaDoorAmM
namespace Go.Proofs.YtokhnmchnfkiiaaDoor.Am
open Go Go.RowKit
set_option linter.unusedSimpArgs false
set_option linter.unusedVariables false

theorem rv_move {D : Ctx} {p : Bool → Prop} {r : AV} {x : Value} (h : RV D r x) (hf : r.Free p) {E : Ctx} (hw : E.w = D.w) (hN : ∀ col b, p col → b < D.w.heap.size → ¬ D.N col b → ¬ E.N col b) : RV E r x := by
  induction h with
  | v x => exact .v x
  | agg cs vs hl _ ih =>
    cases hf with
    | agg _ hh => exact .agg cs vs hl fun j c x h1 h2 => ih j c x h1 h2 (hh c (List.mem_of_getElem? h1))
  | tup cs vs hl _ ih =>
    cases hf with
    | tup _ hh => exact .tup cs vs hl fun j c x h1 h2 => ih j c x h1 h2 (hh c (List.mem_of_getElem? h1))
  | nil a => exact .nil a
  | sl0 col a cap => exact .sl0 col a cap
  | sl col es b off size cap f hne hs hN' hz hb hcap hc _ ih =>
    cases hf with
    | sl _ _ hp hh =>
      exact .sl col es b off size cap f hne hs (hN col b hp hb hN') (fun e => by rw [hw]; exact hz e) (by rw [hw]; exact hb) hcap (by rw [hw]; exact hc) fun i j e c h1 h2 => ih i j e c h1 h2 (hh e (List.mem_of_getElem? h1) c (List.mem_of_getElem? h2))
  | el col cs b off f hN' hb hc _ ih =>
    cases hf with
    | el _ _ hp hh =>
      exact .el col cs b off f (hN col b hp hb hN') (by rw [hw]; exact hb) (by rw [hw]; exact hc) fun j c h1 => ih j c h1 (hh c (List.mem_of_getElem? h1))
  | box k off b h => cases hf
  | arr i n off len x h1 hn hh => cases hf
  | ael i n idx off x h1 hn _ => cases hf
  | clo f pre post ps qs hp hq _ _ ih ih' =>
    cases hf with
    | clo _ _ _ hh hh' => exact .clo f pre post ps qs hp hq (fun j c x h1 h2 => ih j c x h1 h2 (hh c (List.mem_of_getElem? h1))) (fun j c x h1 h2 => ih' j c x h1 h2 (hh' c (List.mem_of_getElem? h1)))
  | dead x => exact .dead x
  | any => cases hf
  | wsl0 => cases hf
  | wsl => cases hf
  | wel => cases hf

/-- The array in transit is at place 0, in version 0. -/
def HasArr (P : Program) (C : Ctx) (e : TypeId) (es : List (List AV)) : Prop :=
  ∃ I xs, C.A 0 = some I ∧ (P.info? e).map (·.size) = some I.size ∧ 0 < I.size ∧ I.len = es.length ∧ (∀ r ∈ es, r.length = I.size) ∧ C.w.ownsRow 0 e I.size I.val I.len xs ∧
    ∀ (idx j : Nat) (r : List AV) (c : AV) (x : Value), es[idx]? = some r → r[j]? = some c → xs[idx * I.size + j]? = some x → RV C c x

def Ctx.blk (C : Ctx) : List Nat := match C.A 0 with
  | some I => I.val.ownBlock.toList
  | none => []

/-- The reference to the array in transit left out. -/
def strip1 : AV → AV
  | .arr _ _ _ _ => .dead
  | a => a
def strip : AV → AV
  | .agg cs => .agg (cs.map strip1)
  | .tup cs => .tup (cs.map strip1)
  | a => strip1 a
/-- The reference to the array in transit under another name. -/
def ren1 (i n : Nat) : AV → AV
  | .arr 0 0 off len => .arr i n off len
  | .arr _ _ _ _ => .dead
  | a => a
def ren (i n : Nat) : AV → AV
  | .agg cs => .agg (cs.map (ren1 i n))
  | .tup cs => .tup (cs.map (ren1 i n))
  | a => ren1 i n a

/-- What is known of the array that is handed back. -/
def OutOK (P : Program) (C C' : Ctx) : Option (Bool × TypeId × List (List AV)) → Prop
  | none => True
  | some (s, e, es) => HasArr P C' e es ∧ (∀ I g, C'.A 0 = some I → I.val.ownBlock = some g → g ∈ C.blk ∨ C.w.heap.size ≤ g) ∧ (s = true → C'.A 0 = C.A 0)
def InOK (P : Program) (C : Ctx) : Option (TypeId × List (List AV)) → Prop
  | none => C.A 0 = none
  | some (e, es) => HasArr P C e es

/-- A function that may be handed an array of the caller's own, and may hand one back (true: the same one, written in place); it may read the boxes. -/
def OCallB (P : Program) (f : FuncId) (bs : List (List AV)) (inp : Option (TypeId × List (List AV))) (args : List AV) (out : Option (Bool × TypeId × List (List AV))) (r : AV) : Prop :=
  enters P f = true ∧ (strip r).Free (· = false) ∧ (∀ s e es, out = some (s, e, es) → ∀ q ∈ es, ∀ c ∈ q, AV.Free (· = false) c) ∧
  ∀ (C : Ctx) (vs : Array Value), BoxOK C bs → (∀ i, C.ver i = 0) → (∀ i, i ≠ 0 → C.A i = none) →
    InOK P C inp → (∀ b, ¬ C.W b) → (∀ b, b ∈ C.bx → b ∉ C.blk) →
    (∀ b, C.N0 false b → b < C.w.heap.size ∧ b ∉ C.blk) → RVs C args vs.toList →
    Calls P f vs C.w fun e w' => ∃ v C', e = .returned v ∧ C'.w = w' ∧ (∀ col b, C.N0 col b → C'.N0 col b) ∧ (∀ b, b ∈ C.bx → b ∈ C'.bx) ∧ WExt C.w.heap.size C.blk C.w w' ∧ C'.ver 0 = 0 ∧ RV C' r v ∧ OutOK P C C' out
/-- The same, of a function that reads no box. -/
def OCall (P : Program) (f : FuncId) (inp : Option (TypeId × List (List AV))) (args : List AV) (out : Option (Bool × TypeId × List (List AV))) (r : AV) : Prop := OCallB P f [] inp args out r

/-- Back from a callee: its result in the caller's context. -/
theorem rv_ren1 {D : Ctx} {r : AV} {x : Value} (h : RV D r x) (hf : (strip1 r).Free (· = false)) (hv : D.ver 0 = 0) {E : Ctx} {i n : Nat} (hw : E.w = D.w) (hN : ∀ b, b < D.w.heap.size → ¬ D.N false b → ¬ E.N false b)
    (hi : n ≤ E.ver i) (hA : ∀ I, E.A i = some I → n = E.ver i → D.A 0 = some I) : RV E (ren1 i n r) x := by
  cases r with
  | arr j k off len =>
    by_cases hj : j = 0 ∧ k = 0
    · obtain ⟨rfl, rfl⟩ := hj
      cases h with
      | arr _ _ _ _ _ h1 hn hh => exact .arr i n off len x h1 hi fun I h2 h3 => hh I (hA I h2 h3) hv.symm
    · have e : ren1 i n (.arr j k off len) = .dead := by
        cases j with
        | zero => cases k with
          | zero => exact (hj ⟨rfl, rfl⟩).elim
          | succ k => rfl
        | succ j => rfl
      rw [e]
      exact .dead _
  | _ => exact rv_back h hf hw hN

theorem rv_ren {D : Ctx} {r : AV} {x : Value} (h : RV D r x) (hf : (strip r).Free (· = false)) (hv : D.ver 0 = 0) {E : Ctx} {i n : Nat} (hw : E.w = D.w) (hN : ∀ b, b < D.w.heap.size → ¬ D.N false b → ¬ E.N false b)
    (hi : n ≤ E.ver i) (hA : ∀ I, E.A i = some I → n = E.ver i → D.A 0 = some I) : RV E (ren i n r) x := by
  cases r with
  | agg cs =>
    cases h with
    | agg _ vs hl hh =>
      cases hf with
      | agg _ hf =>
        refine .agg _ _ (by simp [hl]) ?_
        intro j c y h1 h2
        rw [List.getElem?_map] at h1
        obtain ⟨d, hd, he⟩ := Option.map_eq_some_iff.1 h1
        subst he
        exact rv_ren1 (hh j d y hd h2) (hf _ (List.mem_map.2 ⟨d, List.mem_of_getElem? hd, rfl⟩)) hv hw hN hi hA
  | tup cs =>
    cases h with
    | tup _ vs hl hh =>
      cases hf with
      | tup _ hf =>
        refine .tup _ _ (by simp [hl]) ?_
        intro j c y h1 h2
        rw [List.getElem?_map] at h1
        obtain ⟨d, hd, he⟩ := Option.map_eq_some_iff.1 h1
        subst he
        exact rv_ren1 (hh j d y hd h2) (hf _ (List.mem_map.2 ⟨d, List.mem_of_getElem? hd, rfl⟩)) hv hw hN hi hA
  | _ => exact rv_ren1 h hf hv hw hN hi hA

/-- An argument as it is handed on, the array at place i with it. -/
def lendO1 (m : Mem) (i : Nat) : AV → AV
  | .arr j n off len => if j = i then (if m.ok i n = true ∧ off = 0 ∧ len = (m.arrs i).es.length then .arr 0 0 0 len else .dead) else lend1 m (.arr j n off len)
  | a => lend1 m a
def lendO (m : Mem) (i : Nat) : AV → AV
  | .agg cs => .agg (cs.map (lendO1 m i))
  | .tup cs => .tup (cs.map (lendO1 m i))
  | a => lendO1 m i a

/-- The context that the callee is given. -/
def Ctx.hand (C : Ctx) (i : Option Nat) : Ctx :=
  { w := C.w, N0 := fun col b => col = false ∧ ((C.N0 false b ∨ C.W b) ∨ b ∈ C.bx ∨ ∃ j I, some j ≠ i ∧ C.A j = some I ∧ I.val.ownBlock = some b), bx := [], W := fun _ => False, ver := fun _ => 0, A := fun j => if j = 0 then i.bind C.A else none }

theorem hand_N {C : Ctx} {i : Option Nat} {col : Bool} {b : Nat} (h : ¬ C.N col b) : ¬ (C.hand i).N col b := by
  rintro ((⟨rfl, h1 | h1 | ⟨j, I, _, h1, h2⟩⟩ | h1) | h1 | ⟨j, I, h1, h2⟩)
  · exact h (.inl h1)
  · exact h (.inr (.inl h1))
  · exact h (.inr (.inr ⟨j, I, h1, h2⟩))
  · cases h1
  · cases h1
  · have h1' : (if j = 0 then i.bind C.A else none) = some I := h1
    split at h1'
    · obtain ⟨k, _, hk⟩ := Option.bind_eq_some_iff.1 h1'
      exact h (.inr (.inr ⟨k, I, hk, h2⟩))
    · cases h1'

theorem hand_boxes (C : Ctx) (i : Option Nat) (hg : GlobOK C) : BoxOK (C.hand i) [] where
  glob := hg.same rfl fun b _ h => hand_N h
  len := rfl
  nodup := List.nodup_nil
  lt := fun b hb => by cases hb
  box := fun k b cs h => by
    have h' : ([] : List Nat)[k]? = some b := h
    simp at h'

theorem rv_hand {C : Ctx} {i : Option Nat} {a : AV} {x : Value} (h : RV C a x) {p : Bool → Prop} (hf : a.Free p) : RV (C.hand i) a x := rv_move h hf rfl fun _ _ _ _ h => hand_N h

theorem lend1_hand {G : Cfg} {base : Nat} {bx0 : List Nat} {C : Ctx} {m : Mem} (M : MemOK G base bx0 C m) {o : Option Nat} {a : AV} {x : Value} (ho : ∀ j n off len, a = .arr j n off len → o ≠ some j) (h : RV C a x) {p : Bool → Prop} (hf : (lend1 m a).Free p) : RV (C.hand o) (lend1 m a) x := by
  cases a with
  | arr i n off len =>
    simp only [lend1] at hf ⊢
    split
    · rename_i hk
      rw [if_pos hk] at hf
      obtain ⟨I, xs, hI, hs, z1, z2, z3, z4, z5, z6⟩ := arr_rv M h hk
      cases hf with
      | sl _ _ _ hh =>
        refine (sl_of_own (C := C.hand o) hs z3 z4 z5 ?_ true ?_).1
        · intro i' j r c y hil hr hc hy
          refine rv_hand (z6 (off + i') j r c y hr hc hy) (hh r ?_ c (List.mem_of_getElem? hc))
          refine List.mem_of_getElem? (i := i') ?_
          rw [List.getElem?_take, if_pos hil, List.getElem?_drop]
          exact hr
        · rintro g hg ((⟨h1, _⟩ | h1) | h1 | ⟨k, J, h1, h2⟩)
          · cases h1
          · cases h1
          · cases h1
          · have h1' : (if k = 0 then o.bind C.A else none) = some J := h1
            split at h1'
            · obtain ⟨q, hq, hk⟩ := Option.bind_eq_some_iff.1 h1'
              have := (M.sep i I g hI hg).2 q J hk h2
              exact ho i n off len rfl (by rw [hq, this])
            · cases h1'
    · exact .dead _
  | nil => cases h with | nil a => exact .sl0 _ _ _
  | _ => exact rv_hand h hf

theorem lend_hand {G : Cfg} {base : Nat} {bx0 : List Nat} {C : Ctx} {m : Mem} (M : MemOK G base bx0 C m) {a : AV} {x : Value} (h : RV C a x) {p : Bool → Prop} (hf : (lend m a).Free p) : RV (C.hand none) (lend m a) x := by
  cases a with
  | agg cs =>
    cases h with
    | agg _ vs hl hh =>
      cases hf with
      | agg _ hf =>
        refine .agg _ _ (by simp [hl]) ?_
        intro j c y h1 h2
        rw [List.getElem?_map] at h1
        obtain ⟨d, hd, he⟩ := Option.map_eq_some_iff.1 h1
        subst he
        exact lend1_hand M (fun _ _ _ _ _ => by simp) (hh j d y hd h2) (hf _ (List.mem_map.2 ⟨d, List.mem_of_getElem? hd, rfl⟩))
  | tup cs =>
    cases h with
    | tup _ vs hl hh =>
      cases hf with
      | tup _ hf =>
        refine .tup _ _ (by simp [hl]) ?_
        intro j c y h1 h2
        rw [List.getElem?_map] at h1
        obtain ⟨d, hd, he⟩ := Option.map_eq_some_iff.1 h1
        subst he
        exact lend1_hand M (fun _ _ _ _ _ => by simp) (hh j d y hd h2) (hf _ (List.mem_map.2 ⟨d, List.mem_of_getElem? hd, rfl⟩))
  | _ => exact lend1_hand M (fun _ _ _ _ _ => by simp) h hf

theorem lendO1_rv {G : Cfg} {base : Nat} {bx0 : List Nat} {C : Ctx} {m : Mem} (M : MemOK G base bx0 C m) {i : Nat} {a : AV} {x : Value} (h : RV C a x) (hf : (strip1 (lendO1 m i a)).Free fun _ => True) : RV (C.hand (some i)) (lendO1 m i a) x := by
  cases a with
  | arr j n off len =>
    simp only [lendO1] at hf ⊢
    split
    · rename_i hj
      subst hj
      split
      · rename_i hk
        obtain ⟨hk, rfl, hlen⟩ := hk
        obtain ⟨I, xs, hI, hs, z1, z2, z3, z4, z5, z6⟩ := arr_rv M h hk
        cases h with
        | arr _ _ _ _ _ h1 hn hh =>
          refine .arr 0 0 0 len x h1 (Nat.le_refl _) ?_
          intro J hJ _
          have hJ' : (if (0 : Nat) = 0 then (some j).bind C.A else none) = some J := hJ
          simp only [if_true, Option.bind_some] at hJ'
          rw [hI] at hJ'
          cases hJ'
          exact hs
      · exact .dead _
    · rename_i hj
      rw [if_neg hj] at hf
      have hf' : (lend1 m (.arr j n off len)).Free fun _ => True := by
        simp only [lend1] at hf ⊢
        by_cases hk : m.ok j n = true
        · rw [if_pos hk] at hf ⊢
          exact hf
        · rw [if_neg hk] at hf ⊢
          exact hf
      exact lend1_hand M (fun _ _ _ _ e => by cases e; exact fun h => hj (Option.some.inj h).symm) h hf'
  | nil => exact lend1_hand M (fun _ _ _ _ e => by cases e) h hf
  | v => exact lend1_hand M (fun _ _ _ _ e => by cases e) h hf
  | agg => exact lend1_hand M (fun _ _ _ _ e => by cases e) h hf
  | tup => exact lend1_hand M (fun _ _ _ _ e => by cases e) h hf
  | sl => exact lend1_hand M (fun _ _ _ _ e => by cases e) h hf
  | el => exact lend1_hand M (fun _ _ _ _ e => by cases e) h hf
  | box => exact lend1_hand M (fun _ _ _ _ e => by cases e) h hf
  | ael => exact lend1_hand M (fun _ _ _ _ e => by cases e) h hf
  | clo => exact lend1_hand M (fun _ _ _ _ e => by cases e) h hf
  | dead => exact .dead _
  | any => cases hf
  | wsl => cases hf
  | wel => cases hf

theorem lendO_rv {G : Cfg} {base : Nat} {bx0 : List Nat} {C : Ctx} {m : Mem} (M : MemOK G base bx0 C m) {i : Nat} {a : AV} {x : Value} (h : RV C a x) (hf : (strip (lendO m i a)).Free fun _ => True) : RV (C.hand (some i)) (lendO m i a) x := by
  cases a with
  | agg cs =>
    cases h with
    | agg _ vs hl hh =>
      cases hf with
      | agg _ hf =>
        refine .agg _ _ (by simp [hl]) ?_
        intro j c y h1 h2
        rw [List.getElem?_map] at h1
        obtain ⟨d, hd, he⟩ := Option.map_eq_some_iff.1 h1
        subst he
        exact lendO1_rv M (hh j d y hd h2) (hf _ (List.mem_map.2 ⟨_, List.mem_map.2 ⟨d, List.mem_of_getElem? hd, rfl⟩, rfl⟩))
  | tup cs =>
    cases h with
    | tup _ vs hl hh =>
      cases hf with
      | tup _ hf =>
        refine .tup _ _ (by simp [hl]) ?_
        intro j c y h1 h2
        rw [List.getElem?_map] at h1
        obtain ⟨d, hd, he⟩ := Option.map_eq_some_iff.1 h1
        subst he
        exact lendO1_rv M (hh j d y hd h2) (hf _ (List.mem_map.2 ⟨_, List.mem_map.2 ⟨d, List.mem_of_getElem? hd, rfl⟩, rfl⟩))
  | arr j n off len =>
    refine lendO1_rv M h ?_
    have e : strip (lendO m i (.arr j n off len)) = strip1 (lendO1 m i (.arr j n off len)) := by
      simp only [lendO, lendO1, lend1]
      split <;> split <;> rfl
    rw [← e]
    exact hf
  | nil => exact lendO1_rv M h hf
  | v => exact lendO1_rv M h hf
  | sl => exact lendO1_rv M h hf
  | el => exact lendO1_rv M h hf
  | box => exact lendO1_rv M h hf
  | ael => exact lendO1_rv M h hf
  | clo => exact lendO1_rv M h hf
  | dead => exact lendO1_rv M h hf
  | any => exact lendO1_rv M h hf
  | wsl => exact lendO1_rv M h hf
  | wel => exact lendO1_rv M h hf

/-- A call that hands back a new array. -/
theorem new_callG {G : Cfg} {base : Nat} {bx0 : List Nat} {C : Ctx} {m : Mem} (M : MemOK G base bx0 C m) {f : FuncId} {les : List AV} {r : AV} {e : TypeId} {es : List (List AV)} (hp : OCall G.P f none les (some (false, e, es)) r)
    {vs : Array Value} (hv : RVs (C.hand none) les vs.toList) (d : Nat) :
    Calls G.P f vs C.w fun en w' => ∃ v, en = .returned v ∧ Nxt G base bx0 C w' (m.made d e es).2 fun D => RV D (ren d ((m.arrs d).ver + 1) r) v := by
  obtain ⟨_, hf, hfe, hc⟩ := hp
  refine (hc (C.hand none) vs (hand_boxes C none M.glob) (fun _ => rfl) (fun i hi => if_neg hi) rfl (fun _ h => h.elim) (fun b h => by cases h) ?_ hv).mono ?_
  · intro b h
    refine ⟨M.nlt ?_, by simp [Ctx.blk, Ctx.hand]⟩
    rcases h.2 with h | h | ⟨j, I, _, hI, hg⟩
    · exact .inl h
    · exact .inr (.inl h)
    · exact .inr (.inr ⟨j, I, hI, hg⟩)
  · rintro en w' ⟨v, C', rfl, hw, hn, _, W, hv0, hr, ⟨I, xs, hA, hz, hp, hlen, hes, ho, hcon⟩, hblk, _⟩
    have hb0 : (C.hand none).blk = [] := rfl
    rw [hb0] at W hblk
    have hnew : ∀ g, I.val.ownBlock = some g → C.w.heap.size ≤ g := fun g hg => (hblk I g hA hg).elim (fun h => by cases h) id
    have imp : ∀ E : Ctx, E.N0 = C.N0 → E.W = C.W → E.bx = C.bx → (∀ j J, E.A j = some J → (j ≠ d ∧ C.A j = some J) ∨ (j = d ∧ J = I)) → ∀ b, b < C'.w.heap.size → ¬ C'.N false b → ¬ E.N false b := by
      rintro E e1 ew e2 e3 b _ hN ((h | h) | h | ⟨j, J, hJ, hg⟩)
      · exact hN (.inl (.inl (hn _ _ ⟨rfl, .inl (.inl (e1 ▸ h))⟩)))
      · exact hN (.inl (.inl (hn _ _ ⟨rfl, .inl (.inr (ew ▸ h))⟩)))
      · exact hN (.inl (.inl (hn _ _ ⟨rfl, .inr (.inl (e2 ▸ h))⟩)))
      · rcases e3 j J hJ with ⟨_, h⟩ | ⟨_, rfl⟩
        · exact hN (.inl (.inl (hn _ _ ⟨rfl, .inr (.inr ⟨j, J, by simp, h, hg⟩)⟩)))
        · exact hN (.inr (.inr ⟨0, J, hA, hg⟩))
    refine ⟨v, rfl, Nxt.setArrW M d w' none ⟨W.os, W.tape, W.output, W.size, fun k hk _ => W.block k hk (by simp)⟩ (fun _ h => by cases h) I xs e es hz hp hlen hes (hw ▸ ho) (fun g hg => .inl (hnew g hg)) ?_ ?_⟩
    · intro E EK ew ebx en0 eA idx j q c x h1 h2 h3
      exact rv_back (hcon idx j q c x h1 h2 h3) (hfe _ _ _ rfl q (List.mem_of_getElem? h1) c (List.mem_of_getElem? h2)) (ew.trans hw.symm) (imp E en0 EK.W ebx eA)
    · intro E EK ew ebx en0 eA eAd ever
      refine rv_ren hr hf hv0 (ew.trans hw.symm) (imp E en0 EK.W ebx eA) (by rw [ever, M.ver d]; exact Nat.le_refl _) ?_
      intro J hJ _
      rw [eAd] at hJ
      cases hJ
      exact hA

theorem new_call {G : Cfg} {base : Nat} {bx0 : List Nat} {C : Ctx} {m : Mem} (M : MemOK G base bx0 C m) {f : FuncId} {args : List AV} {r : AV} {e : TypeId} {es : List (List AV)} (hp : OCall G.P f none (args.map (lend m)) (some (false, e, es)) r)
    (hfree : ∀ a ∈ args, (lend m a).Free (fun _ => True)) {vs : Array Value} (hv : RVs C args vs.toList) (d : Nat) :
    Calls G.P f vs C.w fun en w' => ∃ v, en = .returned v ∧ Nxt G base bx0 C w' (m.made d e es).2 fun D => RV D (ren d ((m.arrs d).ver + 1) r) v := by
  refine new_callG M hp ⟨by simpa using hv.1, ?_⟩ d
  intro j c x h1 h2
  rw [List.getElem?_map] at h1
  obtain ⟨a, ha, he⟩ := Option.map_eq_some_iff.1 h1
  subst he
  exact lend_hand M (hv.2 j a x ha h2) (hfree a (List.mem_of_getElem? ha))
theorem new_callN {G : Cfg} {base : Nat} {bx0 : List Nat} {C : Ctx} {m : Mem} (M : MemOK G base bx0 C m) {f : FuncId} {args : List AV} {r : AV} {e : TypeId} {es : List (List AV)} (hp : OCall G.P f none (args.map (lendN m)) (some (false, e, es)) r)
    (hfree : ∀ a ∈ args, (lend m a).Free (fun _ => True)) {vs : Array Value} (hv : RVs C args vs.toList) (d : Nat) :
    Calls G.P f vs C.w fun en w' => ∃ v, en = .returned v ∧ Nxt G base bx0 C w' (m.made d e es).2 fun D => RV D (ren d ((m.arrs d).ver + 1) r) v := by
  refine new_callG M hp ⟨by simpa using hv.1, ?_⟩ d
  intro j c x h1 h2
  rw [List.getElem?_map] at h1
  obtain ⟨a, ha, he⟩ := Option.map_eq_some_iff.1 h1
  subst he
  have h3 := hv.2 j a x ha h2
  cases a with
  | nil => cases h3 with | nil q => exact .nil q
  | _ => exact lend_hand M h3 (hfree _ (List.mem_of_getElem? ha))

/-- Memory behind a call that was handed the array at place i. -/
def Mem.handed (m : Mem) (i : Nat) : Option (Bool × TypeId × List (List AV)) → Mem
  | none => { m with arrs := fun j => if j = i then { m.arrs i with live := false } else m.arrs j }
  | some (true, _, es) => { m with arrs := fun j => if j = i then { m.arrs i with es := es } else m.arrs j }
  | some (false, e, es) => { m with arrs := fun j => if j = i then ⟨(m.arrs i).ver + 1, true, e, es⟩ else m.arrs j }
def Mem.handedVer (m : Mem) (i : Nat) : Option (Bool × TypeId × List (List AV)) → Nat
  | some (false, _, _) => (m.arrs i).ver + 1
  | _ => (m.arrs i).ver

theorem hand_call {G : Cfg} {base : Nat} {bx0 : List Nat} {C : Ctx} {m : Mem} (M : MemOK G base bx0 C m) {f : FuncId} {args : List AV} {r : AV} {out : Option (Bool × TypeId × List (List AV))} {i : Nat} (hl : (m.arrs i).live = true)
    (hp : OCall G.P f (some ((m.arrs i).elem, (m.arrs i).es)) (args.map (lendO m i)) out r) (hfree : ∀ a ∈ args, (strip (lendO m i a)).Free (fun _ => True)) (hfe0 : ∀ q ∈ (m.arrs i).es, ∀ c ∈ q, AV.Free (fun _ => True) c)
    (hsame : ∀ e es, out = some (true, e, es) → e = (m.arrs i).elem) {vs : Array Value} (hv : RVs C args vs.toList) :
    Calls G.P f vs C.w fun en w' => ∃ v, en = .returned v ∧ Nxt G base bx0 C w' (m.handed i out) fun D => RV D (ren i (m.handedVer i out) r) v := by
  obtain ⟨_, hf, hfe, hc⟩ := hp
  obtain ⟨I0, xs0, hI0, y1, y2, y3, y4, y5, y6⟩ := M.arr i hl
  have hb0 : (C.hand (some i)).blk = I0.val.ownBlock.toList := by simp [Ctx.blk, Ctx.hand, hI0]
  refine (hc (C.hand (some i)) vs (hand_boxes C (some i) M.glob) (fun _ => rfl) (fun j hj => if_neg hj) ⟨I0, xs0, by simp [Ctx.hand, hI0], y1, y2, y3, y4, y5, ?_⟩ (fun _ h => h.elim) (fun b h => by cases h) ?_ ?_).mono ?_
  · intro idx j q c x h1 h2 h3
    exact rv_hand (y6 idx j q c x h1 h2 h3) (hfe0 q (List.mem_of_getElem? h1) c (List.mem_of_getElem? h2))
  · intro b h
    rw [hb0]
    rcases h.2 with (h | h) | h | ⟨j, I, hne, hI, hg⟩
    · exact ⟨(M.n0 _ h).1, fun hb => (M.n0 _ h).2 i I0 hI0 (by simpa using hb)⟩
    · exact ⟨(M.wild.soft b h).lt, fun hb => M.wild.own b i I0 h hI0 (by simpa using hb)⟩
    · refine ⟨M.bxin h, fun hb => ?_⟩
      exact (M.sep i I0 b hI0 (by simpa using hb)).1 h
    · refine ⟨(M.own hI hg).2, fun hb => ?_⟩
      have := (M.sep i I0 b hI0 (by simpa using hb)).2 j I hI hg
      exact hne (by rw [this])
  · refine ⟨by simpa using hv.1, ?_⟩
    intro j c x h1 h2
    rw [List.getElem?_map] at h1
    obtain ⟨a, ha, he⟩ := Option.map_eq_some_iff.1 h1
    subst he
    exact lendO_rv M (hv.2 j a x ha h2) (hfree a (List.mem_of_getElem? ha))
  · rintro en w' ⟨v, C', rfl, hw, hn, _, W, hv0, hr, hout⟩
    rw [hb0] at W
    have hg0 : C.w.grownBy w' I0.val.ownBlock := ⟨W.os, W.tape, W.output, W.size, fun k hk hne => W.block k hk (by
      intro h
      have h' : I0.val.ownBlock = some k := by simpa using h
      exact hne h'.symm)⟩
    refine ⟨v, rfl, ?_⟩
    cases out with
    | none =>
      refine Nxt.dropArr M i I0 hI0 w' hg0 ?_
      intro E EK ew ebx en0 eA ever
      refine rv_ren hr hf hv0 (ew.trans hw.symm) ?_ (by rw [ever, M.ver i]; exact Nat.le_refl _) ?_
      · rintro b _ hN ((h | h) | h | ⟨j, J, hJ, hg⟩)
        · exact hN (.inl (.inl (hn _ _ ⟨rfl, .inl (.inl (en0 ▸ h))⟩)))
        · exact hN (.inl (.inl (hn _ _ ⟨rfl, .inl (.inr (EK.W ▸ h))⟩)))
        · exact hN (.inl (.inl (hn _ _ ⟨rfl, .inr (.inl (ebx ▸ h))⟩)))
        · obtain ⟨hj, h⟩ := eA j J hJ
          exact hN (.inl (.inl (hn _ _ ⟨rfl, .inr (.inr ⟨j, J, fun e => hj (Option.some.inj e), h, hg⟩)⟩)))
      · intro J hJ _
        exact ((eA i J hJ).1 rfl).elim
    | some o =>
      obtain ⟨s, e, es⟩ := o
      obtain ⟨⟨I, xs, hA, hz, hp, hlen, hes, ho, hcon⟩, hblk, hs⟩ := hout
      rw [hb0] at hblk
      have imp : ∀ E : Ctx, E.N0 = C.N0 → E.W = C.W → E.bx = C.bx → (∀ j J, E.A j = some J → (j ≠ i ∧ C.A j = some J) ∨ (j = i ∧ J = I)) → ∀ b, b < C'.w.heap.size → ¬ C'.N false b → ¬ E.N false b := by
        rintro E e1 ew e2 e3 b _ hN ((h | h) | h | ⟨j, J, hJ, hg⟩)
        · exact hN (.inl (.inl (hn _ _ ⟨rfl, .inl (.inl (e1 ▸ h))⟩)))
        · exact hN (.inl (.inl (hn _ _ ⟨rfl, .inl (.inr (ew ▸ h))⟩)))
        · exact hN (.inl (.inl (hn _ _ ⟨rfl, .inr (.inl (e2 ▸ h))⟩)))
        · rcases e3 j J hJ with ⟨hj, h⟩ | ⟨_, rfl⟩
          · exact hN (.inl (.inl (hn _ _ ⟨rfl, .inr (.inr ⟨j, J, fun e => hj (Option.some.inj e), h, hg⟩)⟩)))
          · exact hN (.inr (.inr ⟨0, J, hA, hg⟩))
      cases s with
      | false =>
        refine Nxt.setArrW M i w' I0.val.ownBlock hg0 (fun g hg => ⟨I0, hI0, hg⟩) I xs e es hz hp hlen hes (hw ▸ ho) ?_ ?_ ?_
        · intro g hg
          rcases hblk I g hA hg with h | h
          · exact .inr ⟨I0, hI0, by simpa using h⟩
          · exact .inl h
        · intro E EK ew ebx en0 eA idx j q c x h1 h2 h3
          exact rv_back (hcon idx j q c x h1 h2 h3) (hfe _ _ _ rfl q (List.mem_of_getElem? h1) c (List.mem_of_getElem? h2)) (ew.trans hw.symm) (imp E en0 EK.W ebx eA)
        · intro E EK ew ebx en0 eA eAd ever
          refine rv_ren hr hf hv0 (ew.trans hw.symm) (imp E en0 EK.W ebx eA) (by rw [ever, M.ver i]; exact Nat.le_refl _) ?_
          intro J hJ _
          rw [eAd] at hJ
          cases hJ
          exact hA
      | true =>
        have hII : C'.A 0 = some I0 := by rw [hs rfl]; simp [Ctx.hand, hI0]
        rw [hA] at hII
        cases hII
        have he := hsame e es rfl
        subst he
        refine Nxt.putElW M i I0 hI0 w' hg0 xs es hlen hes (hw ▸ ho) ?_ ?_
        · intro E EK ew ebx en0 eA idx j q c x h1 h2 h3
          refine rv_back (hcon idx j q c x h1 h2 h3) (hfe _ _ _ rfl q (List.mem_of_getElem? h1) c (List.mem_of_getElem? h2)) (ew.trans hw.symm) (imp E en0 EK.W ebx ?_)
          intro j J hJ
          rw [eA] at hJ
          by_cases hj : j = i
          · subst hj; rw [hI0] at hJ; cases hJ; exact .inr ⟨rfl, rfl⟩
          · exact .inl ⟨hj, hJ⟩
        · intro E EK ew ebx en0 eA ever
          refine rv_ren hr hf hv0 (ew.trans hw.symm) (imp E en0 EK.W ebx ?_) (by rw [ever, M.ver i]; exact Nat.le_refl _) ?_
          · intro j J hJ
            rw [eA] at hJ
            by_cases hj : j = i
            · subst hj; rw [hI0] at hJ; cases hJ; exact .inr ⟨rfl, rfl⟩
            · exact .inl ⟨hj, hJ⟩
          · intro J hJ _
            rw [eA, hI0] at hJ
            cases hJ
            exact hA

/-! ### The same, of functions that may read the boxes -/

theorem rv_closed {C D : Ctx} (hw : D.w = C.w) (hbx : D.bx = C.bx) (hN : ∀ col b, ¬ C.N col b → ¬ D.N col b) {a : AV} {x : Value} (h : RV C a x) (hc : a.closed) : RV D a x := by
  induction h with
  | v x => exact .v x
  | agg cs vs hl _ ih => cases hc with | agg _ hh => exact .agg cs vs hl fun j c x h1 h2 => ih j c x h1 h2 (hh c (List.mem_of_getElem? h1))
  | tup cs vs hl _ ih => cases hc with | tup _ hh => exact .tup cs vs hl fun j c x h1 h2 => ih j c x h1 h2 (hh c (List.mem_of_getElem? h1))
  | nil a => exact .nil a
  | sl0 col a cap => exact .sl0 col a cap
  | sl col es b off size cap f hne hs hN' hz hb hcap hcl _ ih =>
    cases hc with
    | sl _ _ hh => exact .sl col es b off size cap f hne hs (hN col b hN') (fun e => by rw [hw]; exact hz e) (by rw [hw]; exact hb) hcap (by rw [hw]; exact hcl) fun i j e c h1 h2 => ih i j e c h1 h2 (hh e (List.mem_of_getElem? h1) c (List.mem_of_getElem? h2))
  | el col cs b off f hN' hb hcl _ ih =>
    cases hc with
    | el _ _ hh => exact .el col cs b off f (hN col b hN') (by rw [hw]; exact hb) (by rw [hw]; exact hcl) fun j c h1 => ih j c h1 (hh c (List.mem_of_getElem? h1))
  | box k off b h => exact .box k off b (by rw [hbx]; exact h)
  | clo f pre post ps qs hp hq _ _ ih ih' => cases hc with | clo _ _ _ hh hh' => exact .clo f pre post ps qs hp hq (fun j c x h1 h2 => ih j c x h1 h2 (hh c (List.mem_of_getElem? h1))) (fun j c x h1 h2 => ih' j c x h1 h2 (hh' c (List.mem_of_getElem? h1)))
  | dead x => exact .dead x
  | any x y h => exact .any x y h
  | arr => cases hc
  | ael => cases hc
  | wsl0 => cases hc
  | wsl => cases hc
  | wel => cases hc

/-- The context that the callee is given. -/
def Ctx.handB (C : Ctx) (i : Option Nat) : Ctx :=
  { w := C.w, N0 := fun col b => col = false ∧ ((C.N0 false b ∨ C.W b) ∨ ∃ j I, some j ≠ i ∧ C.A j = some I ∧ I.val.ownBlock = some b), bx := C.bx, W := fun _ => False, ver := fun _ => 0, A := fun j => if j = 0 then i.bind C.A else none }

theorem handB_N {C : Ctx} {i : Option Nat} {col : Bool} {b : Nat} (h : ¬ C.N col b) : ¬ (C.handB i).N col b := by
  rintro ((⟨rfl, h1 | ⟨j, I, _, h1, h2⟩⟩ | h1) | h1 | ⟨j, I, h1, h2⟩)
  · exact h (.inl h1)
  · exact h (.inr (.inr ⟨j, I, h1, h2⟩))
  · cases h1
  · exact h (.inr (.inl h1))
  · have h1' : (if j = 0 then i.bind C.A else none) = some I := h1
    split at h1'
    · obtain ⟨k, _, hk⟩ := Option.bind_eq_some_iff.1 h1'
      exact h (.inr (.inr ⟨k, I, hk, h2⟩))
    · cases h1'

theorem rv_handB {C : Ctx} {i : Option Nat} {a : AV} {x : Value} (h : RV C a x) (hc : a.closed) : RV (C.handB i) a x := rv_closed (C := C) (D := C.handB i) rfl rfl (fun _ _ hn => handB_N (C := C) (i := i) hn) h hc

theorem lend1_handB {G : Cfg} {base : Nat} {bx0 : List Nat} {C : Ctx} {m : Mem} (M : MemOK G base bx0 C m) {o : Option Nat} {a : AV} {x : Value} (ho : ∀ j n off len, a = .arr j n off len → o ≠ some j) (h : RV C a x) (hf : (lend1 m a).closed) : RV (C.handB o) (lend1 m a) x := by
  cases a with
  | arr i n off len =>
    simp only [lend1] at hf ⊢
    split
    · rename_i hk
      rw [if_pos hk] at hf
      obtain ⟨I, xs, hI, hs, z1, z2, z3, z4, z5, z6⟩ := arr_rv M h hk
      cases hf with
      | sl _ _ hh =>
        refine (sl_of_own (C := C.handB o) hs z3 z4 z5 ?_ true ?_).1
        · intro i' j r c y hil hr hc hy
          refine rv_handB (z6 (off + i') j r c y hr hc hy) (hh r ?_ c (List.mem_of_getElem? hc))
          refine List.mem_of_getElem? (i := i') ?_
          rw [List.getElem?_take, if_pos hil, List.getElem?_drop]
          exact hr
        · rintro g hg ((⟨h1, _⟩ | h1) | h1 | ⟨k, J, h1, h2⟩)
          · cases h1
          · cases h1
          · exact (M.sep i I g hI hg).1 h1
          · have h1' : (if k = 0 then o.bind C.A else none) = some J := h1
            split at h1'
            · obtain ⟨q, hq, hk⟩ := Option.bind_eq_some_iff.1 h1'
              have := (M.sep i I g hI hg).2 q J hk h2
              exact ho i n off len rfl (by rw [hq, this])
            · cases h1'
    · exact .dead _
  | nil => cases h with | nil a => exact .sl0 _ _ _
  | _ => exact rv_handB h hf

theorem lend_handB {G : Cfg} {base : Nat} {bx0 : List Nat} {C : Ctx} {m : Mem} (M : MemOK G base bx0 C m) {a : AV} {x : Value} (h : RV C a x) (hf : (lend m a).closed) : RV (C.handB none) (lend m a) x := by
  cases a with
  | agg cs =>
    cases h with
    | agg _ vs hl hh =>
      cases hf with
      | agg _ hf =>
        refine .agg _ _ (by simp [hl]) ?_
        intro j c y h1 h2
        rw [List.getElem?_map] at h1
        obtain ⟨d, hd, he⟩ := Option.map_eq_some_iff.1 h1
        subst he
        exact lend1_handB M (fun _ _ _ _ _ => by simp) (hh j d y hd h2) (hf _ (List.mem_map.2 ⟨d, List.mem_of_getElem? hd, rfl⟩))
  | tup cs =>
    cases h with
    | tup _ vs hl hh =>
      cases hf with
      | tup _ hf =>
        refine .tup _ _ (by simp [hl]) ?_
        intro j c y h1 h2
        rw [List.getElem?_map] at h1
        obtain ⟨d, hd, he⟩ := Option.map_eq_some_iff.1 h1
        subst he
        exact lend1_handB M (fun _ _ _ _ _ => by simp) (hh j d y hd h2) (hf _ (List.mem_map.2 ⟨d, List.mem_of_getElem? hd, rfl⟩))
  | _ => exact lend1_handB M (fun _ _ _ _ _ => by simp) h hf

theorem lendO1_handB {G : Cfg} {base : Nat} {bx0 : List Nat} {C : Ctx} {m : Mem} (M : MemOK G base bx0 C m) {i : Nat} {a : AV} {x : Value} (h : RV C a x) (hf : (strip1 (lendO1 m i a)).closed) : RV (C.handB (some i)) (lendO1 m i a) x := by
  cases a with
  | arr j n off len =>
    simp only [lendO1] at hf ⊢
    split
    · rename_i hj
      subst hj
      split
      · rename_i hk
        obtain ⟨hk, rfl, hlen⟩ := hk
        obtain ⟨I, xs, hI, hs, z1, z2, z3, z4, z5, z6⟩ := arr_rv M h hk
        cases h with
        | arr _ _ _ _ _ h1 hn hh =>
          refine .arr 0 0 0 len x h1 (Nat.le_refl _) ?_
          intro J hJ _
          have hJ' : (if (0 : Nat) = 0 then (some j).bind C.A else none) = some J := hJ
          simp only [if_true, Option.bind_some] at hJ'
          rw [hI] at hJ'
          cases hJ'
          exact hs
      · exact .dead _
    · rename_i hj
      rw [if_neg hj] at hf
      have hf' : (lend1 m (.arr j n off len)).closed := by
        simp only [lend1] at hf ⊢
        by_cases hk : m.ok j n = true
        · rw [if_pos hk] at hf ⊢
          exact hf
        · rw [if_neg hk] at hf ⊢
          exact hf
      exact lend1_handB M (fun _ _ _ _ e => by cases e; exact fun h => hj (Option.some.inj h).symm) h hf'
  | ael => cases hf
  | dead => exact .dead _
  | nil => exact lend1_handB M (fun _ _ _ _ e => by cases e) h hf
  | v => exact lend1_handB M (fun _ _ _ _ e => by cases e) h hf
  | agg => exact lend1_handB M (fun _ _ _ _ e => by cases e) h hf
  | tup => exact lend1_handB M (fun _ _ _ _ e => by cases e) h hf
  | sl => exact lend1_handB M (fun _ _ _ _ e => by cases e) h hf
  | el => exact lend1_handB M (fun _ _ _ _ e => by cases e) h hf
  | box => exact lend1_handB M (fun _ _ _ _ e => by cases e) h hf
  | clo => exact lend1_handB M (fun _ _ _ _ e => by cases e) h hf
  | any => exact lend1_handB M (fun _ _ _ _ e => by cases e) h hf
  | wsl => cases hf
  | wel => cases hf

theorem lendO_handB {G : Cfg} {base : Nat} {bx0 : List Nat} {C : Ctx} {m : Mem} (M : MemOK G base bx0 C m) {i : Nat} {a : AV} {x : Value} (h : RV C a x) (hf : (strip (lendO m i a)).closed) : RV (C.handB (some i)) (lendO m i a) x := by
  cases a with
  | agg cs =>
    cases h with
    | agg _ vs hl hh =>
      cases hf with
      | agg _ hf =>
        refine .agg _ _ (by simp [hl]) ?_
        intro j c y h1 h2
        rw [List.getElem?_map] at h1
        obtain ⟨d, hd, he⟩ := Option.map_eq_some_iff.1 h1
        subst he
        exact lendO1_handB M (hh j d y hd h2) (hf _ (List.mem_map.2 ⟨_, List.mem_map.2 ⟨d, List.mem_of_getElem? hd, rfl⟩, rfl⟩))
  | tup cs =>
    cases h with
    | tup _ vs hl hh =>
      cases hf with
      | tup _ hf =>
        refine .tup _ _ (by simp [hl]) ?_
        intro j c y h1 h2
        rw [List.getElem?_map] at h1
        obtain ⟨d, hd, he⟩ := Option.map_eq_some_iff.1 h1
        subst he
        exact lendO1_handB M (hh j d y hd h2) (hf _ (List.mem_map.2 ⟨_, List.mem_map.2 ⟨d, List.mem_of_getElem? hd, rfl⟩, rfl⟩))
  | arr j n off len =>
    refine lendO1_handB M h ?_
    have e : strip (lendO m i (.arr j n off len)) = strip1 (lendO1 m i (.arr j n off len)) := by
      simp only [lendO, lendO1, lend1]
      split <;> split <;> rfl
    rw [← e]
    exact hf
  | nil => exact lendO1_handB M h hf
  | v => exact lendO1_handB M h hf
  | sl => exact lendO1_handB M h hf
  | el => exact lendO1_handB M h hf
  | box => exact lendO1_handB M h hf
  | ael => exact lendO1_handB M h hf
  | clo => exact lendO1_handB M h hf
  | dead => exact lendO1_handB M h hf
  | any => exact lendO1_handB M h hf
  | wsl => exact lendO1_handB M h hf
  | wel => exact lendO1_handB M h hf

/-- What a box holds, as it is lent while the array at place i is handed on. -/
def lentO1 (m : Mem) (i : Option Nat) : AV → AV
  | .arr j n off len => if i = some j then .dead else lend1 m (.arr j n off len)
  | a => lend1 m a
def lentBoxesO (m : Mem) (i : Option Nat) : List (List AV) := m.boxes.map (·.map (lentO1 m i))

theorem lentO1_rv {G : Cfg} {base : Nat} {bx0 : List Nat} {C : Ctx} {m : Mem} (M : MemOK G base bx0 C m) {o : Option Nat} {a : AV} {x : Value} (h : RV C a x) (hf : (lentO1 m o a).closed) : RV (C.handB o) (lentO1 m o a) x := by
  cases a with
  | arr j n off len =>
    simp only [lentO1] at hf ⊢
    split
    · exact .dead _
    · rename_i hj
      rw [if_neg hj] at hf
      exact lend1_handB M (fun _ _ _ _ e => by cases e; exact hj) h hf
  | _ => exact lend1_handB M (fun _ _ _ _ e => by cases e) h hf

theorem handB_boxes {G : Cfg} {base : Nat} {bx0 : List Nat} {C : Ctx} {m : Mem} (M : MemOK G base bx0 C m) {o : Option Nat} (hc : ∀ cs ∈ lentBoxesO m o, ∀ c ∈ cs, c.closed) : BoxOK (C.handB o) (lentBoxesO m o) := by
  refine ⟨by have := M.bxlen; simp only [lentBoxesO, List.length_map]; exact this, M.nodup, fun b hb => M.bxin hb, ?_, M.glob.same rfl fun b _ h => handB_N h⟩
  intro k b cs h1 h2
  have hm := List.mem_of_getElem? h2
  simp only [lentBoxesO, List.getElem?_map] at h2
  obtain ⟨ds, hd, he⟩ := Option.map_eq_some_iff.1 h2
  subst he
  obtain ⟨cur, t, hcc, hs, hr⟩ := M.box k b ds h1 hd
  refine ⟨cur, t, hcc, by simp [hs], ?_⟩
  intro j c x h3 h4
  have hm2 := List.mem_of_getElem? h3
  rw [List.getElem?_map] at h3
  obtain ⟨d, hd', he⟩ := Option.map_eq_some_iff.1 h3
  subst he
  exact lentO1_rv M (hr j d x hd' h4) (hc _ hm _ hm2)

/-- A call that hands back a new array, the boxes lent. -/
theorem new_callB {G : Cfg} {base : Nat} {bx0 : List Nat} {C : Ctx} {m : Mem} (M : MemOK G base bx0 C m) {f : FuncId} {args : List AV} {r : AV} {e : TypeId} {es : List (List AV)} (hp : OCallB G.P f (lentBoxesO m none) none (args.map (lend m)) (some (false, e, es)) r)
    (hfree : ∀ a ∈ args, (lend m a).closed) (hcb : ∀ cs ∈ lentBoxesO m none, ∀ c ∈ cs, c.closed) {vs : Array Value} (hv : RVs C args vs.toList) (d : Nat) :
    Calls G.P f vs C.w fun en w' => ∃ v, en = .returned v ∧ Nxt G base bx0 C w' (m.made d e es).2 fun D => RV D (ren d ((m.arrs d).ver + 1) r) v := by
  obtain ⟨_, hf, hfe, hc⟩ := hp
  refine (hc (C.handB none) vs (handB_boxes M hcb) (fun _ => rfl) (fun i hi => if_neg hi) rfl (fun _ h => h.elim) (fun b _ => by simp [Ctx.blk, Ctx.handB]) ?_ ?_).mono ?_
  · intro b h
    refine ⟨M.nlt ?_, by simp [Ctx.blk, Ctx.handB]⟩
    rcases h.2 with h | ⟨j, I, _, hI, hg⟩
    · exact .inl h
    · exact .inr (.inr ⟨j, I, hI, hg⟩)
  · refine ⟨by simpa using hv.1, ?_⟩
    intro j c x h1 h2
    rw [List.getElem?_map] at h1
    obtain ⟨a, ha, he⟩ := Option.map_eq_some_iff.1 h1
    subst he
    exact lend_handB M (hv.2 j a x ha h2) (hfree a (List.mem_of_getElem? ha))
  · rintro en w' ⟨v, C', rfl, hw, hn, hbxs, W, hv0, hr, ⟨I, xs, hA, hz, hp, hlen, hes, ho, hcon⟩, hblk, _⟩
    have hb0 : (C.handB none).blk = [] := rfl
    rw [hb0] at W hblk
    have hnew : ∀ g, I.val.ownBlock = some g → C.w.heap.size ≤ g := fun g hg => (hblk I g hA hg).elim (fun h => by cases h) id
    have imp : ∀ E : Ctx, E.N0 = C.N0 → E.W = C.W → E.bx = C.bx → (∀ j J, E.A j = some J → (j ≠ d ∧ C.A j = some J) ∨ (j = d ∧ J = I)) → ∀ b, b < C'.w.heap.size → ¬ C'.N false b → ¬ E.N false b := by
      rintro E e1 ew e2 e3 b _ hN ((h | h) | h | ⟨j, J, hJ, hg⟩)
      · exact hN (.inl (.inl (hn _ _ ⟨rfl, .inl (.inl (e1 ▸ h))⟩)))
      · exact hN (.inl (.inl (hn _ _ ⟨rfl, .inl (.inr (ew ▸ h))⟩)))
      · exact hN (.inr (.inl (hbxs _ (e2 ▸ h))))
      · rcases e3 j J hJ with ⟨_, h⟩ | ⟨_, rfl⟩
        · exact hN (.inl (.inl (hn _ _ ⟨rfl, .inr ⟨j, J, by simp, h, hg⟩⟩)))
        · exact hN (.inr (.inr ⟨0, J, hA, hg⟩))
    refine ⟨v, rfl, Nxt.setArrW M d w' none ⟨W.os, W.tape, W.output, W.size, fun k hk _ => W.block k hk (by simp)⟩ (fun _ h => by cases h) I xs e es hz hp hlen hes (hw ▸ ho) (fun g hg => .inl (hnew g hg)) ?_ ?_⟩
    · intro E EK ew ebx en0 eA idx j q c x h1 h2 h3
      exact rv_back (hcon idx j q c x h1 h2 h3) (hfe _ _ _ rfl q (List.mem_of_getElem? h1) c (List.mem_of_getElem? h2)) (ew.trans hw.symm) (imp E en0 EK.W ebx eA)
    · intro E EK ew ebx en0 eA eAd ever
      refine rv_ren hr hf hv0 (ew.trans hw.symm) (imp E en0 EK.W ebx eA) (by rw [ever, M.ver d]; exact Nat.le_refl _) ?_
      intro J hJ _
      rw [eAd] at hJ
      cases hJ
      exact hA

theorem hand_callB {G : Cfg} {base : Nat} {bx0 : List Nat} {C : Ctx} {m : Mem} (M : MemOK G base bx0 C m) {f : FuncId} {args : List AV} {r : AV} {out : Option (Bool × TypeId × List (List AV))} {i : Nat} (hl : (m.arrs i).live = true)
    (hp : OCallB G.P f (lentBoxesO m (some i)) (some ((m.arrs i).elem, (m.arrs i).es)) (args.map (lendO m i)) out r) (hfree : ∀ a ∈ args, (strip (lendO m i a)).closed) (hcb : ∀ cs ∈ lentBoxesO m (some i), ∀ c ∈ cs, c.closed) (hfe0 : ∀ q ∈ (m.arrs i).es, ∀ c ∈ q, AV.closed c)
    (hsame : ∀ e es, out = some (true, e, es) → e = (m.arrs i).elem) {vs : Array Value} (hv : RVs C args vs.toList) :
    Calls G.P f vs C.w fun en w' => ∃ v, en = .returned v ∧ Nxt G base bx0 C w' (m.handed i out) fun D => RV D (ren i (m.handedVer i out) r) v := by
  obtain ⟨_, hf, hfe, hc⟩ := hp
  obtain ⟨I0, xs0, hI0, y1, y2, y3, y4, y5, y6⟩ := M.arr i hl
  have hb0 : (C.handB (some i)).blk = I0.val.ownBlock.toList := by simp [Ctx.blk, Ctx.handB, hI0]
  refine (hc (C.handB (some i)) vs (handB_boxes M hcb) (fun _ => rfl) (fun j hj => if_neg hj) ⟨I0, xs0, by simp [Ctx.handB, hI0], y1, y2, y3, y4, y5, ?_⟩ (fun _ h => h.elim) (fun b h => by rw [hb0]; exact fun hb => (M.sep i I0 b hI0 (by simpa using hb)).1 h) ?_ ?_).mono ?_
  · intro idx j q c x h1 h2 h3
    exact rv_handB (y6 idx j q c x h1 h2 h3) (hfe0 q (List.mem_of_getElem? h1) c (List.mem_of_getElem? h2))
  · intro b h
    rw [hb0]
    rcases h.2 with (h | h) | ⟨j, I, hne, hI, hg⟩
    · exact ⟨(M.n0 _ h).1, fun hb => (M.n0 _ h).2 i I0 hI0 (by simpa using hb)⟩
    · exact ⟨(M.wild.soft b h).lt, fun hb => M.wild.own b i I0 h hI0 (by simpa using hb)⟩
    · refine ⟨(M.own hI hg).2, fun hb => ?_⟩
      have := (M.sep i I0 b hI0 (by simpa using hb)).2 j I hI hg
      exact hne (by rw [this])
  · refine ⟨by simpa using hv.1, ?_⟩
    intro j c x h1 h2
    rw [List.getElem?_map] at h1
    obtain ⟨a, ha, he⟩ := Option.map_eq_some_iff.1 h1
    subst he
    exact lendO_handB M (hv.2 j a x ha h2) (hfree a (List.mem_of_getElem? ha))
  · rintro en w' ⟨v, C', rfl, hw, hn, hbxs, W, hv0, hr, hout⟩
    rw [hb0] at W
    have hg0 : C.w.grownBy w' I0.val.ownBlock := ⟨W.os, W.tape, W.output, W.size, fun k hk hne => W.block k hk (by
      intro h
      have h' : I0.val.ownBlock = some k := by simpa using h
      exact hne h'.symm)⟩
    refine ⟨v, rfl, ?_⟩
    cases out with
    | none =>
      refine Nxt.dropArr M i I0 hI0 w' hg0 ?_
      intro E EK ew ebx en0 eA ever
      refine rv_ren hr hf hv0 (ew.trans hw.symm) ?_ (by rw [ever, M.ver i]; exact Nat.le_refl _) ?_
      · rintro b _ hN ((h | h) | h | ⟨j, J, hJ, hg⟩)
        · exact hN (.inl (.inl (hn _ _ ⟨rfl, .inl (.inl (en0 ▸ h))⟩)))
        · exact hN (.inl (.inl (hn _ _ ⟨rfl, .inl (.inr (EK.W ▸ h))⟩)))
        · exact hN (.inr (.inl (hbxs _ (ebx ▸ h))))
        · obtain ⟨hj, h⟩ := eA j J hJ
          exact hN (.inl (.inl (hn _ _ ⟨rfl, .inr ⟨j, J, fun e => hj (Option.some.inj e), h, hg⟩⟩)))
      · intro J hJ _
        exact ((eA i J hJ).1 rfl).elim
    | some o =>
      obtain ⟨s, e, es⟩ := o
      obtain ⟨⟨I, xs, hA, hz, hp, hlen, hes, ho, hcon⟩, hblk, hs⟩ := hout
      rw [hb0] at hblk
      have imp : ∀ E : Ctx, E.N0 = C.N0 → E.W = C.W → E.bx = C.bx → (∀ j J, E.A j = some J → (j ≠ i ∧ C.A j = some J) ∨ (j = i ∧ J = I)) → ∀ b, b < C'.w.heap.size → ¬ C'.N false b → ¬ E.N false b := by
        rintro E e1 ew e2 e3 b _ hN ((h | h) | h | ⟨j, J, hJ, hg⟩)
        · exact hN (.inl (.inl (hn _ _ ⟨rfl, .inl (.inl (e1 ▸ h))⟩)))
        · exact hN (.inl (.inl (hn _ _ ⟨rfl, .inl (.inr (ew ▸ h))⟩)))
        · exact hN (.inr (.inl (hbxs _ (e2 ▸ h))))
        · rcases e3 j J hJ with ⟨hj, h⟩ | ⟨_, rfl⟩
          · exact hN (.inl (.inl (hn _ _ ⟨rfl, .inr ⟨j, J, fun e => hj (Option.some.inj e), h, hg⟩⟩)))
          · exact hN (.inr (.inr ⟨0, J, hA, hg⟩))
      cases s with
      | false =>
        refine Nxt.setArrW M i w' I0.val.ownBlock hg0 (fun g hg => ⟨I0, hI0, hg⟩) I xs e es hz hp hlen hes (hw ▸ ho) ?_ ?_ ?_
        · intro g hg
          rcases hblk I g hA hg with h | h
          · exact .inr ⟨I0, hI0, by simpa using h⟩
          · exact .inl h
        · intro E EK ew ebx en0 eA idx j q c x h1 h2 h3
          exact rv_back (hcon idx j q c x h1 h2 h3) (hfe _ _ _ rfl q (List.mem_of_getElem? h1) c (List.mem_of_getElem? h2)) (ew.trans hw.symm) (imp E en0 EK.W ebx eA)
        · intro E EK ew ebx en0 eA eAd ever
          refine rv_ren hr hf hv0 (ew.trans hw.symm) (imp E en0 EK.W ebx eA) (by rw [ever, M.ver i]; exact Nat.le_refl _) ?_
          intro J hJ _
          rw [eAd] at hJ
          cases hJ
          exact hA
      | true =>
        have hII : C'.A 0 = some I0 := by rw [hs rfl]; simp [Ctx.handB, hI0]
        rw [hA] at hII
        cases hII
        have he := hsame e es rfl
        subst he
        refine Nxt.putElW M i I0 hI0 w' hg0 xs es hlen hes (hw ▸ ho) ?_ ?_
        · intro E EK ew ebx en0 eA idx j q c x h1 h2 h3
          refine rv_back (hcon idx j q c x h1 h2 h3) (hfe _ _ _ rfl q (List.mem_of_getElem? h1) c (List.mem_of_getElem? h2)) (ew.trans hw.symm) (imp E en0 EK.W ebx ?_)
          intro j J hJ
          rw [eA] at hJ
          by_cases hj : j = i
          · subst hj; rw [hI0] at hJ; cases hJ; exact .inr ⟨rfl, rfl⟩
          · exact .inl ⟨hj, hJ⟩
        · intro E EK ew ebx en0 eA ever
          refine rv_ren hr hf hv0 (ew.trans hw.symm) (imp E en0 EK.W ebx ?_) (by rw [ever, M.ver i]; exact Nat.le_refl _) ?_
          · intro j J hJ
            rw [eA] at hJ
            by_cases hj : j = i
            · subst hj; rw [hI0] at hJ; cases hJ; exact .inr ⟨rfl, rfl⟩
            · exact .inl ⟨hj, hJ⟩
          · intro J hJ _
            rw [eA, hI0] at hJ
            cases hJ
            exact hA

end Go.Proofs.YtokhnmchnfkiiaaDoor.Am

/- The abstract machine: functions that write into a wild region, called from one another and from a law's function. No conditions. -/
namespace Go.Proofs.YtokhnmchnfkiiaaDoor.Am
open Go Go.RowKit
set_option linter.unusedSimpArgs false
set_option linter.unusedVariables false

/-- What such a function leaves: only the wild blocks are written, each cell keeps its kind. -/
structure WildExt (C : Ctx) (w' : World) : Prop where
  os : w'.os = C.w.os
  tape : w'.tape = C.w.tape
  output : w'.output = C.w.output
  size : C.w.heap.size ≤ w'.heap.size
  block : ∀ k, k < C.w.heap.size → ¬ C.W k → w'.heap[k]? = C.w.heap[k]?
  wild : ∀ k, C.W k → SameCells C.w w' k ∧ soft w' k

/-- A function that writes into the wild region it is handed, and returns x. -/
def MCall (P : Program) (f : FuncId) (args : List AV) (x : Value) : Prop := enters P f = true ∧
  ∀ (C : Ctx) (vs : Array Value), C.bx = [] → (∀ i, C.A i = none) → (C.N0 = fun _ _ => False) → (∀ b, C.W b → soft C.w b) → GlobOK C → RVs C args vs.toList →
    Calls P f vs C.w fun e w' => e = .returned x ∧ WildExt C w'

theorem ownsRow_of_block {w w' : World} {base : Nat} {e : TypeId} {z n : Nat} {v : Value} {xs : List Value} (hb : ∀ g, v.ownBlock = some g → w'.heap[g]? = w.heap[g]?) (h : w.ownsRow base e z v n xs) : w'.ownsRow base e z v n xs := by
  refine ⟨h.1, ?_⟩
  rcases h.2 with h2 | ⟨g, cap, cur, e0, e1, hcur, r⟩
  · exact .inl h2
  · exact .inr ⟨g, cap, cur, e0, e1, (hb g (by rw [e0]; rfl)).trans hcur, r⟩

/-- Numbers, strings, slices of the wild region: what may be handed on. -/
def AV.Wf : AV → Prop
  | .v _ => True
  | .any _ => True
  | .wsl _ => True
  | _ => False

theorem wf_move {C D : Ctx} (hw : D.w = C.w) (hW : D.W = C.W) {a : AV} {x : Value} (h : RV C a x) (hf : a.Wf) : RV D a x := by
  induction h with
  | v x => exact .v x
  | any x y h => exact .any x y h
  | wsl0 a cap => exact .wsl0 a cap
  | wsl es b off size cap f hne hs hWb hb hcap hc hl _ ih =>
    refine .wsl es b off size cap f hne hs (hW ▸ hWb) (hw ▸ hb) hcap (by rw [hw]; exact hc) hl fun i j e c h1 h2 => ih i j e c h1 h2 ?_
    have := hl e (List.mem_of_getElem? h1) c (List.mem_of_getElem? h2)
    cases c <;> first | trivial | cases this
  | _ => exact False.elim hf

/-- A call from such a function. -/
theorem wild_call {G : Cfg} {base : Nat} {bx0 : List Nat} {C : Ctx} {m : Mem} (M : MemOK G base bx0 C m) (hmd : G.md = 2) {f : FuncId} {args : List AV} {x : Value} (hp : MCall G.P f args x) (hf : ∀ a ∈ args, a.Wf) {vs : Array Value}
    (hv : RVs C args vs.toList) : Calls G.P f vs C.w fun e w' => ∃ v, e = .returned v ∧ Nxt G base bx0 C w' m fun D => RV D (.v x) v := by
  refine (hp.2 { w := C.w, N0 := fun _ _ => False, bx := [], W := C.W, ver := fun _ => 0, A := fun _ => none } vs rfl (fun _ => rfl) rfl M.wild.soft (M.glob.same rfl fun b _ hn h => by
    rcases h with (h | h) | h | ⟨_, _, h, _⟩
    · exact h
    · exact hn (.inl (.inr h))
    · cases h
    · cases h) ⟨hv.1, fun j c y h1 h2 => wf_move (C := C) (D := { w := C.w, N0 := fun _ _ => False, bx := [], W := C.W, ver := fun _ => 0, A := fun _ => none }) rfl rfl (hv.2 j c y h1 h2) (hf c (List.mem_of_getElem? h1))⟩).mono ?_
  rintro e w' ⟨rfl, H⟩
  have hbx : ∀ b, b ∈ C.bx → w'.heap[b]? = C.w.heap[b]? := fun b h => H.block b (M.bxin h) fun hw => M.wild.bx b hw h
  have hown : ∀ i I g, C.A i = some I → I.val.ownBlock = some g → w'.heap[g]? = C.w.heap[g]? := fun i I g h1 h2 => H.block g (M.own h1 h2).2 fun hw => M.wild.own g i I hw h1 h2
  have K : Keeps C { C with w := w' } := ⟨H.size, fun _ _ _ h => h, fun b hb ⟨_, hn⟩ => H.block b hb fun hw => hn (.inl (.inr hw)), fun _ _ h => h, fun _ => Nat.le_refl _, fun _ I h _ => ⟨I, h, rfl, rfl, rfl⟩, rfl, fun b _ hw => (H.wild b hw).1⟩
  refine ⟨x, rfl, { C with w := w' }, rfl, rfl, K, ?_, ⟨H.os, H.tape, H.output, H.size, ?_⟩, .v x⟩
  · refine ⟨M.bxlen, M.nodup, M.bxlt, Nat.le_trans M.le H.size, M.n0.step rfl H.size (fun i I g h k => .inr ⟨i, I, h, k⟩), ?_, M.ver, M.dead, ?_, M.sep, M.lo, ⟨fun b hw => (H.wild b hw).2, M.wild.bx, M.wild.own, M.wild.lo⟩, fun e => (by rw [hmd] at e; cases e), M.glob.keep K⟩
    · intro k b cs h1 h2
      obtain ⟨cur, t, hc, hs, hr⟩ := M.box k b cs h1 h2
      exact ⟨cur, t, (hbx b (List.mem_of_getElem? h1)).trans hc, hs, fun j c x a b => (hr j c x a b).keep K⟩
    · intro i hl
      obtain ⟨I, xs, hA, hz, hp, hlen, hes, ho, hr⟩ := M.arr i hl
      exact ⟨I, xs, hA, hz, hp, hlen, hes, ownsRow_of_block (fun g hg => hown i I g hA hg) ho, fun idx j e c x a b d => (hr idx j e c x a b d).keep K⟩
  · intro k hk hn
    refine H.block k (Nat.lt_of_lt_of_le hk M.le) fun hw => ?_
    rcases M.wild.lo hmd k hw with h | h
    · omega
    · exact hn h

/-! ### From a law's function -/

/-- What a value that the law's function made is to a function that writes into it. -/
inductive Wilds : AV → AV → Prop
  | v (x : Value) : Wilds (.v x) (.v x)
  | any (x : Value) (h : sameK x x) : Wilds (.v x) (.any x)
  | nil : Wilds .nil (.wsl [])
  | sl (es es' : List (List AV)) (hl : es'.length = es.length) (h1 : ∀ (i : Nat) (e e' : List AV), es[i]? = some e → es'[i]? = some e' → e'.length = e.length) (h2 : ∀ e' ∈ es', ∀ c ∈ e', c.wl = true)
      (hr : ∀ (i j : Nat) (e e' : List AV) (c c' : AV), es[i]? = some e → es'[i]? = some e' → e[j]? = some c → e'[j]? = some c' → Wilds c c') : Wilds (.sl false es) (.wsl es')
  | agg (cs cs' : List AV) (hl : cs'.length = cs.length) (hr : ∀ (j : Nat) (c c' : AV), cs[j]? = some c → cs'[j]? = some c' → Wilds c c') : Wilds (.agg cs) (.agg cs')

/-- All that the law's function and its callees made, and that is no box and no array of its own. -/
def Ctx.wildC (C : Ctx) (base : Nat) : Ctx := { w := C.w, N0 := fun _ _ => False, bx := [], W := fun b => (base ≤ b ∧ b ∉ C.bx ∧ ∀ i I, C.A i = some I → I.val.ownBlock ≠ some b) ∧ soft C.w b, ver := fun _ => 0, A := fun _ => none }

theorem wilds_rv {base0 base : Nat} {bx0 : List Nat} {C : Ctx} (T : TopOK base0 base bx0 C) {a b : AV} (hw : Wilds a b) : ∀ {x : Value}, RV C a x → RV (C.wildC base) b x := by
  induction hw with
  | v x => intro y h; cases h; exact .v x
  | any x hk => intro y h; cases h; exact .any x x hk
  | nil => intro y h; cases h; exact .wsl0 _ _
  | sl es es' hl h1 h2 _ ih =>
    intro y h
    cases h with
    | sl0 _ a cap =>
      have : es' = [] := List.eq_nil_of_length_eq_zero (by simpa using hl)
      subst this
      exact .wsl0 _ _
    | sl _ _ b off size cap f hne hs hN hz hb hcap hc hr =>
      have hb0 : (base ≤ b ∧ b ∉ C.bx ∧ ∀ i I, C.A i = some I → I.val.ownBlock ≠ some b) ∧ soft C.w b := by
        refine ⟨⟨?_, fun h => hN (.inr (.inl h)), fun i I h1 h2 => hN (.inr (.inr ⟨i, I, h1, h2⟩))⟩, hz rfl⟩
        rcases Nat.lt_or_ge b base with h | h
        · exact (hN (.inl (.inl ((T.new b).2 h)))).elim
        · exact h
      have hget : ∀ (i : Nat) (e' : List AV), es'[i]? = some e' → ∃ e, es[i]? = some e ∧ e'.length = e.length := by
        intro i e' he'
        have hi : i < es.length := by have := (List.getElem?_eq_some_iff.1 he').1; omega
        exact ⟨_, List.getElem?_eq_getElem hi, h1 i _ e' (List.getElem?_eq_getElem hi) he'⟩
      have hcell : ∀ (e e' : List AV) (j : Nat) (c' : AV), e'.length = e.length → e'[j]? = some c' → ∃ c, e[j]? = some c := by
        intro e e' j c' hl' hc'
        have hj : j < e.length := by have := (List.getElem?_eq_some_iff.1 hc').1; omega
        exact ⟨_, List.getElem?_eq_getElem hj⟩
      have key : RV (C.wildC base) (.wsl es') (.slice (some ⟨b, off, none⟩) es'.length cap) := by
        refine .wsl es' b off size cap f (fun e0 => hne (List.eq_nil_of_length_eq_zero (by rw [e0] at hl; simpa using hl.symm))) ?_ hb0 hb (by omega) ?_ h2 ?_
        · intro e' he'
          obtain ⟨i, hi⟩ := List.getElem?_of_mem he'
          obtain ⟨e, he, hle⟩ := hget i e' hi
          rw [hle]
          exact hs e (List.mem_of_getElem? he)
        · intro i j e' c' hi hj
          obtain ⟨e, he, hle⟩ := hget i e' hi
          obtain ⟨c, hcc⟩ := hcell e e' j c' hle hj
          exact hc i j e c he hcc
        · intro i j e' c' hi hj
          obtain ⟨e, he, hle⟩ := hget i e' hi
          obtain ⟨c, hcc⟩ := hcell e e' j c' hle hj
          exact ih i j e e' c c' he hi hcc hj (hr i j e c he hcc)
      rw [hl] at key
      exact key
  | agg cs cs' hl _ ih =>
    intro y h
    cases h with
    | agg _ vs hl2 hh =>
      refine .agg cs' vs (hl.trans hl2) ?_
      intro j c' z h1 h2
      have hj : j < cs.length := by have := (List.getElem?_eq_some_iff.1 h1).1; omega
      exact ih j _ c' (List.getElem?_eq_getElem hj) h1 (hh j _ z (List.getElem?_eq_getElem hj) h2)

/-- What stays when the others are written. -/
inductive AV.Stay : AV → Prop
  | v (x : Value) : AV.Stay (.v x)
  | nil : AV.Stay .nil
  | dead : AV.Stay .dead
  | agg (cs : List AV) (h : ∀ c ∈ cs, AV.Stay c) : AV.Stay (.agg cs)
  | tup (cs : List AV) (h : ∀ c ∈ cs, AV.Stay c) : AV.Stay (.tup cs)
  | sl (es : List (List AV)) (h : ∀ e ∈ es, ∀ c ∈ e, AV.Stay c) : AV.Stay (.sl true es)
  | sl0 (col : Bool) : AV.Stay (.sl col [])
  | box (k off : Nat) : AV.Stay (.box k off)
  | arr (i n off len : Nat) : AV.Stay (.arr i n off len)

theorem stay_rv {C D : Ctx} {base : Nat} (hN : ∀ b, ¬ C.N true b → b < base) (hb0 : ∀ b, b < C.w.heap.size → b < base → D.w.heap[b]? = C.w.heap[b]?) (hsz : C.w.heap.size ≤ D.w.heap.size) (hND : ∀ b, ¬ C.N true b → ¬ D.N true b) (hbx : D.bx = C.bx) (hA : D.A = C.A) (hver : D.ver = C.ver) {a : AV} {x : Value} (h : RV C a x) (hs : a.Stay) : RV D a x := by
  induction h with
  | v x => exact .v x
  | agg cs vs hl _ ih => cases hs with | agg _ hh => exact .agg cs vs hl fun j c x h1 h2 => ih j c x h1 h2 (hh c (List.mem_of_getElem? h1))
  | tup cs vs hl _ ih => cases hs with | tup _ hh => exact .tup cs vs hl fun j c x h1 h2 => ih j c x h1 h2 (hh c (List.mem_of_getElem? h1))
  | nil a => exact .nil a
  | sl0 col a cap => exact .sl0 col a cap
  | sl col es b off size cap f hne hsz0 hNb hz hb hcap hc _ ih =>
    cases hs with
    | sl _ hh =>
      have hblk := hb0 b hb (hN b hNb)
      refine .sl true es b off size cap f hne hsz0 (hND b hNb) (fun e => by cases e) (Nat.lt_of_lt_of_le hb hsz) hcap ?_ fun i j e c h1 h2 => ih i j e c h1 h2 (hh e (List.mem_of_getElem? h1) c (List.mem_of_getElem? h2))
      intro i j e c he hcj
      rw [World.cell?_of_block (w := C.w) hblk]
      exact hc i j e c he hcj
    | sl0 => exact absurd rfl hne
  | box k off b h => exact .box k off b (by rw [hbx]; exact h)
  | arr i n off len x h1 hn h => exact .arr i n off len x h1 (by rw [hver]; exact hn) (by rw [hver, hA]; exact h)
  | dead x => exact .dead x
  | el => cases hs
  | ael => cases hs
  | clo => cases hs
  | any => cases hs
  | wsl0 => cases hs
  | wsl => cases hs
  | wel => cases hs

/-- A value in the wild region, seen as what the region is grows. -/
theorem wf_grow {C D : Ctx} (hw : D.w = C.w) (hW : ∀ b, C.W b → D.W b) {a : AV} {x : Value} (h : RV C a x) (hf : a.Wf) : RV D a x := by
  induction h with
  | v x => exact .v x
  | any x y h => exact .any x y h
  | wsl0 a cap => exact .wsl0 a cap
  | wsl es b off size cap f hne hs hWb hb hcap hc hl _ ih =>
    refine .wsl es b off size cap f hne hs (hW b hWb) (hw ▸ hb) hcap (by rw [hw]; exact hc) hl fun i j e c h1 h2 => ih i j e c h1 h2 ?_
    have := hl e (List.mem_of_getElem? h1) c (List.mem_of_getElem? h2)
    cases c <;> first | trivial | cases this
  | _ => exact False.elim hf

/-- Behind a step that keeps the wild region. -/
theorem wf_after {C D : Ctx} (hsz : C.w.heap.size ≤ D.w.heap.size) (hW : ∀ b, C.W b → D.W b) (hs : ∀ b, C.W b → SameCells C.w D.w b) {a : AV} {x : Value} (h : RV C a x) (hf : a.Wf) : RV D a x := by
  induction h with
  | v x => exact .v x
  | any x y h => exact .any x y h
  | wsl0 a cap => exact .wsl0 a cap
  | wsl es b off size cap f hne hsz2 hWb hb hcap hc hl _ ih =>
    have wfc : ∀ (i j : Nat) (e : List AV) (c : AV), es[i]? = some e → e[j]? = some c → c.Wf := fun i j e c h1 h2 => by
      have := hl e (List.mem_of_getElem? h1) c (List.mem_of_getElem? h2)
      cases c <;> first | trivial | cases this
    refine .wsl es b off size cap (fun i j => (D.w.cell? ⟨b, off + i * size + j, none⟩).getD (f i j)) hne hsz2 (hW b hWb) (Nat.lt_of_lt_of_le hb hsz) hcap ?_ hl ?_
    · intro i j e c he hcj
      obtain ⟨y, hy, _⟩ := hs b hWb _ _ (hc i j e c he hcj)
      rw [hy]; rfl
    · intro i j e c he hcj
      obtain ⟨y, hy, e2⟩ := hs b hWb _ _ (hc i j e c he hcj)
      simp only [hy, Option.getD_some]
      rcases e2 with rfl | e2
      · exact ih i j e c he hcj (wfc i j e c he hcj)
      · exact (ih i j e c he hcj (wfc i j e c he hcj)).sameK (hl e (List.mem_of_getElem? he) c (List.mem_of_getElem? hcj)) e2
  | _ => exact False.elim hf

theorem wilds_wf {a b : AV} (h : Wilds a b) (hb : ∀ cs, b ≠ .agg cs) : b.Wf := by
  cases h <;> first | trivial | exact absurd rfl (hb _)

/-- What a value is to a function that writes into the region: a value that was made, or one of the region. -/
def WArg (a b : AV) : Prop := Wilds a b ∨ (a = b ∧ a.Wf)

/-- The boxes behind a step: what stays, and what is forgotten. -/
def BoxStay (bs bs' : List (List AV)) : Prop := bs'.length = bs.length ∧ ∀ (k : Nat) (cs cs' : List AV), bs[k]? = some cs → bs'[k]? = some cs' → cs'.length = cs.length ∧ ∀ (j : Nat) (c c' : AV), cs[j]? = some c → cs'[j]? = some c' → c' = .dead ∨ (c' = c ∧ c.Stay)
theorem BoxStay.all {bs : List (List AV)} (h : ∀ cs ∈ bs, ∀ c ∈ cs, c.Stay) : BoxStay bs bs := by
  refine ⟨rfl, fun k cs cs' h1 h2 => ?_⟩
  rw [h1] at h2
  cases h2
  refine ⟨rfl, fun j c c' h3 h4 => ?_⟩
  rw [h3] at h4
  cases h4
  exact .inr ⟨rfl, h cs (List.mem_of_getElem? h1) c (List.mem_of_getElem? h3)⟩

/-- A call from the law's function that writes into what was made: from then on that is the wild region. -/
theorem mark_call {G : Cfg} {base : Nat} {bx0 : List Nat} {C : Ctx} {m : Mem} (M : MemOK G base bx0 C m) (hmd : G.md = 1) {f : FuncId} {args las : List AV} {x : Value} (hp : MCall G.P f las x) (hl : args.length = las.length)
    (hw : ∀ (j : Nat) (a b : AV), args[j]? = some a → las[j]? = some b → WArg a b) (bs' : List (List AV)) (hb : BoxStay m.boxes bs') (ha : ∀ i, (m.arrs i).live = true → ∀ r ∈ (m.arrs i).es, ∀ c ∈ r, c.Stay) {vs : Array Value} (hv : RVs C args vs.toList) :
    Calls G.P f vs C.w fun e w' => e = .returned x ∧ ∃ D : Ctx, D.w = w' ∧ MemOK G base bx0 D ⟨bs', m.arrs⟩ ∧ WExt base bx0 C.w w' ∧ (∀ (a : AV) (y : Value), RV C a y → a.Stay → RV D a y) ∧ ∀ (a b : AV) (y : Value), RV C a y → WArg a b → (∀ cs, b ≠ .agg cs) → RV D b y := by
  obtain ⟨tb, T⟩ := M.top hmd
  have hWC : ∀ b, C.W b → (C.wildC tb).W b := fun b h => ⟨⟨T.W b h, M.wild.bx b h, fun i I h1 h2 => M.wild.own b i I h h1 h2⟩, M.wild.soft b h⟩
  have harg : ∀ (a b : AV) (y : Value), RV C a y → WArg a b → RV (C.wildC tb) b y := fun a b y h hab => by
    rcases hab with hab | ⟨rfl, hf⟩
    · exact wilds_rv T hab h
    · exact wf_grow (C := C) (D := C.wildC tb) rfl hWC h hf
  have hlt : ∀ b, ¬ C.N true b → b < tb := fun b hN => by
    rcases Nat.lt_or_ge b tb with h | h
    · exact h
    · exact (hN (.inl (.inl ((T.old b).2 h)))).elim
  refine (hp.2 (C.wildC tb) vs rfl (fun _ => rfl) rfl (fun b h => h.2) (M.glob.same rfl fun b _ hn h => by
    have := hlt b hn
    rcases h with (h | h) | h | ⟨_, _, h, _⟩
    · exact h
    · have := h.1.1; omega
    · cases h
    · cases h) ⟨by rw [← hl]; exact hv.1, ?_⟩).mono ?_
  · intro j b y h1 h2
    have hj : j < args.length := by have := (List.getElem?_eq_some_iff.1 h1).1; omega
    exact harg _ b y (hv.2 j _ y (List.getElem?_eq_getElem hj) h2) (hw j _ b (List.getElem?_eq_getElem hj) h1)
  · rintro e w' ⟨rfl, H⟩
    have hold : ∀ k, k < C.w.heap.size → k < tb → w'.heap[k]? = C.w.heap[k]? := fun k hk hk2 => H.block k hk fun h => by have := h.1.1; omega
    have hbx : ∀ b, b ∈ C.bx → w'.heap[b]? = C.w.heap[b]? := fun b h => H.block b (M.bxin h) fun hw => hw.1.2.1 h
    have hown : ∀ i I g, C.A i = some I → I.val.ownBlock = some g → w'.heap[g]? = C.w.heap[g]? := fun i I g h1 h2 => H.block g (M.own h1 h2).2 fun hw => hw.1.2.2 i I h1 h2
    have hst : ∀ (a : AV) (y : Value), RV C a y → a.Stay → RV { C with w := w', W := (C.wildC tb).W } a y := fun a y h hs => by
      have hlt : ∀ b, ¬ C.N true b → b < tb := fun b hN => by
        rcases Nat.lt_or_ge b tb with h | h
        · exact h
        · exact (hN (.inl (.inl ((T.old b).2 h)))).elim
      refine stay_rv (C := C) (D := { C with w := w', W := (C.wildC tb).W }) (base := tb) hlt hold H.size ?_ rfl rfl rfl h hs
      intro b hN
      have := hlt b hN
      rintro ((h1 | h1) | h1 | h1)
      · exact hN (.inl (.inl h1))
      · have := h1.1.1; omega
      · exact hN (.inr (.inl h1))
      · exact hN (.inr (.inr h1))
    refine ⟨rfl, { C with w := w', W := (C.wildC tb).W }, rfl, ?_, ⟨H.os, H.tape, H.output, H.size, fun k hk _ => hold k (Nat.lt_of_lt_of_le hk M.le) (Nat.lt_of_lt_of_le hk T.le)⟩, hst, ?_⟩
    · refine ⟨by rw [hb.1]; exact M.bxlen, M.nodup, M.bxlt, Nat.le_trans M.le H.size, M.n0.step rfl H.size (fun i I g h k => .inr ⟨i, I, h, k⟩), ?_, M.ver, M.dead, ?_, M.sep, M.lo, ⟨fun b h => (H.wild b h).2, fun b h => h.1.2.1, fun b i I h h1 h2 => h.1.2.2 i I h1 h2, fun e => by rw [hmd] at e; cases e⟩, fun _ => ⟨tb, T.le, T.old, T.new, T.bx0, fun b h => h.1.1⟩, fun q hq => ?_⟩
      · intro k b cs' h1 h2
        have hk : k < m.boxes.length := by have hk2 : k < bs'.length := (List.getElem?_eq_some_iff.1 h2).1; have := hb.1; omega
        obtain ⟨cur, t, hc, hs, hr⟩ := M.box k b _ h1 (List.getElem?_eq_getElem hk)
        obtain ⟨q1, q2⟩ := hb.2 k _ cs' (List.getElem?_eq_getElem hk) h2
        refine ⟨cur, t, (hbx b (List.mem_of_getElem? h1)).trans hc, by rw [q1]; exact hs, ?_⟩
        intro j c' x h3 h4
        have hj : j < m.boxes[k].length := by have := (List.getElem?_eq_some_iff.1 h3).1; omega
        rcases q2 j _ c' (List.getElem?_eq_getElem hj) h3 with rfl | ⟨rfl, hs⟩
        · exact .dead x
        · exact hst _ x (hr j _ x (List.getElem?_eq_getElem hj) h4) hs
      · intro i hli
        obtain ⟨I, xs, hA, hz, hp, hlen, hes, ho, hr⟩ := M.arr i hli
        exact ⟨I, xs, hA, hz, hp, hlen, hes, ownsRow_of_block (fun g hg => hown i I g hA hg) ho, fun idx j e c x a b d => hst c x (hr idx j e c x a b d) (ha i hli e (List.mem_of_getElem? a) c (List.mem_of_getElem? b))⟩
      · obtain ⟨g1, g2, g3⟩ := M.glob q hq
        have g4 := hlt _ g2
        refine ⟨Nat.lt_of_lt_of_le g1 H.size, ?_, by rw [hold _ g1 g4]; exact g3⟩
        rintro ((h1 | h1) | h1 | h1)
        · exact g2 (.inl (.inl h1))
        · have := h1.1.1; omega
        · exact g2 (.inr (.inl h1))
        · exact g2 (.inr (.inr h1))
    · intro a b y h hab hna
      have hbf : b.Wf := by
        rcases hab with hab | ⟨rfl, hf⟩
        · exact wilds_wf hab hna
        · exact hf
      exact wf_after (C := C.wildC tb) (D := { C with w := w', W := (C.wildC tb).W }) H.size (fun _ h => h) (fun b h => (H.wild b h).1) (harg a b y h hab) hbf

/-! ### All that is there is old from now on -/

/-- A value as it is seen when all that is there has become old. -/
inductive Olds : AV → AV → Prop
  | v (x : Value) : Olds (.v x) (.v x)
  | nil : Olds .nil .nil
  | dead (a : AV) : Olds a .dead
  | box (k off : Nat) : Olds (.box k off) (.box k off)
  | arr (i n off len : Nat) : Olds (.arr i n off len) (.arr i n off len)
  | agg (cs cs' : List AV) (hl : cs'.length = cs.length) (hr : ∀ (j : Nat) (c c' : AV), cs[j]? = some c → cs'[j]? = some c' → Olds c c') : Olds (.agg cs) (.agg cs')
  | sl (col : Bool) (es es' : List (List AV)) (hl : es'.length = es.length) (h1 : ∀ (i : Nat) (e e' : List AV), es[i]? = some e → es'[i]? = some e' → e'.length = e.length)
      (hr : ∀ (i j : Nat) (e e' : List AV) (c c' : AV), es[i]? = some e → es'[i]? = some e' → e[j]? = some c → e'[j]? = some c' → Olds c c') : Olds (.sl col es) (.sl true es')

theorem olds_rv {C D : Ctx} (hw : D.w = C.w) (hbx : D.bx = C.bx) (hA : D.A = C.A) (hver : D.ver = C.ver) (hN : ∀ b, b < C.w.heap.size → (∃ col, ¬ C.N col b) → ¬ D.N true b) {a b : AV} (h : Olds a b) : ∀ {x : Value}, RV C a x → RV D b x := by
  induction h with
  | v x => intro y h; cases h; exact .v x
  | nil => intro y h; cases h; exact .nil _
  | dead a => intro y h; exact .dead y
  | box k off => intro y h; cases h with | box _ _ b hb => exact .box k off b (by rw [hbx]; exact hb)
  | arr i n off len => intro y h; cases h with | arr _ _ _ _ _ h1 hn h2 => exact .arr i n off len y h1 (by rw [hver]; exact hn) (by rw [hver, hA]; exact h2)
  | agg cs cs' hl _ ih =>
    intro y h
    cases h with
    | agg _ vs hl2 hh =>
      refine .agg cs' vs (hl.trans hl2) ?_
      intro j c' z h1 h2
      have hj : j < cs.length := by have := (List.getElem?_eq_some_iff.1 h1).1; omega
      exact ih j _ c' (List.getElem?_eq_getElem hj) h1 (hh j _ z (List.getElem?_eq_getElem hj) h2)
  | sl col es es' hl h1 _ ih =>
    intro y h
    cases h with
    | sl0 _ a cap =>
      have : es' = [] := List.eq_nil_of_length_eq_zero (by simpa using hl)
      subst this
      exact .sl0 _ _ _
    | sl _ _ b off size cap f hne hs hNb hz hb hcap hc hr =>
      have hget : ∀ (i : Nat) (e' : List AV), es'[i]? = some e' → ∃ e, es[i]? = some e ∧ e'.length = e.length := by
        intro i e' he'
        have hi : i < es.length := by have := (List.getElem?_eq_some_iff.1 he').1; omega
        exact ⟨_, List.getElem?_eq_getElem hi, h1 i _ e' (List.getElem?_eq_getElem hi) he'⟩
      have hcell : ∀ (e e' : List AV) (j : Nat) (c' : AV), e'.length = e.length → e'[j]? = some c' → ∃ c, e[j]? = some c := by
        intro e e' j c' hl' hc'
        have hj : j < e.length := by have := (List.getElem?_eq_some_iff.1 hc').1; omega
        exact ⟨_, List.getElem?_eq_getElem hj⟩
      have key : RV D (.sl true es') (.slice (some ⟨b, off, none⟩) es'.length cap) := by
        refine .sl true es' b off size cap f (fun e0 => hne (List.eq_nil_of_length_eq_zero (by rw [e0] at hl; simpa using hl.symm))) ?_ (hN b hb ⟨col, hNb⟩) (fun e => by cases e) (by rw [hw]; exact hb) (by omega) ?_ ?_
        · intro e' he'
          obtain ⟨i, hi⟩ := List.getElem?_of_mem he'
          obtain ⟨e, he, hle⟩ := hget i e' hi
          rw [hle]
          exact hs e (List.mem_of_getElem? he)
        · intro i j e' c' hi hj
          obtain ⟨e, he, hle⟩ := hget i e' hi
          obtain ⟨c, hcc⟩ := hcell e e' j c' hle hj
          rw [hw]
          exact hc i j e c he hcc
        · intro i j e' c' hi hj
          obtain ⟨e, he, hle⟩ := hget i e' hi
          obtain ⟨c, hcc⟩ := hcell e e' j c' hle hj
          exact ih i j e e' c c' he hi hcc hj (hr i j e c he hcc)
      rw [hl] at key
      exact key

/-- The context in which all that is there is old. -/
def Ctx.aged (C : Ctx) : Ctx := { C with W := fun _ => False, N0 := fun col b => (col = true ∧ C.w.heap.size ≤ b) ∨ (col = false ∧ b < C.w.heap.size) }

theorem aged_N {C : Ctx} (hA : ∀ i, C.A i = none) {b : Nat} (hb : b < C.w.heap.size) (h : ∃ col, ¬ C.N col b) : ¬ C.aged.N true b := by
  obtain ⟨col, h⟩ := h
  rintro ((h1 | h1) | h1 | ⟨i, I, h1, _⟩)
  · rcases h1 with ⟨_, h1⟩ | ⟨h1, _⟩
    · omega
    · cases h1
  · exact h1
  · exact h (.inr (.inl h1))
  · have h1' : C.A i = some I := h1
    rw [hA i] at h1'
    cases h1'

theorem aged_mem {G : Cfg} {base : Nat} {bx0 : List Nat} {C : Ctx} {m m' : Mem} (M : MemOK G base bx0 C m) (hmd : G.md = 1) (hl : ∀ i, (m.arrs i).live = false) (ha : m'.arrs = m.arrs) (hbl : m'.boxes.length = m.boxes.length)
    (hb : ∀ (k : Nat) (cs cs' : List AV), m.boxes[k]? = some cs → m'.boxes[k]? = some cs' → cs'.length = cs.length ∧ ∀ (j : Nat) (c c' : AV), cs[j]? = some c → cs'[j]? = some c' → Olds c c') :
    MemOK G base bx0 C.aged m' ∧ ∀ (a b : AV) (x : Value), Olds a b → RV C a x → RV C.aged b x := by
  obtain ⟨tb, T⟩ := M.top hmd
  have hA : ∀ i, C.A i = none := fun i => M.dead i (hl i)
  have hst : ∀ (a b : AV) (x : Value), Olds a b → RV C a x → RV C.aged b x := fun a b x ho h => olds_rv (C := C) (D := C.aged) rfl rfl rfl rfl (fun b hb hn => aged_N hA hb hn) ho h
  refine ⟨⟨by rw [hbl]; exact M.bxlen, M.nodup, M.bxlt, M.le, ?_, ?_, ?_, ?_, ?_, fun i I g hI => (by rw [show C.aged.A i = C.A i from rfl, hA i] at hI; cases hI), fun i I g hI => (by rw [show C.aged.A i = C.A i from rfl, hA i] at hI; cases hI),
    ⟨fun b h => h.elim, fun b h => h.elim, fun b _ _ h => h.elim, fun _ b h => h.elim⟩, fun _ => ⟨C.w.heap.size, M.le, ?_, ?_, T.bx0, fun b h => h.elim⟩, M.glob.same rfl fun b hb h => aged_N hA hb ⟨true, h⟩⟩, hst⟩
  · intro b h
    rcases h with ⟨h, _⟩ | ⟨_, h⟩
    · cases h
    · exact ⟨h, fun i I hI => (by rw [show C.aged.A i = C.A i from rfl, hA i] at hI; cases hI)⟩
  · intro k b cs' h1 h2
    have hk : k < m.boxes.length := by have := (List.getElem?_eq_some_iff.1 h2).1; omega
    obtain ⟨cur, t, hc, hs, hr⟩ := M.box k b _ h1 (List.getElem?_eq_getElem hk)
    obtain ⟨q1, q2⟩ := hb k _ cs' (List.getElem?_eq_getElem hk) h2
    refine ⟨cur, t, hc, by rw [q1]; exact hs, ?_⟩
    intro j c' x h3 h4
    have hj : j < m.boxes[k].length := by have := (List.getElem?_eq_some_iff.1 h3).1; omega
    exact hst _ c' x (q2 j _ c' (List.getElem?_eq_getElem hj) h3) (hr j _ x (List.getElem?_eq_getElem hj) h4)
  · intro i; rw [ha]; exact M.ver i
  · intro i _; exact hA i
  · intro i h; rw [ha, hl i] at h; cases h
  · intro b; simp [Ctx.aged]
  · intro b; simp [Ctx.aged]

end Go.Proofs.YtokhnmchnfkiiaaDoor.Am

/- The abstract machine: functions that are handed the caller's boxes, write some of them, and may hand back new ones. No conditions. -/
namespace Go.Proofs.YtokhnmchnfkiiaaDoor.Am
open Go Go.RowKit
set_option linter.unusedSimpArgs false
set_option linter.unusedVariables false

/-- No pointer to a box but the first n; no array of the call's own, nothing wild. -/
inductive AV.In (n : Nat) : AV → Prop
  | v (x : Value) : AV.In n (.v x)
  | agg (cs : List AV) (h : ∀ c ∈ cs, AV.In n c) : AV.In n (.agg cs)
  | tup (cs : List AV) (h : ∀ c ∈ cs, AV.In n c) : AV.In n (.tup cs)
  | sl (col : Bool) (es : List (List AV)) (h : ∀ e ∈ es, ∀ c ∈ e, AV.In n c) : AV.In n (.sl col es)
  | nil : AV.In n .nil
  | el (col : Bool) (cs : List AV) (h : ∀ c ∈ cs, AV.In n c) : AV.In n (.el col cs)
  | box (k off : Nat) (h : k < n) : AV.In n (.box k off)
  | clo (f : FuncId) (pre post : List AV) (h : ∀ c ∈ pre, AV.In n c) (h' : ∀ c ∈ post, AV.In n c) : AV.In n (.clo f pre post)
  | dead : AV.In n .dead
  | any (x : Value) : AV.In n (.any x)

theorem AV.Free.inn {p : Bool → Prop} {n : Nat} {a : AV} (h : a.Free p) : a.In n := by
  induction h with
  | v x => exact .v x
  | agg cs _ ih => exact .agg cs ih
  | tup cs _ ih => exact .tup cs ih
  | sl col es _ _ ih => exact .sl col es ih
  | nil => exact .nil
  | el col cs _ _ ih => exact .el col cs ih
  | clo f pre post _ _ ih ih' => exact .clo f pre post ih ih'
  | dead => exact .dead

theorem rv_in {D : Ctx} {n : Nat} {r : AV} {x : Value} (h : RV D r x) (hf : r.In n) {E : Ctx} (hw : E.w = D.w) (hN : ∀ col b, b < D.w.heap.size → ¬ D.N col b → ¬ E.N col b) (hbx : ∀ (k b : Nat), k < n → D.bx[k]? = some b → E.bx[k]? = some b) : RV E r x := by
  induction h with
  | v x => exact .v x
  | agg cs vs hl _ ih =>
    cases hf with
    | agg _ hh => exact .agg cs vs hl fun j c x h1 h2 => ih j c x h1 h2 (hh c (List.mem_of_getElem? h1))
  | tup cs vs hl _ ih =>
    cases hf with
    | tup _ hh => exact .tup cs vs hl fun j c x h1 h2 => ih j c x h1 h2 (hh c (List.mem_of_getElem? h1))
  | nil a => exact .nil a
  | sl0 col a cap => exact .sl0 col a cap
  | sl col es b off size cap f hne hs hN' hz hb hcap hc _ ih =>
    cases hf with
    | sl _ _ hh =>
      exact .sl col es b off size cap f hne hs (hN col b hb hN') (fun e => by rw [hw]; exact hz e) (by rw [hw]; exact hb) hcap (by rw [hw]; exact hc) fun i j e c h1 h2 => ih i j e c h1 h2 (hh e (List.mem_of_getElem? h1) c (List.mem_of_getElem? h2))
  | el col cs b off f hN' hb hc _ ih =>
    cases hf with
    | el _ _ hh =>
      exact .el col cs b off f (hN col b hb hN') (by rw [hw]; exact hb) (by rw [hw]; exact hc) fun j c h1 => ih j c h1 (hh c (List.mem_of_getElem? h1))
  | box k off b h =>
    cases hf with
    | box _ _ hk => exact .box k off b (hbx k b hk h)
  | arr i n off len x h1 hn hh => cases hf
  | ael i n idx off x h1 hn _ => cases hf
  | clo f pre post ps qs hp hq _ _ ih ih' =>
    cases hf with
    | clo _ _ _ hh hh' => exact .clo f pre post ps qs hp hq (fun j c x h1 h2 => ih j c x h1 h2 (hh c (List.mem_of_getElem? h1))) (fun j c x h1 h2 => ih' j c x h1 h2 (hh' c (List.mem_of_getElem? h1)))
  | dead x => exact .dead x
  | any x y h => exact .any x y h
  | wsl0 => cases hf
  | wsl => cases hf
  | wel => cases hf

/-- The blocks of the boxes that may be written. -/
def wrBlk (bx : List Nat) (w : Nat → Bool) : List Nat := (List.range bx.length).filterMap fun k => if w k then bx[k]? else none
theorem mem_wrBlk {bx : List Nat} {w : Nat → Bool} {b : Nat} (h : b ∈ wrBlk bx w) : ∃ k, k < bx.length ∧ w k = true ∧ bx[k]? = some b := by
  unfold wrBlk at h
  obtain ⟨k, hk, h2⟩ := List.mem_filterMap.1 h
  split at h2
  · rename_i hw
    exact ⟨k, List.mem_range.1 hk, hw, h2⟩
  · cases h2
theorem wrBlk_mem {bx : List Nat} {w : Nat → Bool} {b k : Nat} (hw : w k = true) (h : bx[k]? = some b) : b ∈ wrBlk bx w :=
  List.mem_filterMap.2 ⟨k, List.mem_range.2 (List.getElem?_eq_some_iff.1 h).1, by rw [if_pos hw]; exact h⟩

/-- A function that is handed the boxes bs, writes those of 'w' alone, and leaves bs' (perhaps more of them, that it has made). -/
def SCall (P : Program) (f : FuncId) (args : List AV) (bs : List (List AV)) (w : Nat → Bool) (bs' : List (List AV)) (r : AV) : Prop :=
  enters P f = true ∧ r.In bs'.length ∧ bs.length ≤ bs'.length ∧ (∀ k, k < bs.length → w k = false → bs'[k]? = bs[k]?) ∧ (∀ (k : Nat) (cs : List AV), bs'[k]? = some cs → w k = true ∨ bs.length ≤ k → ∀ c ∈ cs, AV.In bs'.length c) ∧
  ∀ (C : Ctx) (vs : Array Value), (∀ i, C.A i = none) → BoxOK C bs → (∀ b, C.W b → soft C.w b ∧ b ∉ C.bx) → (∀ b, C.N0 false b → b < C.w.heap.size) → RVs C args vs.toList →
    Calls P f vs C.w fun e w' => ∃ v C' bs2, e = .returned v ∧ C'.w = w' ∧ C'.N0 = C.N0 ∧ Keeps C C' ∧ bs2.take bs'.length = bs' ∧ BoxOK C' bs2 ∧ (∀ (k b : Nat), C.bx.length ≤ k → C'.bx[k]? = some b → C.w.heap.size ≤ b) ∧
      WExt C.w.heap.size (wrBlk C.bx w) C.w w' ∧ RV C' r v

/-- The context that such a function is given: the caller's arrays are out of sight. -/
def Ctx.lentS (C : Ctx) : Ctx := { w := C.w, N0 := fun col b => C.N0 col b ∨ ∃ i I, C.A i = some I ∧ I.val.ownBlock = some b, bx := C.bx, W := C.W, ver := C.ver, A := fun _ => none }
theorem lentS_N (C : Ctx) (col : Bool) (b : Nat) : C.lentS.N col b ↔ C.N col b := by
  constructor
  · rintro (((h | h) | h) | h | ⟨_, _, h, _⟩)
    · exact .inl (.inl h)
    · exact .inr (.inr h)
    · exact .inl (.inr h)
    · exact .inr (.inl h)
    · cases h
  · rintro ((h | h) | h | h)
    · exact .inl (.inl (.inl h))
    · exact .inl (.inr h)
    · exact .inr (.inl h)
    · exact .inl (.inl (.inr h))
theorem lentS_keeps (C : Ctx) : Keeps C C.lentS :=
  ⟨Nat.le_refl _, fun col b _ h h2 => h ((lentS_N C col b).1 h2), fun _ _ _ => rfl, fun _ _ h => h, fun _ => Nat.le_refl _, fun _ _ h _ => (by cases h), rfl, fun _ _ _ => .of_block rfl⟩

theorem src_call {G : Cfg} {base : Nat} {bx0 : List Nat} {C : Ctx} {m : Mem} (M : MemOK G base bx0 C m) {f : FuncId} {args : List AV} {w : Nat → Bool} {bs' : List (List AV)} {r : AV} (hp : SCall G.P f args m.boxes w bs' r) (hw : ∀ k, w k = true → k < m.boxes.length → G.wr k = true)
    {vs : Array Value} (hv : RVs C args vs.toList) : Calls G.P f vs C.w fun e w' => ∃ v, e = .returned v ∧ Nxt G base bx0 C w' ⟨bs', m.arrs⟩ fun D => RV D r v := by
  obtain ⟨_, hr, hlen, hsame, hin, hc⟩ := hp
  refine (hc C.lentS vs (fun _ => rfl) ⟨M.bxlen, M.nodup, fun b hb => M.bxin hb, ?_, M.glob.keep (lentS_keeps C)⟩ (fun b h => ⟨M.wild.soft b h, M.wild.bx b h⟩) ?_ ⟨hv.1, fun j c x h1 h2 => (hv.2 j c x h1 h2).keep (lentS_keeps C)⟩).mono ?_
  · intro k b cs h1 h2
    obtain ⟨cur, t, q1, q2, q3⟩ := M.box k b cs h1 h2
    exact ⟨cur, t, q1, q2, fun j c x a d => (q3 j c x a d).keep (lentS_keeps C)⟩
  · rintro b (h | ⟨i, I, hI, hg⟩)
    · exact (M.n0 b h).1
    · exact (M.own hI hg).2
  rintro e w' ⟨v, C', bs2, rfl, hw', hn, K, htk, hB, hnew, W, hrv⟩
  have hl2 : bs'.length ≤ bs2.length := by
    have := congrArg List.length htk
    rw [List.length_take] at this
    omega
  have hCl : C.bx.length ≤ bs'.length := by rw [M.bxlen]; exact hlen
  have hC'l : C'.bx.length = bs2.length := hB.len
  have hblk : ∀ b, b < C.w.heap.size → b ∉ wrBlk C.bx w → w'.heap[b]? = C.w.heap[b]? := fun b h1 h2 => W.block b h1 h2
  have hsub : ∀ b, b ∈ wrBlk C.bx w → b ∈ C.bx := fun b h => by obtain ⟨k, _, _, h⟩ := mem_wrBlk h; exact List.mem_of_getElem? h
  have hbx : ∀ (k b : Nat), k < bs'.length → C'.bx[k]? = some b → (C'.bx.take bs'.length)[k]? = some b := fun k b h1 h2 => by rw [List.getElem?_take, if_pos h1]; exact h2
  have hbx' : ∀ (k b : Nat), (C'.bx.take bs'.length)[k]? = some b → k < bs'.length ∧ C'.bx[k]? = some b := fun k b h => by
    rw [List.getElem?_take] at h
    split at h
    · exact ⟨‹_›, h⟩
    · cases h
  have hold : ∀ (k b : Nat), k < C.bx.length → C'.bx[k]? = some b → C.bx[k]? = some b := fun k b h1 h2 => by
    have h3 := K.bx k _ (List.getElem?_eq_getElem h1 : C.bx[k]? = some C.bx[k])
    rw [h2] at h3
    cases h3
    exact List.getElem?_eq_getElem h1
  obtain ⟨E, hE⟩ : ∃ E : Ctx, E = { w := w', N0 := C.N0, bx := C'.bx.take bs'.length, W := C.W, ver := C.ver, A := C.A } := ⟨_, rfl⟩
  have hEN : ∀ col b, E.N col b → C'.N col b := by
    subst hE
    rintro col b ((h | h) | h | h)
    · exact .inl (.inl (by rw [hn]; exact .inl h))
    · exact .inl (.inr (by rw [K.W]; exact h))
    · exact .inr (.inl (List.mem_of_mem_take h))
    · exact .inl (.inl (by rw [hn]; exact .inr h))
  have KE : Keeps C E := by
    subst hE
    refine ⟨W.size, ?_, ?_, fun k b h => hbx k b (by have := (List.getElem?_eq_some_iff.1 h).1; omega) (K.bx k b h), fun _ => Nat.le_refl _, fun i I h _ => ⟨I, h, rfl, rfl, rfl⟩, rfl, ?_⟩
    · intro col b hb h h2
      exact K.N col b hb (fun h3 => h ((lentS_N C col b).1 h3)) (hEN col b h2)
    · rintro b hb ⟨col, h⟩
      have := K.block b hb ⟨col, fun h3 => h ((lentS_N C col b).1 h3)⟩
      rw [hw'] at this
      exact this
    · intro b hb h
      have := K.wild b hb h
      rw [hw'] at this
      exact this
  have hback : ∀ {a : AV} {x : Value}, RV C' a x → a.In bs'.length → RV E a x := fun h hf => by
    refine rv_in h hf (by rw [hE]; exact hw'.symm) (fun col b _ h1 h2 => h1 (hEN col b h2)) ?_
    intro k b h1 h2
    rw [hE]
    exact hbx k b h1 h2
  have hnb : ∀ (k b : Nat), C.bx.length ≤ k → C'.bx[k]? = some b → C.w.heap.size ≤ b := hnew
  refine ⟨v, rfl, E, by rw [hE], by rw [hE], KE, ?_, ⟨W.os, W.tape, W.output, W.size, ?_⟩, hback hrv hr⟩
  · have hEw : E.w = w' := by rw [hE]
    have hEbx : E.bx = C'.bx.take bs'.length := by rw [hE]
    have hEA : E.A = C.A := by rw [hE]
    have hEver : E.ver = C.ver := by rw [hE]
    have hEW : E.W = C.W := by rw [hE]
    have hEN0 : E.N0 = C.N0 := by rw [hE]
    have hown : ∀ i I g, C.A i = some I → I.val.ownBlock = some g → w'.heap[g]? = C.w.heap[g]? := fun i I g h1 h2 => hblk g (M.own h1 h2).2 fun h => (M.sep i I g h1 h2).1 (hsub g h)
    refine ⟨?_, ?_, ?_, ?_, ?_, ?_, ?_, ?_, ?_, ?_, ?_, ?_, ?_, M.glob.keep KE⟩
    · rw [hEbx, List.length_take]
      show min bs'.length C'.bx.length = bs'.length
      omega
    · rw [hEbx]
      exact hB.nodup.sublist (List.take_sublist _ _)
    · intro k b h1 h2
      rw [hEbx] at h1
      obtain ⟨h3, h4⟩ := hbx' k b h1
      by_cases hk : k < C.bx.length
      · exact M.bxlt k b (hold k b hk h4) h2
      · have := hnb k b (by omega) h4
        have := M.le
        exact .inr (by omega)
    · rw [hEw]
      exact Nat.le_trans M.le W.size
    · exact M.n0.step hEN0 KE.size (fun i I g h k => .inr ⟨i, I, by rw [hEA] at h; exact h, k⟩)
    · intro k b cs h1 h2
      rw [hEbx] at h1
      obtain ⟨h3, h4⟩ := hbx' k b h1
      have h2' : bs'[k]? = some cs := h2
      by_cases hk : k < C.bx.length ∧ w k = false
      · obtain ⟨hk, hwk⟩ := hk
        have hCb := hold k b hk h4
        rw [hsame k (by rw [← M.bxlen]; exact hk) hwk] at h2'
        obtain ⟨cur, t, q1, q2, q3⟩ := M.box k b cs hCb h2'
        refine ⟨cur, t, ?_, q2, fun j c x a d => (q3 j c x a d).keep KE⟩
        rw [hEw, hblk b (M.bxin (List.mem_of_getElem? hCb)) ?_]
        · exact q1
        · intro h
          obtain ⟨k2, _, hw2, hb2⟩ := mem_wrBlk h
          have : k2 = k := by
            exact (List.getElem?_inj (List.getElem?_eq_some_iff.1 hb2).1 M.nodup).1 (hb2.trans hCb.symm)
          subst this
          rw [hwk] at hw2
          cases hw2
      · have hb2 : bs2[k]? = some cs := by
          rw [← htk, List.getElem?_take, if_pos h3] at h2'
          exact h2'
        obtain ⟨cur, t, q1, q2, q3⟩ := hB.box k b cs h4 hb2
        refine ⟨cur, t, by rw [hEw, ← hw']; exact q1, q2, fun j c x a d => hback (q3 j c x a d) (hin k cs h2 ?_ c (List.mem_of_getElem? a))⟩
        by_cases hk2 : k < C.bx.length
        · refine .inl ?_
          cases h : w k with
          | true => rfl
          | false => exact (hk ⟨hk2, h⟩).elim
        · exact .inr (by rw [← M.bxlen]; omega)
    · intro i
      rw [hEver]
      exact M.ver i
    · intro i h
      rw [hEA]
      exact M.dead i h
    · intro i hl
      obtain ⟨I, xs, hA, hz, hp, hlen, hes, ho, hr⟩ := M.arr i hl
      exact ⟨I, xs, by rw [hEA]; exact hA, hz, hp, hlen, hes, by rw [hEw]; exact ownsRow_of_block (fun g hg => hown i I g hA hg) ho, fun idx j e c x a b d => (hr idx j e c x a b d).keep KE⟩
    · intro i I g h1 h2
      rw [hEA] at h1
      refine ⟨fun h => ?_, fun j J h3 h4 => (M.sep i I g h1 h2).2 j J (by rw [hEA] at h3; exact h3) h4⟩
      rw [hEbx] at h
      obtain ⟨k, hk⟩ := List.getElem?_of_mem h
      obtain ⟨h3, h4⟩ := hbx' k g hk
      by_cases hk2 : k < C.bx.length
      · exact (M.sep i I g h1 h2).1 (List.mem_of_getElem? (hold k g hk2 h4))
      · have := hnb k g (by omega) h4
        have := (M.own h1 h2).2
        omega
    · intro i I g h1 h2
      rw [hEA] at h1
      exact M.lo i I g h1 h2
    · refine M.wild.step hEW (fun b h => ?_) (fun b h => ?_) (fun i I g h k => .inr ⟨i, I, by rw [hEA] at h; exact h, k⟩)
      · rw [hEw]
        exact hblk b (M.wild.soft b h).lt fun h2 => M.wild.bx b h (hsub b h2)
      · rw [hEbx] at h
        obtain ⟨k, hk⟩ := List.getElem?_of_mem h
        obtain ⟨h3, h4⟩ := hbx' k b hk
        by_cases hk2 : k < C.bx.length
        · exact .inl (List.mem_of_getElem? (hold k b hk2 h4))
        · exact .inr (hnb k b (by omega) h4)
    · intro e
      obtain ⟨tb, T⟩ := M.top e
      exact ⟨tb, T.le, by rw [hEN0]; exact T.old, by rw [hEN0]; exact T.new, T.bx0, by rw [hEW]; exact T.W⟩
  · intro k hk hk2
    refine hblk k (Nat.lt_of_lt_of_le hk M.le) fun h => ?_
    obtain ⟨j, hj, hwj, hb⟩ := mem_wrBlk h
    rcases M.bxlt j k hb (hw j hwj (by rw [← M.bxlen]; exact hj)) with h | h
    · exact hk2 h
    · omega

end Go.Proofs.YtokhnmchnfkiiaaDoor.Am
