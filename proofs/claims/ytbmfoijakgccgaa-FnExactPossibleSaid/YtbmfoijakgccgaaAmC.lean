/- The abstract machine: what memory the abstract state stands for, and what each change of it keeps. No conditions. -/
import Derived.Test.YtbmfoijakgccgaaAmB
namespace Go.Proofs.Ytbmfoijakgccgaa.Am
open Go Go.RowKit
set_option linter.unusedSimpArgs false
set_option linter.unusedVariables false

structure WExt (base : Nat) (bx0 : List Nat) (w w' : World) : Prop where
  os : w'.os = w.os
  tape : w'.tape = w.tape
  output : w'.output = w.output
  size : w.heap.size ≤ w'.heap.size
  block : ∀ k, k < base → k ∉ bx0 → w'.heap[k]? = w.heap[k]?

theorem WExt.refl (base : Nat) (bx0 : List Nat) (w : World) : WExt base bx0 w w := ⟨rfl, rfl, rfl, Nat.le_refl _, fun _ _ _ => rfl⟩
theorem WExt.trans {base : Nat} {bx0 : List Nat} {a b c : World} (h : WExt base bx0 a b) (k : WExt base bx0 b c) : WExt base bx0 a c :=
  ⟨k.os.trans h.os, k.tape.trans h.tape, k.output.trans h.output, Nat.le_trans h.size k.size, fun i hi hn => (k.block i hi hn).trans (h.block i hi hn)⟩

structure MemOK (G : Cfg) (base : Nat) (bx0 : List Nat) (C : Ctx) (m : Mem) : Prop where
  bxlen : C.bx.length = m.boxes.length
  nodup : C.bx.Nodup
  bxlt : ∀ (k b : Nat), C.bx[k]? = some b → G.wr k = true → b ∈ bx0 ∨ base ≤ b
  le : base ≤ C.w.heap.size
  n0 : ∀ col b, C.N0 col b → b < base ∧ b ∉ bx0
  box : ∀ (k b : Nat) (cs : List AV), C.bx[k]? = some b → m.boxes[k]? = some cs → ∃ cur t, C.w.heap[b]? = some (.cells cur t (0, 0)) ∧ cur.size = cs.length ∧
    ∀ (j : Nat) (c : AV) (x : Value), cs[j]? = some c → cur[j]? = some x → RV C c x
  ver : ∀ i, C.ver i = (m.arrs i).ver
  dead : ∀ i, (m.arrs i).live = false → C.A i = none
  arr : ∀ i, (m.arrs i).live = true → ∃ I xs, C.A i = some I ∧ G.csz (m.arrs i).elem = some I.size ∧ 0 < I.size ∧ I.len = (m.arrs i).es.length ∧ (∀ e ∈ (m.arrs i).es, e.length = I.size) ∧
    C.w.ownsRow 0 (m.arrs i).elem I.size I.val I.len xs ∧ ∀ (idx j : Nat) (e : List AV) (c : AV) (x : Value), (m.arrs i).es[idx]? = some e → e[j]? = some c → xs[idx * I.size + j]? = some x → RV C c x
  sep : ∀ i I g, C.A i = some I → I.val.ownBlock = some g → g ∉ C.bx ∧ ∀ j J, C.A j = some J → J.val.ownBlock = some g → j = i
  lo : ∀ i I g, C.A i = some I → I.val.ownBlock = some g → base ≤ g ∨ g ∈ bx0

theorem MemOK.live {G : Cfg} {base : Nat} {bx0 : List Nat} {C : Ctx} {m : Mem} (M : MemOK G base bx0 C m) {i : Nat} {I : AInf} (h : C.A i = some I) : (m.arrs i).live = true := by
  cases hl : (m.arrs i).live with
  | true => rfl
  | false => rw [M.dead i hl] at h; cases h

/-- The block of an array: it is the call's own, and it is there. -/
theorem MemOK.own {G : Cfg} {base : Nat} {bx0 : List Nat} {C : Ctx} {m : Mem} (M : MemOK G base bx0 C m) {i : Nat} {I : AInf} {g : Nat} (h : C.A i = some I) (hg : I.val.ownBlock = some g) :
    (base ≤ g ∨ g ∈ bx0) ∧ g < C.w.heap.size := by
  obtain ⟨J, xs, hJ, _, _, _, _, ho, _⟩ := M.arr i (M.live h)
  have hJ2 := hJ
  rw [h] at hJ2
  cases hJ2
  exact ⟨M.lo i _ g hJ hg, (ho.lt g hg).2⟩

theorem MemOK.bxin {G : Cfg} {base : Nat} {bx0 : List Nat} {C : Ctx} {m : Mem} (M : MemOK G base bx0 C m) {b : Nat} (h : b ∈ C.bx) : b < C.w.heap.size := by
  obtain ⟨k, hk, rfl⟩ := List.getElem_of_mem h
  have hk2 : k < m.boxes.length := M.bxlen ▸ hk
  obtain ⟨cur, t, hc, _⟩ := M.box k _ (m.boxes[k]) (List.getElem?_eq_getElem hk) (List.getElem?_eq_getElem hk2)
  exact (Array.getElem?_eq_some_iff.1 hc).1

/-- The state after a step: a context over the new world, which keeps what was held, and holds the new memory. -/
def Nxt (G : Cfg) (base : Nat) (bx0 : List Nat) (C : Ctx) (w' : World) (m' : Mem) (R : Ctx → Prop) : Prop :=
  ∃ C' : Ctx, C'.w = w' ∧ C'.N0 = C.N0 ∧ Keeps C C' ∧ MemOK G base bx0 C' m' ∧ WExt base bx0 C.w w' ∧ R C'

/-- Nothing is written, nothing is new (a draw, perhaps). -/
theorem Nxt.still {G : Cfg} {base : Nat} {bx0 : List Nat} {C : Ctx} {m : Mem} {R : Ctx → Prop} (M : MemOK G base bx0 C m) (w' : World) (hh : w'.heap = C.w.heap) (ho : w'.os = C.w.os) (ht : w'.tape = C.w.tape) (hp : w'.output = C.w.output)
    (hR : ∀ C', Keeps C C' → C'.w = w' → C'.bx = C.bx → C'.A = C.A → C'.ver = C.ver → C'.N0 = C.N0 → R C') : Nxt G base bx0 C w' m R := by
  have K : Keeps C { C with w := w' } := ⟨by simp [hh], fun _ _ _ h => h, fun b _ _ => by simp [hh], fun _ _ h => h, fun _ => Nat.le_refl _, fun _ I h _ => ⟨I, h, rfl, rfl, rfl⟩⟩
  refine ⟨{ C with w := w' }, rfl, rfl, K, ?_, ⟨ho, ht, hp, by simp [hh], fun k _ _ => by simp [hh]⟩, hR _ K rfl rfl rfl rfl rfl⟩
  refine ⟨M.bxlen, M.nodup, M.bxlt, by simpa [hh] using M.le, M.n0, ?_, M.ver, M.dead, ?_, M.sep, M.lo⟩
  · intro k b cs h1 h2
    obtain ⟨cur, t, hc, hs, hr⟩ := M.box k b cs h1 h2
    exact ⟨cur, t, by simpa [hh] using hc, hs, fun j c x a b => (hr j c x a b).keep K⟩
  · intro i hl
    obtain ⟨I, xs, hA, hz, hp, hlen, hes, ho, hr⟩ := M.arr i hl
    exact ⟨I, xs, hA, hz, hp, hlen, hes, ho.kept (row := none) ⟨by simpa using ‹w'.os = C.w.os›, ht, by simpa using ‹w'.output = C.w.output›, by simp [hh], fun k _ _ => by simp [hh]⟩ (by cases I.val.ownBlock <;> simp),
      fun idx j e c x a b d => (hr idx j e c x a b d).keep K⟩

/-- A new block that is no box and no array of the call's own. -/
theorem Nxt.fresh {G : Cfg} {base : Nat} {bx0 : List Nat} {C : Ctx} {m : Mem} {R : Ctx → Prop} (M : MemOK G base bx0 C m) (o : Obj)
    (hR : ∀ C', Keeps C C' → C'.w = C.w.alloc o → C'.bx = C.bx → C'.A = C.A → C'.ver = C.ver → C'.N0 = C.N0 → ¬ C'.N false C.w.heap.size → R C') : Nxt G base bx0 C (C.w.alloc o) m R := by
  have K : Keeps C { C with w := C.w.alloc o } := ⟨by simp, fun _ _ _ h => h, fun b hb _ => Go.heap_alloc_old _ _ hb, fun _ _ h => h, fun _ => Nat.le_refl _, fun _ I h _ => ⟨I, h, rfl, rfl, rfl⟩⟩
  have hN : ¬ Ctx.N { C with w := C.w.alloc o } false C.w.heap.size := by
    rintro (h | h | ⟨i, I, hA, hg⟩)
    · have h1 := (M.n0 _ _ h).1; have h2 := M.le; exact absurd h1 (by omega)
    · have := M.bxin h; omega
    · have := (M.own hA hg).2; omega
  refine ⟨{ C with w := C.w.alloc o }, rfl, rfl, K, ?_, ⟨rfl, rfl, rfl, by simp, fun k hk _ => Go.heap_alloc_old _ _ (Nat.lt_of_lt_of_le hk M.le)⟩, hR _ K rfl rfl rfl rfl rfl hN⟩
  refine ⟨M.bxlen, M.nodup, M.bxlt, by have := M.le; simp; omega, M.n0, ?_, M.ver, M.dead, ?_, M.sep, M.lo⟩
  · intro k b cs h1 h2
    obtain ⟨cur, t, hc, hs, hr⟩ := M.box k b cs h1 h2
    refine ⟨cur, t, ?_, hs, fun j c x a b => (hr j c x a b).keep K⟩
    show (C.w.alloc o).heap[b]? = _
    rw [Go.heap_alloc_old _ _ (M.bxin (List.mem_of_getElem? h1))]
    exact hc
  · intro i hl
    obtain ⟨I, xs, hA, hz, hp, hlen, hes, ho, hr⟩ := M.arr i hl
    exact ⟨I, xs, hA, hz, hp, hlen, hes, ho.alloc o, fun idx j e c x a b d => (hr idx j e c x a b d).keep K⟩

/-- A new box. -/
theorem Nxt.newBox {G : Cfg} {base : Nat} {bx0 : List Nat} {C : Ctx} {m : Mem} {R : Ctx → Prop} (M : MemOK G base bx0 C m) (cur : Array Value) (t : TypeId) (cs : List AV) (hs : cur.size = cs.length)
    (hr : ∀ (j : Nat) (c : AV) (x : Value), cs[j]? = some c → cur[j]? = some x → RV C c x)
    (hR : ∀ C', Keeps C C' → C'.w = C.w.alloc (.cells cur t) → C'.bx = C.bx ++ [C.w.heap.size] → R C') : Nxt G base bx0 C (C.w.alloc (.cells cur t)) { m with boxes := m.boxes ++ [cs] } R := by
  have hnew : C.w.heap.size ∉ C.bx := fun h => by have := M.bxin h; omega
  have K : Keeps C { C with w := C.w.alloc (.cells cur t), bx := C.bx ++ [C.w.heap.size] } := by
    refine ⟨by simp, ?_, fun b hb _ => Go.heap_alloc_old _ _ hb, ?_, fun _ => Nat.le_refl _, fun _ I h _ => ⟨I, h, rfl, rfl, rfl⟩⟩
    · rintro col b hb hN (h | h | h)
      · exact hN (.inl h)
      · rcases List.mem_append.1 h with h | h
        · exact hN (.inr (.inl h))
        · have : b = C.w.heap.size := by simpa using h
          omega
      · exact hN (.inr (.inr h))
    · intro k b h
      show (C.bx ++ [C.w.heap.size])[k]? = some b
      rw [List.getElem?_append_left (List.getElem?_eq_some_iff.1 h).1]
      exact h
  refine ⟨{ C with w := C.w.alloc (.cells cur t), bx := C.bx ++ [C.w.heap.size] }, rfl, rfl, K, ?_, ⟨rfl, rfl, rfl, by simp, fun k hk _ => Go.heap_alloc_old _ _ (Nat.lt_of_lt_of_le hk M.le)⟩, hR _ K rfl rfl⟩
  refine ⟨by simp [M.bxlen], ?_, ?_, by have := M.le; simp; omega, M.n0, ?_, M.ver, M.dead, ?_, ?_, M.lo⟩
  · exact List.nodup_append.2 ⟨M.nodup, by simp, fun a ha b hb => by rintro rfl; have : a = C.w.heap.size := by simpa using hb
                                                                     exact hnew (this ▸ ha)⟩
  · intro k b hb hwr
    have hb' : (C.bx ++ [C.w.heap.size])[k]? = some b := hb
    rw [List.getElem?_append] at hb'
    split at hb'
    · exact M.bxlt k b hb' hwr
    · have : b = C.w.heap.size := by
        have := List.mem_of_getElem? hb'
        simpa using this
      exact .inr (this ▸ M.le)
  · intro k b cs' h1 h2
    have h1' : (C.bx ++ [C.w.heap.size])[k]? = some b := h1
    have h2' : (m.boxes ++ [cs])[k]? = some cs' := h2
    by_cases hk : k < C.bx.length
    · rw [List.getElem?_append_left hk] at h1'
      rw [List.getElem?_append_left (M.bxlen ▸ hk)] at h2'
      obtain ⟨cur', t', hc, hs', hr'⟩ := M.box k b cs' h1' h2'
      refine ⟨cur', t', ?_, hs', fun j c x a b => (hr' j c x a b).keep K⟩
      show (C.w.alloc _).heap[b]? = _
      rw [Go.heap_alloc_old _ _ (M.bxin (List.mem_of_getElem? h1'))]
      exact hc
    · rw [List.getElem?_append_right (by omega)] at h1'
      rw [List.getElem?_append_right (by have := M.bxlen; omega)] at h2'
      have hk0 : k - C.bx.length = 0 := by
        cases hz : k - C.bx.length with
        | zero => rfl
        | succ n => rw [hz] at h1'; simp at h1'
      rw [hk0] at h1'
      rw [← M.bxlen, hk0] at h2'
      simp at h1' h2'
      subst h1' h2'
      exact ⟨cur, t, Go.heap_alloc_new _ _, hs, fun j c x a b => (hr j c x a b).keep K⟩
  · intro i hl
    obtain ⟨I, xs, hA, hz, hp, hlen, hes, ho, hr'⟩ := M.arr i hl
    exact ⟨I, xs, hA, hz, hp, hlen, hes, ho.alloc _, fun idx j e c x a b d => (hr' idx j e c x a b d).keep K⟩
  · intro i I g hA hg
    obtain ⟨h1, h2⟩ := M.sep i I g hA hg
    refine ⟨fun h => ?_, h2⟩
    rcases List.mem_append.1 h with h | h
    · exact h1 h
    · have e : g = C.w.heap.size := by simpa using h
      have := (M.own hA hg).2
      omega

/-- A box is written. -/
theorem Nxt.putBox {G : Cfg} {base : Nat} {bx0 : List Nat} {C : Ctx} {m : Mem} {R : Ctx → Prop} (M : MemOK G base bx0 C m) (k b : Nat) (cs cs' : List AV) (cur cur' : Array Value) (t : TypeId) (hb : C.bx[k]? = some b) (hwr : G.wr k = true) (hk : m.boxes[k]? = some cs)
    (hc : C.w.heap[b]? = some (.cells cur t (0, 0))) (w' : World) (ho : w'.os = C.w.os) (ht : w'.tape = C.w.tape) (hp : w'.output = C.w.output) (hsz : w'.heap.size = C.w.heap.size) (hnew : w'.heap[b]? = some (.cells cur' t (0, 0)))
    (hoth : ∀ j, j ≠ b → w'.heap[j]? = C.w.heap[j]?) (hs : cur'.size = cs'.length) (hr : ∀ (j : Nat) (c : AV) (x : Value), cs'[j]? = some c → cur'[j]? = some x → RV C c x)
    (hR : ∀ C', Keeps C C' → C'.w = w' → C'.bx = C.bx → R C') : Nxt G base bx0 C w' { m with boxes := m.boxes.set k cs' } R := by
  have hmem : b ∈ C.bx := List.mem_of_getElem? hb
  have K : Keeps C { C with w := w' } := by
    refine ⟨by simp [hsz], fun _ _ _ h => h, ?_, fun _ _ h => h, fun _ => Nat.le_refl _, fun _ I h _ => ⟨I, h, rfl, rfl, rfl⟩⟩
    rintro j hj ⟨col, hN⟩
    exact hoth j (fun e => hN (.inr (.inl (e ▸ hmem))))
  refine ⟨{ C with w := w' }, rfl, rfl, K, ?_, ⟨ho, ht, hp, by simp [hsz], ?_⟩, hR _ K rfl rfl⟩
  · refine ⟨by simpa using M.bxlen, M.nodup, M.bxlt, by simpa [hsz] using M.le, M.n0, ?_, M.ver, M.dead, ?_, M.sep, M.lo⟩
    · intro q c' ds h1 h2
      have h1' : C.bx[q]? = some c' := h1
      by_cases hq : q = k
      · subst hq
        have e1 : c' = b := by rw [hb] at h1'; exact (Option.some.inj h1').symm
        have h2' : (m.boxes.set q cs')[q]? = some ds := h2
        rw [List.getElem?_set_self (List.getElem?_eq_some_iff.1 hk).1] at h2'
        cases h2'
        subst e1
        exact ⟨cur', t, hnew, hs, fun j c x a b => (hr j c x a b).keep K⟩
      · have h2' : (m.boxes.set k cs')[q]? = some ds := h2
        rw [List.getElem?_set_ne (Ne.symm hq)] at h2'
        obtain ⟨cu, tt, hcu, hss, hrr⟩ := M.box q c' ds h1' h2'
        have hne : c' ≠ b := by
          intro e
          subst e
          have l1 := List.getElem?_eq_some_iff.1 h1'
          have l2 := List.getElem?_eq_some_iff.1 hb
          exact hq ((List.getElem_inj M.nodup).1 (l1.2.trans l2.2.symm))
        exact ⟨cu, tt, (hoth c' hne).trans hcu, hss, fun j c x a b => (hrr j c x a b).keep K⟩
    · intro i hl
      obtain ⟨I, xs, hA, hz, hpp, hlen, hes, hown, hrr⟩ := M.arr i hl
      refine ⟨I, xs, hA, hz, hpp, hlen, hes, ?_, fun idx j e c x a b d => (hrr idx j e c x a b d).keep K⟩
      refine hown.kept (row := some b) ⟨ho, ht, hp, by simp [hsz], fun k _ hk => hoth k (fun e => hk (by rw [e]))⟩ (.inr ?_)
      intro e
      exact (M.sep i I b hA e).1 hmem
  · intro j hj hn
    refine hoth j (fun e => ?_)
    subst e
    rcases M.bxlt k j hb hwr with h | h
    · exact hn h
    · omega

end Go.Proofs.Ytbmfoijakgccgaa.Am
