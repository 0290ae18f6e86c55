/- The abstract machine: what memory the abstract state stands for, and what each change of it keeps. No conditions. -/
import Derived.Test.YtokhnmchnfkiiaaDoorAmB
namespace Go.Proofs.YtokhnmchnfkiiaaDoor.Am
open Go Go.RowKit
set_option linter.unusedSimpArgs false
set_option linter.unusedVariables false

structure WExt (base : Nat) (bx0 : List Nat) (w w' : World) : Prop where
  os : w'.os = w.os
  tape : w'.tape = w.tape
  output : w'.output = w.output
  size : w.heap.size ≤ w'.heap.size
  block : ∀ k, k < base → k ∉ bx0 → w'.heap[k]? = w.heap[k]?

theorem WExt.refl (base : Nat) (bx0 : List Nat) (w : World) : WExt base bx0 w w := ⟨rfl, rfl, rfl, Nat.le_refl _, fun _ _ _ => rfl⟩
theorem WExt.trans {base : Nat} {bx0 : List Nat} {a b c : World} (h : WExt base bx0 a b) (k : WExt base bx0 b c) : WExt base bx0 a c :=
  ⟨k.os.trans h.os, k.tape.trans h.tape, k.output.trans h.output, Nat.le_trans h.size k.size, fun i hi hn => (k.block i hi hn).trans (h.block i hi hn)⟩

/-- The wild blocks: they may be written, they are no box, no array of the call's own. -/
structure WOK (md base : Nat) (bx0 : List Nat) (C : Ctx) : Prop where
  soft : ∀ b, C.W b → soft C.w b
  bx : ∀ b, C.W b → b ∉ C.bx
  own : ∀ b i I, C.W b → C.A i = some I → I.val.ownBlock ≠ some b
  lo : md = 2 → ∀ b, C.W b → base ≤ b ∨ b ∈ bx0

theorem WOK.step {md base : Nat} {bx0 : List Nat} {C D : Ctx} (h : WOK md base bx0 C) (hW : D.W = C.W) (hb : ∀ b, C.W b → D.w.heap[b]? = C.w.heap[b]?) (hbx : ∀ b, b ∈ D.bx → b ∈ C.bx ∨ C.w.heap.size ≤ b)
    (hA : ∀ i I g, D.A i = some I → I.val.ownBlock = some g → C.w.heap.size ≤ g ∨ ∃ j J, C.A j = some J ∧ J.val.ownBlock = some g) : WOK md base bx0 D := by
  refine ⟨fun b hw => ?_, fun b hw hm => ?_, fun b i I hw hI hg => ?_, fun e b hw => ?_⟩ <;> rw [hW] at hw
  · exact (h.soft b hw).of_block (hb b hw)
  · rcases hbx b hm with hm | hm
    · exact h.bx b hw hm
    · have := (h.soft b hw).lt; omega
  · rcases hA i I b hI hg with hm | ⟨j, J, hJ, hg2⟩
    · have := (h.soft b hw).lt; omega
    · exact h.own b j J hw hJ hg2
  · exact h.lo e b hw

/-- What coloured values do not lie in: it is there, it is no array of the call's own. -/
def N0OK (C : Ctx) : Prop := ∀ b, C.N0 false b → b < C.w.heap.size ∧ ∀ i I, C.A i = some I → I.val.ownBlock ≠ some b
theorem N0OK.step {C D : Ctx} (h : N0OK C) (hn : D.N0 = C.N0) (hs : C.w.heap.size ≤ D.w.heap.size) (hA : ∀ i I g, D.A i = some I → I.val.ownBlock = some g → C.w.heap.size ≤ g ∨ ∃ j J, C.A j = some J ∧ J.val.ownBlock = some g) : N0OK D := by
  intro b hb
  rw [hn] at hb
  obtain ⟨h1, h2⟩ := h b hb
  refine ⟨Nat.lt_of_lt_of_le h1 hs, fun i I hI hg => ?_⟩
  rcases hA i I b hI hg with h3 | ⟨j, J, hJ, hg2⟩
  · omega
  · exact h2 j J hJ hg2

/-- In a law's function: what is older than a time in it, and what is newer. -/
structure TopOK (base tb : Nat) (bx0 : List Nat) (C : Ctx) : Prop where
  le : base ≤ tb
  old : ∀ b, C.N0 true b ↔ tb ≤ b
  new : ∀ b, C.N0 false b ↔ b < tb
  bx0 : bx0 = []
  W : ∀ b, C.W b → tb ≤ b

structure MemOK (G : Cfg) (base : Nat) (bx0 : List Nat) (C : Ctx) (m : Mem) : Prop where
  bxlen : C.bx.length = m.boxes.length
  nodup : C.bx.Nodup
  bxlt : ∀ (k b : Nat), C.bx[k]? = some b → G.wr k = true → b ∈ bx0 ∨ base ≤ b
  le : base ≤ C.w.heap.size
  n0 : N0OK C
  box : ∀ (k b : Nat) (cs : List AV), C.bx[k]? = some b → m.boxes[k]? = some cs → ∃ cur t, C.w.heap[b]? = some (.cells cur t (0, 0)) ∧ cur.size = cs.length ∧
    ∀ (j : Nat) (c : AV) (x : Value), cs[j]? = some c → cur[j]? = some x → RV C c x
  ver : ∀ i, C.ver i = (m.arrs i).ver
  dead : ∀ i, (m.arrs i).live = false → C.A i = none
  arr : ∀ i, (m.arrs i).live = true → ∃ I xs, C.A i = some I ∧ G.csz (m.arrs i).elem = some I.size ∧ 0 < I.size ∧ I.len = (m.arrs i).es.length ∧ (∀ e ∈ (m.arrs i).es, e.length = I.size) ∧
    C.w.ownsRow 0 (m.arrs i).elem I.size I.val I.len xs ∧ ∀ (idx j : Nat) (e : List AV) (c : AV) (x : Value), (m.arrs i).es[idx]? = some e → e[j]? = some c → xs[idx * I.size + j]? = some x → RV C c x
  sep : ∀ i I g, C.A i = some I → I.val.ownBlock = some g → g ∉ C.bx ∧ ∀ j J, C.A j = some J → J.val.ownBlock = some g → j = i
  lo : ∀ i I g, C.A i = some I → I.val.ownBlock = some g → base ≤ g ∨ g ∈ bx0
  wild : WOK G.md base bx0 C
  top : G.md = 1 → ∃ tb, TopOK base tb bx0 C
  glob : GlobOK C

theorem MemOK.live {G : Cfg} {base : Nat} {bx0 : List Nat} {C : Ctx} {m : Mem} (M : MemOK G base bx0 C m) {i : Nat} {I : AInf} (h : C.A i = some I) : (m.arrs i).live = true := by
  cases hl : (m.arrs i).live with
  | true => rfl
  | false => rw [M.dead i hl] at h; cases h

/-- The block of an array: it is the call's own, and it is there. -/
theorem MemOK.own {G : Cfg} {base : Nat} {bx0 : List Nat} {C : Ctx} {m : Mem} (M : MemOK G base bx0 C m) {i : Nat} {I : AInf} {g : Nat} (h : C.A i = some I) (hg : I.val.ownBlock = some g) :
    (base ≤ g ∨ g ∈ bx0) ∧ g < C.w.heap.size := by
  obtain ⟨J, xs, hJ, _, _, _, _, ho, _⟩ := M.arr i (M.live h)
  have hJ2 := hJ
  rw [h] at hJ2
  cases hJ2
  exact ⟨M.lo i _ g hJ hg, (ho.lt g hg).2⟩

theorem MemOK.bxin {G : Cfg} {base : Nat} {bx0 : List Nat} {C : Ctx} {m : Mem} (M : MemOK G base bx0 C m) {b : Nat} (h : b ∈ C.bx) : b < C.w.heap.size := by
  obtain ⟨k, hk, rfl⟩ := List.getElem_of_mem h
  have hk2 : k < m.boxes.length := M.bxlen ▸ hk
  obtain ⟨cur, t, hc, _⟩ := M.box k _ (m.boxes[k]) (List.getElem?_eq_getElem hk) (List.getElem?_eq_getElem hk2)
  exact (Array.getElem?_eq_some_iff.1 hc).1

/-- The state after a step: a context over the new world, which keeps what was held, and holds the new memory. -/
def Nxt (G : Cfg) (base : Nat) (bx0 : List Nat) (C : Ctx) (w' : World) (m' : Mem) (R : Ctx → Prop) : Prop :=
  ∃ C' : Ctx, C'.w = w' ∧ C'.N0 = C.N0 ∧ Keeps C C' ∧ MemOK G base bx0 C' m' ∧ WExt base bx0 C.w w' ∧ R C'

/-- Nothing is written, nothing is new (a draw, perhaps). -/
theorem Nxt.still {G : Cfg} {base : Nat} {bx0 : List Nat} {C : Ctx} {m : Mem} {R : Ctx → Prop} (M : MemOK G base bx0 C m) (w' : World) (hh : w'.heap = C.w.heap) (ho : w'.os = C.w.os) (ht : w'.tape = C.w.tape) (hp : w'.output = C.w.output)
    (hR : ∀ C', Keeps C C' → C'.w = w' → C'.bx = C.bx → C'.A = C.A → C'.ver = C.ver → C'.N0 = C.N0 → R C') : Nxt G base bx0 C w' m R := by
  have K : Keeps C { C with w := w' } := ⟨by simp [hh], fun _ _ _ h => h, fun b _ _ => by simp [hh], fun _ _ h => h, fun _ => Nat.le_refl _, fun _ I h _ => ⟨I, h, rfl, rfl, rfl⟩, rfl, fun b _ _ => .of_block (by simp [hh])⟩
  refine ⟨{ C with w := w' }, rfl, rfl, K, ?_, ⟨ho, ht, hp, by simp [hh], fun k _ _ => by simp [hh]⟩, hR _ K rfl rfl rfl rfl rfl⟩
  refine ⟨M.bxlen, M.nodup, M.bxlt, by simpa [hh] using M.le, M.n0.step rfl (by simp [hh]) (fun i I g h k => .inr ⟨i, I, h, k⟩), ?_, M.ver, M.dead, ?_, M.sep, M.lo, M.wild.step rfl (fun b _ => by simp [hh]) (fun _ h => .inl h) (fun i I g h k => .inr ⟨i, I, h, k⟩), fun e => (M.top e).imp fun _ T => ⟨T.le, T.old, T.new, T.bx0, T.W⟩, M.glob.keep K⟩
  · intro k b cs h1 h2
    obtain ⟨cur, t, hc, hs, hr⟩ := M.box k b cs h1 h2
    exact ⟨cur, t, by simpa [hh] using hc, hs, fun j c x a b => (hr j c x a b).keep K⟩
  · intro i hl
    obtain ⟨I, xs, hA, hz, hp, hlen, hes, ho, hr⟩ := M.arr i hl
    exact ⟨I, xs, hA, hz, hp, hlen, hes, ho.kept (row := none) ⟨by simpa using ‹w'.os = C.w.os›, ht, by simpa using ‹w'.output = C.w.output›, by simp [hh], fun k _ _ => by simp [hh]⟩ (by cases I.val.ownBlock <;> simp),
      fun idx j e c x a b d => (hr idx j e c x a b d).keep K⟩

/-- A new block that is no box and no array of the call's own. -/
theorem Nxt.fresh {G : Cfg} {base : Nat} {bx0 : List Nat} {C : Ctx} {m : Mem} {R : Ctx → Prop} (M : MemOK G base bx0 C m) (o : Obj)
    (hR : ∀ C', Keeps C C' → C'.w = C.w.alloc o → C'.bx = C.bx → C'.A = C.A → C'.ver = C.ver → C'.N0 = C.N0 → ¬ C'.N false C.w.heap.size → R C') : Nxt G base bx0 C (C.w.alloc o) m R := by
  have K : Keeps C { C with w := C.w.alloc o } := ⟨by simp, fun _ _ _ h => h, fun b hb _ => Go.heap_alloc_old _ _ hb, fun _ _ h => h, fun _ => Nat.le_refl _, fun _ I h _ => ⟨I, h, rfl, rfl, rfl⟩, rfl, fun b hb _ => .of_block (Go.heap_alloc_old _ _ hb)⟩
  have hN : ¬ Ctx.N { C with w := C.w.alloc o } false C.w.heap.size := by
    rintro ((h | h) | h | ⟨i, I, hA, hg⟩)
    · have h1 := (M.n0 _ h).1; omega
    · have := (M.wild.soft _ h).lt; omega
    · have := M.bxin h; omega
    · have := (M.own hA hg).2; omega
  refine ⟨{ C with w := C.w.alloc o }, rfl, rfl, K, ?_, ⟨rfl, rfl, rfl, by simp, fun k hk _ => Go.heap_alloc_old _ _ (Nat.lt_of_lt_of_le hk M.le)⟩, hR _ K rfl rfl rfl rfl rfl hN⟩
  refine ⟨M.bxlen, M.nodup, M.bxlt, by have := M.le; simp; omega, M.n0.step rfl (by simp) (fun i I g h k => .inr ⟨i, I, h, k⟩), ?_, M.ver, M.dead, ?_, M.sep, M.lo, M.wild.step rfl (fun b h => Go.heap_alloc_old _ _ (M.wild.soft b h).lt) (fun _ h => .inl h) (fun i I g h k => .inr ⟨i, I, h, k⟩), fun e => (M.top e).imp fun _ T => ⟨T.le, T.old, T.new, T.bx0, T.W⟩, M.glob.keep K⟩
  · intro k b cs h1 h2
    obtain ⟨cur, t, hc, hs, hr⟩ := M.box k b cs h1 h2
    refine ⟨cur, t, ?_, hs, fun j c x a b => (hr j c x a b).keep K⟩
    show (C.w.alloc o).heap[b]? = _
    rw [Go.heap_alloc_old _ _ (M.bxin (List.mem_of_getElem? h1))]
    exact hc
  · intro i hl
    obtain ⟨I, xs, hA, hz, hp, hlen, hes, ho, hr⟩ := M.arr i hl
    exact ⟨I, xs, hA, hz, hp, hlen, hes, ho.alloc o, fun idx j e c x a b d => (hr idx j e c x a b d).keep K⟩

/-- A new box. -/
theorem Nxt.newBox {G : Cfg} {base : Nat} {bx0 : List Nat} {C : Ctx} {m : Mem} {R : Ctx → Prop} (M : MemOK G base bx0 C m) (cur : Array Value) (t : TypeId) (cs : List AV) (hs : cur.size = cs.length)
    (hr : ∀ (j : Nat) (c : AV) (x : Value), cs[j]? = some c → cur[j]? = some x → RV C c x)
    (hR : ∀ C', Keeps C C' → C'.w = C.w.alloc (.cells cur t) → C'.bx = C.bx ++ [C.w.heap.size] → R C') : Nxt G base bx0 C (C.w.alloc (.cells cur t)) { m with boxes := m.boxes ++ [cs] } R := by
  have hnew : C.w.heap.size ∉ C.bx := fun h => by have := M.bxin h; omega
  have K : Keeps C { C with w := C.w.alloc (.cells cur t), bx := C.bx ++ [C.w.heap.size] } := by
    refine ⟨by simp, ?_, fun b hb _ => Go.heap_alloc_old _ _ hb, ?_, fun _ => Nat.le_refl _, fun _ I h _ => ⟨I, h, rfl, rfl, rfl⟩, rfl, fun b hb _ => .of_block (Go.heap_alloc_old _ _ hb)⟩
    · rintro col b hb hN (h | h | h)
      · exact hN (.inl h)
      · rcases List.mem_append.1 h with h | h
        · exact hN (.inr (.inl h))
        · have : b = C.w.heap.size := by simpa using h
          omega
      · exact hN (.inr (.inr h))
    · intro k b h
      show (C.bx ++ [C.w.heap.size])[k]? = some b
      rw [List.getElem?_append_left (List.getElem?_eq_some_iff.1 h).1]
      exact h
  refine ⟨{ C with w := C.w.alloc (.cells cur t), bx := C.bx ++ [C.w.heap.size] }, rfl, rfl, K, ?_, ⟨rfl, rfl, rfl, by simp, fun k hk _ => Go.heap_alloc_old _ _ (Nat.lt_of_lt_of_le hk M.le)⟩, hR _ K rfl rfl⟩
  refine ⟨by simp [M.bxlen], ?_, ?_, by have := M.le; simp; omega, M.n0.step rfl (by simp) (fun i I g h k => .inr ⟨i, I, h, k⟩), ?_, M.ver, M.dead, ?_, ?_, M.lo, M.wild.step rfl (fun b h => Go.heap_alloc_old _ _ (M.wild.soft b h).lt) ?_ (fun i I g h k => .inr ⟨i, I, h, k⟩), fun e => (M.top e).imp fun _ T => ⟨T.le, T.old, T.new, T.bx0, T.W⟩, M.glob.keep K⟩
  · exact List.nodup_append.2 ⟨M.nodup, by simp, fun a ha b hb => by rintro rfl; have : a = C.w.heap.size := by simpa using hb
                                                                     exact hnew (this ▸ ha)⟩
  · intro k b hb hwr
    have hb' : (C.bx ++ [C.w.heap.size])[k]? = some b := hb
    rw [List.getElem?_append] at hb'
    split at hb'
    · exact M.bxlt k b hb' hwr
    · have : b = C.w.heap.size := by
        have := List.mem_of_getElem? hb'
        simpa using this
      exact .inr (this ▸ M.le)
  · intro k b cs' h1 h2
    have h1' : (C.bx ++ [C.w.heap.size])[k]? = some b := h1
    have h2' : (m.boxes ++ [cs])[k]? = some cs' := h2
    by_cases hk : k < C.bx.length
    · rw [List.getElem?_append_left hk] at h1'
      rw [List.getElem?_append_left (M.bxlen ▸ hk)] at h2'
      obtain ⟨cur', t', hc, hs', hr'⟩ := M.box k b cs' h1' h2'
      refine ⟨cur', t', ?_, hs', fun j c x a b => (hr' j c x a b).keep K⟩
      show (C.w.alloc _).heap[b]? = _
      rw [Go.heap_alloc_old _ _ (M.bxin (List.mem_of_getElem? h1'))]
      exact hc
    · rw [List.getElem?_append_right (by omega)] at h1'
      rw [List.getElem?_append_right (by have := M.bxlen; omega)] at h2'
      have hk0 : k - C.bx.length = 0 := by
        cases hz : k - C.bx.length with
        | zero => rfl
        | succ n => rw [hz] at h1'; simp at h1'
      rw [hk0] at h1'
      rw [← M.bxlen, hk0] at h2'
      simp at h1' h2'
      subst h1' h2'
      exact ⟨cur, t, Go.heap_alloc_new _ _, hs, fun j c x a b => (hr j c x a b).keep K⟩
  · intro i hl
    obtain ⟨I, xs, hA, hz, hp, hlen, hes, ho, hr'⟩ := M.arr i hl
    exact ⟨I, xs, hA, hz, hp, hlen, hes, ho.alloc _, fun idx j e c x a b d => (hr' idx j e c x a b d).keep K⟩
  · intro i I g hA hg
    obtain ⟨h1, h2⟩ := M.sep i I g hA hg
    refine ⟨fun h => ?_, h2⟩
    rcases List.mem_append.1 h with h | h
    · exact h1 h
    · have e : g = C.w.heap.size := by simpa using h
      have := (M.own hA hg).2
      omega
  · intro b h
    rcases List.mem_append.1 h with h | h
    · exact .inl h
    · have : b = C.w.heap.size := by simpa using h
      exact .inr (by omega)

/-- A box is written. -/
theorem Nxt.putBox {G : Cfg} {base : Nat} {bx0 : List Nat} {C : Ctx} {m : Mem} {R : Ctx → Prop} (M : MemOK G base bx0 C m) (k b : Nat) (cs cs' : List AV) (cur cur' : Array Value) (t : TypeId) (hb : C.bx[k]? = some b) (hwr : G.wr k = true) (hk : m.boxes[k]? = some cs)
    (hc : C.w.heap[b]? = some (.cells cur t (0, 0))) (w' : World) (ho : w'.os = C.w.os) (ht : w'.tape = C.w.tape) (hp : w'.output = C.w.output) (hsz : w'.heap.size = C.w.heap.size) (hnew : w'.heap[b]? = some (.cells cur' t (0, 0)))
    (hoth : ∀ j, j ≠ b → w'.heap[j]? = C.w.heap[j]?) (hs : cur'.size = cs'.length) (hr : ∀ (j : Nat) (c : AV) (x : Value), cs'[j]? = some c → cur'[j]? = some x → RV C c x)
    (hR : ∀ C', Keeps C C' → C'.w = w' → C'.bx = C.bx → R C') : Nxt G base bx0 C w' { m with boxes := m.boxes.set k cs' } R := by
  have hmem : b ∈ C.bx := List.mem_of_getElem? hb
  have K : Keeps C { C with w := w' } := by
    refine ⟨by simp [hsz], fun _ _ _ h => h, ?_, fun _ _ h => h, fun _ => Nat.le_refl _, fun _ I h _ => ⟨I, h, rfl, rfl, rfl⟩, rfl, fun j _ hw => .of_block (hoth j fun e => M.wild.bx j hw (e ▸ hmem))⟩
    rintro j hj ⟨col, hN⟩
    exact hoth j (fun e => hN (.inr (.inl (e ▸ hmem))))
  refine ⟨{ C with w := w' }, rfl, rfl, K, ?_, ⟨ho, ht, hp, by simp [hsz], ?_⟩, hR _ K rfl rfl⟩
  · refine ⟨by simpa using M.bxlen, M.nodup, M.bxlt, by simpa [hsz] using M.le, M.n0.step rfl (by simp [hsz]) (fun i I g h k => .inr ⟨i, I, h, k⟩), ?_, M.ver, M.dead, ?_, M.sep, M.lo, M.wild.step rfl (fun j hw => hoth j fun e => M.wild.bx j hw (e ▸ hmem)) (fun _ h => .inl h) (fun i I g h k => .inr ⟨i, I, h, k⟩), fun e => (M.top e).imp fun _ T => ⟨T.le, T.old, T.new, T.bx0, T.W⟩, M.glob.keep K⟩
    · intro q c' ds h1 h2
      have h1' : C.bx[q]? = some c' := h1
      by_cases hq : q = k
      · subst hq
        have e1 : c' = b := by rw [hb] at h1'; exact (Option.some.inj h1').symm
        have h2' : (m.boxes.set q cs')[q]? = some ds := h2
        rw [List.getElem?_set_self (List.getElem?_eq_some_iff.1 hk).1] at h2'
        cases h2'
        subst e1
        exact ⟨cur', t, hnew, hs, fun j c x a b => (hr j c x a b).keep K⟩
      · have h2' : (m.boxes.set k cs')[q]? = some ds := h2
        rw [List.getElem?_set_ne (Ne.symm hq)] at h2'
        obtain ⟨cu, tt, hcu, hss, hrr⟩ := M.box q c' ds h1' h2'
        have hne : c' ≠ b := by
          intro e
          subst e
          have l1 := List.getElem?_eq_some_iff.1 h1'
          have l2 := List.getElem?_eq_some_iff.1 hb
          exact hq ((List.getElem_inj M.nodup).1 (l1.2.trans l2.2.symm))
        exact ⟨cu, tt, (hoth c' hne).trans hcu, hss, fun j c x a b => (hrr j c x a b).keep K⟩
    · intro i hl
      obtain ⟨I, xs, hA, hz, hpp, hlen, hes, hown, hrr⟩ := M.arr i hl
      refine ⟨I, xs, hA, hz, hpp, hlen, hes, ?_, fun idx j e c x a b d => (hrr idx j e c x a b d).keep K⟩
      refine hown.kept (row := some b) ⟨ho, ht, hp, by simp [hsz], fun k _ hk => hoth k (fun e => hk (by rw [e]))⟩ (.inr ?_)
      intro e
      exact (M.sep i I b hA e).1 hmem
  · intro j hj hn
    refine hoth j (fun e => ?_)
    subst e
    rcases M.bxlt k j hb hwr with h | h
    · exact hn h
    · omega

/-- A cell of the wild region is written: a value of the kind that was there. -/
theorem Nxt.putWild {G : Cfg} {base : Nat} {bx0 : List Nat} {C : Ctx} {m : Mem} (M : MemOK G base bx0 C m) (hmd : G.md = 2) (b off : Nat) (hW : C.W b) (cur : Array Value) (t : TypeId) (hc : C.w.heap[b]? = some (.cells cur t (0, 0))) (x y : Value) (hx : cur[off]? = some x) (hk : sameK x y) :
    Nxt G base bx0 C (C.w.setRow b (cur.setIfInBounds off y)) m fun _ => True := by
  have hnew : (C.w.setRow b (cur.setIfInBounds off y)).heap[b]? = some (.cells (cur.setIfInBounds off y) t (0, 0)) := setRow_heap C.w b cur _ t (0, 0) hc
  have hoth : ∀ j, j ≠ b → (C.w.setRow b (cur.setIfInBounds off y)).heap[j]? = C.w.heap[j]? := fun j hj => setRow_other C.w b j _ hj
  have hsz : (C.w.setRow b (cur.setIfInBounds off y)).heap.size = C.w.heap.size := by simp [World.setRow]
  have hsame : SameCells C.w (C.w.setRow b (cur.setIfInBounds off y)) b := by
    intro o z hz
    rw [cell_of_row C.w b o cur t _ hc] at hz
    rw [cell_of_row _ b o _ t _ hnew, Array.getElem?_setIfInBounds]
    by_cases ho : off = o
    · subst ho
      rw [hx] at hz
      cases hz
      refine ⟨y, ?_, .inr hk⟩
      rw [if_pos rfl, if_pos (Array.getElem?_eq_some_iff.1 hx).1]
    · rw [if_neg ho]
      exact ⟨z, hz, .inl rfl⟩
  have K : Keeps C { C with w := C.w.setRow b (cur.setIfInBounds off y) } := by
    refine ⟨by simp [hsz], fun _ _ _ h => h, ?_, fun _ _ h => h, fun _ => Nat.le_refl _, fun _ I h _ => ⟨I, h, rfl, rfl, rfl⟩, rfl, ?_⟩
    · rintro j hj ⟨col, hN⟩
      exact hoth j (fun e => hN (.inl (.inr (e ▸ hW))))
    · intro j _ hw
      by_cases hj : j = b
      · subst hj; exact hsame
      · exact .of_block (hoth j hj)
  have hne : ∀ i I, C.A i = some I → I.val.ownBlock ≠ some b := fun i I h => M.wild.own b i I hW h
  refine ⟨{ C with w := C.w.setRow b (cur.setIfInBounds off y) }, rfl, rfl, K, ?_, ⟨rfl, rfl, rfl, by simp [hsz], ?_⟩, trivial⟩
  · refine ⟨M.bxlen, M.nodup, M.bxlt, by simpa [hsz] using M.le, M.n0.step rfl (by simp [hsz]) (fun i I g h k => .inr ⟨i, I, h, k⟩), ?_, M.ver, M.dead, ?_, M.sep, M.lo, ⟨?_, M.wild.bx, M.wild.own, M.wild.lo⟩, fun e => (M.top e).imp fun _ T => ⟨T.le, T.old, T.new, T.bx0, T.W⟩, M.glob.keep K⟩
    · intro k b' cs h1 h2
      obtain ⟨cu, tt, hcu, hss, hrr⟩ := M.box k b' cs h1 h2
      exact ⟨cu, tt, (hoth b' (fun e => M.wild.bx b hW (e ▸ List.mem_of_getElem? h1))).trans hcu, hss, fun j c x a b => (hrr j c x a b).keep K⟩
    · intro i hl
      obtain ⟨I, xs, hA, hz, hpp, hlen, hes, hown, hrr⟩ := M.arr i hl
      refine ⟨I, xs, hA, hz, hpp, hlen, hes, ?_, fun idx j e c x a b d => (hrr idx j e c x a b d).keep K⟩
      exact hown.kept (row := some b) ⟨rfl, rfl, rfl, by simp [hsz], fun k _ hk => hoth k (fun e => hk (by rw [e]))⟩ (.inr (hne i I hA))
    · intro j hw
      by_cases hj : j = b
      · subst hj; exact ⟨_, _, hnew⟩
      · exact (M.wild.soft j hw).of_block (hoth j hj)
  · intro j hj hn
    refine hoth j (fun e => ?_)
    subst e
    rcases M.wild.lo hmd j hW with h | h
    · omega
    · exact hn h

end Go.Proofs.YtokhnmchnfkiiaaDoor.Am

/- The abstract machine: the changes of the call's own arrays. No conditions. -/
namespace Go.Proofs.YtokhnmchnfkiiaaDoor.Am
open Go Go.RowKit
set_option linter.unusedSimpArgs false
set_option linter.unusedVariables false

/-- The array at place i is now another one (a new one, a longer one, a shorter one). -/
theorem Nxt.setArrW {G : Cfg} {base : Nat} {bx0 : List Nat} {C : Ctx} {m : Mem} {R : Ctx → Prop} (M : MemOK G base bx0 C m) (i : Nat) (w' : World) (row : Option Nat) (hg : C.w.grownBy w' row)
    (hrow : ∀ g, row = some g → ∃ I, C.A i = some I ∧ I.val.ownBlock = some g) (I : AInf) (xs : List Value) (e : TypeId) (es : List (List AV)) (hz : G.csz e = some I.size) (hp : 0 < I.size) (hlen : I.len = es.length)
    (hes : ∀ r ∈ es, r.length = I.size) (ho : w'.ownsRow 0 e I.size I.val I.len xs)
    (hblk : ∀ g, I.val.ownBlock = some g → C.w.heap.size ≤ g ∨ ∃ J, C.A i = some J ∧ J.val.ownBlock = some g)
    (hr : ∀ E, Keeps C E → E.w = w' → E.bx = C.bx → E.N0 = C.N0 → (∀ j J, E.A j = some J → (j ≠ i ∧ C.A j = some J) ∨ (j = i ∧ J = I)) → ∀ (idx j : Nat) (r : List AV) (c : AV) (x : Value), es[idx]? = some r → r[j]? = some c → xs[idx * I.size + j]? = some x → RV E c x)
    (hR : ∀ E, Keeps C E → E.w = w' → E.bx = C.bx → E.N0 = C.N0 → (∀ j J, E.A j = some J → (j ≠ i ∧ C.A j = some J) ∨ (j = i ∧ J = I)) → E.A i = some I → E.ver i = C.ver i + 1 → R E) :
    Nxt G base bx0 C w' { m with arrs := fun j => if j = i then ⟨(m.arrs i).ver + 1, true, e, es⟩ else m.arrs j } R := by
  have hN : ∀ b, b < C.w.heap.size → ∀ col, Ctx.N { C with w := w', ver := fun j => if j = i then C.ver i + 1 else C.ver j, A := fun j => if j = i then some I else C.A j } col b → C.N col b := by
    rintro b hb col (h | h | ⟨j, J, hA, hgb⟩)
    · exact .inl h
    · exact .inr (.inl h)
    · by_cases hj : j = i
      · have hA' : (if j = i then some I else C.A j) = some J := hA
        rw [if_pos hj] at hA'
        cases hA'
        rcases hblk b hgb with h | ⟨J, hJ, hJb⟩
        · omega
        · exact .inr (.inr ⟨i, J, hJ, hJb⟩)
      · have hA' : (if j = i then some I else C.A j) = some J := hA
        rw [if_neg hj] at hA'
        exact .inr (.inr ⟨j, J, hA', hgb⟩)
  have hwb : ∀ b, C.W b → w'.heap[b]? = C.w.heap[b]? := fun b hw => hg.block b (M.wild.soft b hw).lt (fun h => by
    obtain ⟨J, hJ, hJb⟩ := hrow b h.symm
    exact M.wild.own b i J hw hJ hJb)
  have K : Keeps C { C with w := w', ver := fun j => if j = i then C.ver i + 1 else C.ver j, A := fun j => if j = i then some I else C.A j } := by
    refine ⟨hg.size, fun col b hb hn h => hn (hN b hb col h), ?_, fun _ _ h => h, ?_, ?_, rfl, fun b hb hw => .of_block (hwb b hw)⟩
    · rintro b hb ⟨col, hn⟩
      refine hg.block b hb (fun h => hn ?_)
      obtain ⟨J, hJ, hJb⟩ := hrow b h.symm
      exact .inr (.inr ⟨i, J, hJ, hJb⟩)
    · intro j
      show C.ver j ≤ if j = i then C.ver i + 1 else C.ver j
      split
      · rename_i h; subst h; omega
      · exact Nat.le_refl _
    · intro j J hJ hv
      have hJ' : (if j = i then some I else C.A j) = some J := hJ
      have hv' : (if j = i then C.ver i + 1 else C.ver j) = C.ver j := hv
      by_cases hj : j = i
      · rw [if_pos hj] at hv'
        subst hj
        omega
      · rw [if_neg hj] at hJ'
        exact ⟨J, hJ', rfl, rfl, rfl⟩
  have hAc : ∀ j J, (if j = i then some I else C.A j) = some J → (j ≠ i ∧ C.A j = some J) ∨ (j = i ∧ J = I) := by
    intro j J h
    by_cases hj : j = i
    · rw [if_pos hj] at h; cases h; exact .inr ⟨hj, rfl⟩
    · rw [if_neg hj] at h; exact .inl ⟨hj, h⟩
  have hAA : ∀ j J g, (if j = i then some I else C.A j) = some J → J.val.ownBlock = some g → C.w.heap.size ≤ g ∨ ∃ j J, C.A j = some J ∧ J.val.ownBlock = some g := by
    intro j J g hA' hgb
    by_cases hj : j = i
    · rw [if_pos hj] at hA'
      cases hA'
      rcases hblk g hgb with h | ⟨J, hJ, hJb⟩
      · exact .inl h
      · exact .inr ⟨i, J, hJ, hJb⟩
    · rw [if_neg hj] at hA'
      exact .inr ⟨j, J, hA', hgb⟩
  have hold : ∀ b, b < C.w.heap.size → (row = none ∨ ∀ g, row = some g → g ≠ b) → w'.heap[b]? = C.w.heap[b]? := by
    intro b hb h
    refine hg.block b hb (fun e => ?_)
    rcases h with h | h
    · rw [h] at e; cases e
    · exact h b e.symm rfl
  refine ⟨{ C with w := w', ver := fun j => if j = i then C.ver i + 1 else C.ver j, A := fun j => if j = i then some I else C.A j }, rfl, rfl, K, ?_, ⟨hg.os, hg.tape, hg.output, hg.size, ?_⟩, hR _ K rfl rfl rfl hAc (if_pos rfl) (if_pos rfl)⟩
  · refine ⟨M.bxlen, M.nodup, M.bxlt, Nat.le_trans M.le hg.size, M.n0.step rfl hg.size hAA, ?_, ?_, ?_, ?_, ?_, ?_, M.wild.step rfl hwb (fun _ h => .inl h) hAA, fun e => (M.top e).imp fun _ T => ⟨T.le, T.old, T.new, T.bx0, T.W⟩, M.glob.keep K⟩
    · intro k b cs h1 h2
      obtain ⟨cur, t, hc, hs, hrr⟩ := M.box k b cs h1 h2
      refine ⟨cur, t, ?_, hs, fun j c x a b => (hrr j c x a b).keep K⟩
      have hmem : b ∈ C.bx := List.mem_of_getElem? h1
      refine (hold b (M.bxin hmem) (.inr ?_)).trans hc
      intro g hgr e
      obtain ⟨J, hJ, hJb⟩ := hrow g hgr
      exact (M.sep i J g hJ hJb).1 (e ▸ hmem)
    · intro j
      show (if j = i then C.ver i + 1 else C.ver j) = (if j = i then (⟨(m.arrs i).ver + 1, true, e, es⟩ : ArrSt) else m.arrs j).ver
      split
      · rw [M.ver i]
      · exact M.ver j
    · intro j hl
      have hl' : (if j = i then (⟨(m.arrs i).ver + 1, true, e, es⟩ : ArrSt) else m.arrs j).live = false := hl
      show (if j = i then some I else C.A j) = none
      by_cases hj : j = i
      · rw [if_pos hj] at hl'; cases hl'
      · rw [if_neg hj] at hl' ⊢; exact M.dead j hl'
    · intro j hl
      have hl' : (if j = i then (⟨(m.arrs i).ver + 1, true, e, es⟩ : ArrSt) else m.arrs j).live = true := hl
      by_cases hj : j = i
      · subst hj
        refine ⟨I, xs, if_pos rfl, ?_⟩
        simp only [if_true]
        exact ⟨hz, hp, hlen, hes, ho, fun idx q r c x a b d => hr _ K rfl rfl rfl hAc idx q r c x a b d⟩
      · rw [if_neg hj] at hl'
        obtain ⟨J, ys, hJ, h1, h2, h3, h4, h5, h6⟩ := M.arr j hl'
        refine ⟨J, ys, (if_neg hj).trans hJ, ?_⟩
        simp only [if_neg hj]
        refine ⟨h1, h2, h3, h4, ?_, fun idx q r c x a b d => (h6 idx q r c x a b d).keep K⟩
        refine h5.kept hg ?_
        cases hb : J.val.ownBlock with
        | none => exact .inl rfl
        | some g =>
          refine .inr (fun e' => ?_)
          obtain ⟨J2, hJ2, hJ2b⟩ := hrow g e'.symm
          exact hj ((M.sep i J2 g hJ2 hJ2b).2 j J hJ hb)
    · intro j J g hA hgb
      have hA' : (if j = i then some I else C.A j) = some J := hA
      have oldblk : ∀ q Q, C.A q = some Q → Q.val.ownBlock = some g → g < C.w.heap.size := fun q Q hq hqb => (M.own hq hqb).2
      by_cases hj : j = i
      · rw [if_pos hj] at hA'
        cases hA'
        refine ⟨?_, ?_⟩
        · intro hmem
          rcases hblk g hgb with h | ⟨J, hJ, hJb⟩
          · have := M.bxin hmem; omega
          · exact (M.sep i J g hJ hJb).1 hmem
        · intro q Q hq hqb
          have hq' : (if q = i then some I else C.A q) = some Q := hq
          by_cases hqi : q = i
          · rw [hqi, hj]
          · rw [if_neg hqi] at hq'
            rcases hblk g hgb with h | ⟨J, hJ, hJb⟩
            · have := oldblk q Q hq' hqb; omega
            · rw [hj]; exact (M.sep i J g hJ hJb).2 q Q hq' hqb
      · rw [if_neg hj] at hA'
        obtain ⟨s1, s2⟩ := M.sep j J g hA' hgb
        refine ⟨s1, ?_⟩
        intro q Q hq hqb
        have hq' : (if q = i then some I else C.A q) = some Q := hq
        by_cases hqi : q = i
        · rw [if_pos hqi] at hq'
          cases hq'
          rcases hblk g hqb with h | ⟨J2, hJ2, hJ2b⟩
          · have := oldblk j J hA' hgb; omega
          · rw [hqi]; exact s2 i J2 hJ2 hJ2b
        · rw [if_neg hqi] at hq'
          exact s2 q Q hq' hqb
    · intro j J g hA hgb
      have hA' : (if j = i then some I else C.A j) = some J := hA
      by_cases hj : j = i
      · rw [if_pos hj] at hA'
        cases hA'
        rcases hblk g hgb with h | ⟨J, hJ, hJb⟩
        · exact .inl (Nat.le_trans M.le h)
        · exact M.lo i J g hJ hJb
      · rw [if_neg hj] at hA'
        exact M.lo j J g hA' hgb
  · intro k hk hn
    refine hold k (Nat.lt_of_lt_of_le hk M.le) (.inr ?_)
    intro g hgr e
    obtain ⟨J, hJ, hJb⟩ := hrow g hgr
    rcases (M.own hJ hJb).1 with h | h
    · omega
    · exact hn (e ▸ h)

/-- The array at place i is now another one (a new one, a longer one, a shorter one). -/
theorem Nxt.setArr {G : Cfg} {base : Nat} {bx0 : List Nat} {C : Ctx} {m : Mem} {R : Ctx → Prop} (M : MemOK G base bx0 C m) (i : Nat) (w' : World) (row : Option Nat) (hg : C.w.grownBy w' row)
    (hrow : ∀ g, row = some g → ∃ I, C.A i = some I ∧ I.val.ownBlock = some g) (I : AInf) (xs : List Value) (e : TypeId) (es : List (List AV)) (hz : G.csz e = some I.size) (hp : 0 < I.size) (hlen : I.len = es.length)
    (hes : ∀ r ∈ es, r.length = I.size) (ho : w'.ownsRow 0 e I.size I.val I.len xs)
    (hblk : ∀ g, I.val.ownBlock = some g → C.w.heap.size ≤ g ∨ ∃ J, C.A i = some J ∧ J.val.ownBlock = some g)
    (hr : ∀ (idx j : Nat) (r : List AV) (c : AV) (x : Value), es[idx]? = some r → r[j]? = some c → xs[idx * I.size + j]? = some x → RV C c x)
    (hR : ∀ C', Keeps C C' → C'.w = w' → C'.bx = C.bx → C'.A i = some I → C'.ver i = C.ver i + 1 → R C') :
    Nxt G base bx0 C w' { m with arrs := fun j => if j = i then ⟨(m.arrs i).ver + 1, true, e, es⟩ else m.arrs j } R :=
  Nxt.setArrW M i w' row hg hrow I xs e es hz hp hlen hes ho hblk (fun _ K _ _ _ _ idx j r c x a b d => (hr idx j r c x a b d).keep K) fun E K a b _ _ c d => hR E K a b c d

/-- An array is from now on read alone: it is no array of the call's own any more. -/
theorem Nxt.sealed {G : Cfg} {base : Nat} {bx0 : List Nat} {C : Ctx} {m : Mem} {R : Ctx → Prop} (M : MemOK G base bx0 C m) (i : Nat)
    (hR : ∀ C', Keeps C C' → C'.w = C.w → C'.bx = C.bx → (∀ g I, C.A i = some I → I.val.ownBlock = some g → ¬ C'.N false g) → (∀ j, j ≠ i → C'.A j = C.A j) → C'.ver = C.ver → R C') :
    Nxt G base bx0 C C.w { m with arrs := fun j => if j = i then { m.arrs i with live := false } else m.arrs j } R := by
  have hAi : ∀ j J, (if j = i then none else C.A j) = some J → C.A j = some J ∧ j ≠ i := by
    intro j J h
    by_cases hj : j = i
    · rw [if_pos hj] at h; cases h
    · rw [if_neg hj] at h; exact ⟨h, hj⟩
  have K : Keeps C { C with A := fun j => if j = i then none else C.A j } := by
    refine ⟨Nat.le_refl _, ?_, fun _ _ _ => rfl, fun _ _ h => h, fun _ => Nat.le_refl _, fun j J h _ => ⟨J, (hAi j J h).1, rfl, rfl, rfl⟩, rfl, fun _ _ _ => .of_block rfl⟩
    rintro col b hb hn (h | h | ⟨j, J, hA, hg⟩)
    · exact hn (.inl h)
    · exact hn (.inr (.inl h))
    · exact hn (.inr (.inr ⟨j, J, (hAi j J hA).1, hg⟩))
  refine ⟨{ C with A := fun j => if j = i then none else C.A j }, rfl, rfl, K, ?_, WExt.refl _ _ _, hR _ K rfl rfl ?_ (fun j hj => if_neg hj) rfl⟩
  · refine ⟨M.bxlen, M.nodup, M.bxlt, M.le, M.n0.step rfl (Nat.le_refl _) (fun j J g h k => .inr ⟨j, J, (hAi j J h).1, k⟩), ?_, ?_, ?_, ?_, ?_, ?_, M.wild.step rfl (fun _ _ => rfl) (fun _ h => .inl h) (fun j J g h k => .inr ⟨j, J, (hAi j J h).1, k⟩), fun e => (M.top e).imp fun _ T => ⟨T.le, T.old, T.new, T.bx0, T.W⟩, M.glob.keep K⟩
    · intro k b cs h1 h2
      obtain ⟨cur, t, hc, hs, hr⟩ := M.box k b cs h1 h2
      exact ⟨cur, t, hc, hs, fun j c x a b => (hr j c x a b).keep K⟩
    · intro j
      show C.ver j = (if j = i then { m.arrs i with live := false } else m.arrs j).ver
      split
      · rename_i h; subst h; exact M.ver j
      · exact M.ver j
    · intro j hl
      show (if j = i then none else C.A j) = none
      by_cases hj : j = i
      · rw [if_pos hj]
      · rw [if_neg hj]
        have hl' : (if j = i then { m.arrs i with live := false } else m.arrs j).live = false := hl
        rw [if_neg hj] at hl'
        exact M.dead j hl'
    · intro j hl
      have hl' : (if j = i then { m.arrs i with live := false } else m.arrs j).live = true := hl
      by_cases hj : j = i
      · rw [if_pos hj] at hl'; cases hl'
      · rw [if_neg hj] at hl'
        obtain ⟨J, ys, hJ, h1, h2, h3, h4, h5, h6⟩ := M.arr j hl'
        refine ⟨J, ys, (if_neg hj).trans hJ, ?_⟩
        simp only [if_neg hj]
        exact ⟨h1, h2, h3, h4, h5, fun idx q r c x a b d => (h6 idx q r c x a b d).keep K⟩
    · intro j J g hA hg
      obtain ⟨hA', hj⟩ := hAi j J hA
      obtain ⟨s1, s2⟩ := M.sep j J g hA' hg
      exact ⟨s1, fun q Q hq hqb => s2 q Q (hAi q Q hq).1 hqb⟩
    · intro j J g hA hg
      exact M.lo j J g (hAi j J hA).1 hg
  · rintro g I hI hg ((h | h) | h | ⟨j, J, hA, hgj⟩)
    · exact (M.n0 _ h).2 i I hI hg
    · exact M.wild.own g i I h hI hg
    · exact (M.sep i I g hI hg).1 h
    · obtain ⟨hA', hj⟩ := hAi j J hA
      exact hj ((M.sep i I g hI hg).2 j J hA' hgj)

/-- A cell of an array of the call's own is written. -/
theorem Nxt.putElW {G : Cfg} {base : Nat} {bx0 : List Nat} {C : Ctx} {m : Mem} {R : Ctx → Prop} (M : MemOK G base bx0 C m) (i : Nat) (I : AInf) (hI : C.A i = some I) (w' : World) (hg : C.w.grownBy w' I.val.ownBlock) (xs : List Value) (es : List (List AV))
    (hlen : I.len = es.length) (hes : ∀ r ∈ es, r.length = I.size) (ho : w'.ownsRow 0 (m.arrs i).elem I.size I.val I.len xs)
    (hr : ∀ E, Keeps C E → E.w = w' → E.bx = C.bx → E.N0 = C.N0 → E.A = C.A → ∀ (idx j : Nat) (r : List AV) (c : AV) (x : Value), es[idx]? = some r → r[j]? = some c → xs[idx * I.size + j]? = some x → RV E c x)
    (hR : ∀ E, Keeps C E → E.w = w' → E.bx = C.bx → E.N0 = C.N0 → E.A = C.A → E.ver = C.ver → R E) :
    Nxt G base bx0 C w' { m with arrs := fun j => if j = i then { m.arrs i with es := es } else m.arrs j } R := by
  have hl := M.live hI
  obtain ⟨I', xs', hI', hz, hp, _, _, _, _⟩ := M.arr i hl
  rw [hI] at hI'
  cases hI'
  have K : Keeps C { C with w := w' } := by
    refine ⟨hg.size, fun _ _ _ h => h, ?_, fun _ _ h => h, fun _ => Nat.le_refl _, fun _ J h _ => ⟨J, h, rfl, rfl, rfl⟩, rfl, fun b hb hw => .of_block (hg.block b hb fun e => M.wild.own b i I hw hI e.symm)⟩
    rintro b hb ⟨col, hn⟩
    exact hg.block b hb (fun e => hn (.inr (.inr ⟨i, I, hI, e.symm⟩)))
  refine ⟨{ C with w := w' }, rfl, rfl, K, ?_, ⟨hg.os, hg.tape, hg.output, hg.size, ?_⟩, hR _ K rfl rfl rfl rfl rfl⟩
  · refine ⟨M.bxlen, M.nodup, M.bxlt, Nat.le_trans M.le hg.size, M.n0.step rfl hg.size (fun j J g h k => .inr ⟨j, J, h, k⟩), ?_, ?_, ?_, ?_, M.sep, M.lo, M.wild.step rfl (fun b hw => hg.block b (M.wild.soft b hw).lt fun e => M.wild.own b i I hw hI e.symm) (fun _ h => .inl h) (fun j J g h k => .inr ⟨j, J, h, k⟩), fun e => (M.top e).imp fun _ T => ⟨T.le, T.old, T.new, T.bx0, T.W⟩, M.glob.keep K⟩
    · intro k b cs h1 h2
      obtain ⟨cur, t, hc, hs, hrr⟩ := M.box k b cs h1 h2
      have hmem : b ∈ C.bx := List.mem_of_getElem? h1
      exact ⟨cur, t, (hg.block b (M.bxin hmem) (fun e => (M.sep i I b hI e.symm).1 hmem)).trans hc, hs, fun j c x a b => (hrr j c x a b).keep K⟩
    · intro j
      show C.ver j = (if j = i then { m.arrs i with es := es } else m.arrs j).ver
      split
      · rename_i h; subst h; exact M.ver j
      · exact M.ver j
    · intro j hl'
      have h' : (if j = i then { m.arrs i with es := es } else m.arrs j).live = false := hl'
      by_cases hj : j = i
      · subst hj; rw [if_pos rfl] at h'; exact M.dead j h'
      · rw [if_neg hj] at h'; exact M.dead j h'
    · intro j hl'
      have h' : (if j = i then { m.arrs i with es := es } else m.arrs j).live = true := hl'
      by_cases hj : j = i
      · subst hj
        refine ⟨I, xs, hI, ?_⟩
        simp only [if_true]
        exact ⟨hz, hp, hlen, hes, ho, fun idx q r c x a b d => hr _ K rfl rfl rfl rfl idx q r c x a b d⟩
      · rw [if_neg hj] at h'
        obtain ⟨J, ys, hJ, h1, h2, h3, h4, h5, h6⟩ := M.arr j h'
        refine ⟨J, ys, hJ, ?_⟩
        simp only [if_neg hj]
        refine ⟨h1, h2, h3, h4, ?_, fun idx q r c x a b d => (h6 idx q r c x a b d).keep K⟩
        refine h5.kept hg ?_
        cases hb : J.val.ownBlock with
        | none => exact .inl rfl
        | some g =>
          refine .inr (fun e' => ?_)
          exact hj ((M.sep i I g hI e'.symm).2 j J hJ hb)
  · intro k hk hn
    refine hg.block k (Nat.lt_of_lt_of_le hk M.le) (fun e => ?_)
    rcases (M.own hI e.symm).1 with h | h
    · omega
    · exact hn h

/-- A cell of an array of the call's own is written. -/
theorem Nxt.putEl {G : Cfg} {base : Nat} {bx0 : List Nat} {C : Ctx} {m : Mem} {R : Ctx → Prop} (M : MemOK G base bx0 C m) (i : Nat) (I : AInf) (hI : C.A i = some I) (w' : World) (hg : C.w.grownBy w' I.val.ownBlock) (xs : List Value) (es : List (List AV))
    (hlen : I.len = es.length) (hes : ∀ r ∈ es, r.length = I.size) (ho : w'.ownsRow 0 (m.arrs i).elem I.size I.val I.len xs)
    (hr : ∀ (idx j : Nat) (r : List AV) (c : AV) (x : Value), es[idx]? = some r → r[j]? = some c → xs[idx * I.size + j]? = some x → RV C c x)
    (hR : ∀ C', Keeps C C' → C'.w = w' → C'.bx = C.bx → R C') :
    Nxt G base bx0 C w' { m with arrs := fun j => if j = i then { m.arrs i with es := es } else m.arrs j } R :=
  Nxt.putElW M i I hI w' hg xs es hlen hes ho (fun _ K _ _ _ _ idx j r c x a b d => (hr idx j r c x a b d).keep K) fun E K a b _ _ _ => hR E K a b

/-- An array is let go, its block written. -/
theorem Nxt.dropArr {G : Cfg} {base : Nat} {bx0 : List Nat} {C : Ctx} {m : Mem} {R : Ctx → Prop} (M : MemOK G base bx0 C m) (i : Nat) (I : AInf) (hI : C.A i = some I) (w' : World) (hg : C.w.grownBy w' I.val.ownBlock)
    (hR : ∀ E, Keeps C E → E.w = w' → E.bx = C.bx → E.N0 = C.N0 → (∀ j J, E.A j = some J → j ≠ i ∧ C.A j = some J) → E.ver = C.ver → R E) :
    Nxt G base bx0 C w' { m with arrs := fun j => if j = i then { m.arrs i with live := false } else m.arrs j } R := by
  have hAi : ∀ j J, (if j = i then none else C.A j) = some J → j ≠ i ∧ C.A j = some J := by
    intro j J h
    by_cases hj : j = i
    · rw [if_pos hj] at h; cases h
    · rw [if_neg hj] at h; exact ⟨hj, h⟩
  have K : Keeps C { C with w := w', A := fun j => if j = i then none else C.A j } := by
    refine ⟨hg.size, ?_, ?_, fun _ _ h => h, fun _ => Nat.le_refl _, fun j J h _ => ⟨J, (hAi j J h).2, rfl, rfl, rfl⟩, rfl, fun b hb hw => .of_block (hg.block b hb fun e => M.wild.own b i I hw hI e.symm)⟩
    · rintro col b hb hn (h | h | ⟨j, J, hA, hgb⟩)
      · exact hn (.inl h)
      · exact hn (.inr (.inl h))
      · exact hn (.inr (.inr ⟨j, J, (hAi j J hA).2, hgb⟩))
    · rintro b hb ⟨col, hn⟩
      exact hg.block b hb (fun e => hn (.inr (.inr ⟨i, I, hI, e.symm⟩)))
  refine ⟨{ C with w := w', A := fun j => if j = i then none else C.A j }, rfl, rfl, K, ?_, ⟨hg.os, hg.tape, hg.output, hg.size, ?_⟩, hR _ K rfl rfl rfl hAi rfl⟩
  · refine ⟨M.bxlen, M.nodup, M.bxlt, Nat.le_trans M.le hg.size, M.n0.step rfl hg.size (fun j J g h k => .inr ⟨j, J, (hAi j J h).2, k⟩), ?_, ?_, ?_, ?_, ?_, ?_, M.wild.step rfl (fun b hw => hg.block b (M.wild.soft b hw).lt fun e => M.wild.own b i I hw hI e.symm) (fun _ h => .inl h) (fun j J g h k => .inr ⟨j, J, (hAi j J h).2, k⟩), fun e => (M.top e).imp fun _ T => ⟨T.le, T.old, T.new, T.bx0, T.W⟩, M.glob.keep K⟩
    · intro k b cs h1 h2
      obtain ⟨cur, t, hc, hs, hrr⟩ := M.box k b cs h1 h2
      have hmem : b ∈ C.bx := List.mem_of_getElem? h1
      exact ⟨cur, t, (hg.block b (M.bxin hmem) (fun e => (M.sep i I b hI e.symm).1 hmem)).trans hc, hs, fun j c x a b => (hrr j c x a b).keep K⟩
    · intro j
      show C.ver j = (if j = i then { m.arrs i with live := false } else m.arrs j).ver
      split
      · rename_i h; subst h; exact M.ver j
      · exact M.ver j
    · intro j hl
      show (if j = i then none else C.A j) = none
      by_cases hj : j = i
      · rw [if_pos hj]
      · rw [if_neg hj]
        have hl' : (if j = i then { m.arrs i with live := false } else m.arrs j).live = false := hl
        rw [if_neg hj] at hl'
        exact M.dead j hl'
    · intro j hl
      have hl' : (if j = i then { m.arrs i with live := false } else m.arrs j).live = true := hl
      by_cases hj : j = i
      · rw [if_pos hj] at hl'; cases hl'
      · rw [if_neg hj] at hl'
        obtain ⟨J, ys, hJ, h1, h2, h3, h4, h5, h6⟩ := M.arr j hl'
        refine ⟨J, ys, (if_neg hj).trans hJ, ?_⟩
        simp only [if_neg hj]
        refine ⟨h1, h2, h3, h4, h5.kept hg ?_, fun idx q r c x a b d => (h6 idx q r c x a b d).keep K⟩
        cases hb : J.val.ownBlock with
        | none => exact .inl rfl
        | some g =>
          refine .inr (fun e' => ?_)
          exact hj ((M.sep i I g hI e'.symm).2 j J hJ hb)
    · intro j J g hA hgb
      obtain ⟨hj, hA'⟩ := hAi j J hA
      obtain ⟨s1, s2⟩ := M.sep j J g hA' hgb
      exact ⟨s1, fun q Q hq hqb => s2 q Q (hAi q Q hq).2 hqb⟩
    · intro j J g hA hgb
      exact M.lo j J g (hAi j J hA).2 hgb
  · intro k hk hn
    refine hg.block k (Nat.lt_of_lt_of_le hk M.le) (fun e => ?_)
    rcases (M.own hI e.symm).1 with h | h
    · omega
    · exact hn h

end Go.Proofs.YtokhnmchnfkiiaaDoor.Am
