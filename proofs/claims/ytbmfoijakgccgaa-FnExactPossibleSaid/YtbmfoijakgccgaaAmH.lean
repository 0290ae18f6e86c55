/- The abstract machine: arrays that are stored somewhere, parts of slices, strings of bytes. No conditions. -/
import Derived.Test.YtbmfoijakgccgaaAmG
namespace Go.Proofs.Ytbmfoijakgccgaa.Am
open Go Go.RowKit
set_option linter.unusedSimpArgs false
set_option linter.unusedVariables false

theorem Keeps.trans {C D E : Ctx} (h : Keeps C D) (k : Keeps D E) : Keeps C E := by
  refine ⟨Nat.le_trans h.size k.size, fun col b hb hn => k.N col b (Nat.lt_of_lt_of_le hb h.size) (h.N col b hb hn), ?_, fun q b hb => k.bx q b (h.bx q b hb), fun i => Nat.le_trans (h.ver i) (k.ver i), ?_⟩
  · rintro b hb ⟨col, hn⟩
    exact (k.block b (Nat.lt_of_lt_of_le hb h.size) ⟨col, h.N col b hb hn⟩).trans (h.block b hb ⟨col, hn⟩)
  · intro i I hI hv
    have h1 := h.ver i
    have h2 := k.ver i
    obtain ⟨J, hJ, e1, e2, e3⟩ := k.A i I hI (by omega)
    obtain ⟨L, hL, f1, f2, f3⟩ := h.A i J hJ (by omega)
    exact ⟨L, hL, f1.trans e1, f2.trans e2, f3.trans e3⟩

theorem Nxt.bind {G : Cfg} {base : Nat} {bx0 : List Nat} {C : Ctx} {w1 w2 : World} {m1 m2 : Mem} {R R' : Ctx → Prop} (h : Nxt G base bx0 C w1 m1 R)
    (k : ∀ C1, C1.w = w1 → C1.N0 = C.N0 → Keeps C C1 → MemOK G base bx0 C1 m1 → R C1 → Nxt G base bx0 C1 w2 m2 R') : Nxt G base bx0 C w2 m2 R' := by
  obtain ⟨C1, hw, hn, K, M, W, hR⟩ := h
  obtain ⟨C2, hw2, hn2, K2, M2, W2, hR2⟩ := k C1 hw hn K M hR
  exact ⟨C2, hw2, hn2.trans hn, K.trans K2, M2, W.trans (hw ▸ W2), hR2⟩

theorem Nxt.mono {G : Cfg} {base : Nat} {bx0 : List Nat} {C : Ctx} {w1 : World} {m1 : Mem} {R R' : Ctx → Prop} (h : Nxt G base bx0 C w1 m1 R) (k : ∀ C1, C1.w = w1 → Keeps C C1 → R C1 → R' C1) : Nxt G base bx0 C w1 m1 R' := by
  obtain ⟨C1, hw, hn, K, M, W, hR⟩ := h
  exact ⟨C1, hw, hn, K, M, W, k C1 hw K hR⟩

theorem Nxt.here {G : Cfg} {base : Nat} {bx0 : List Nat} {C : Ctx} {m : Mem} {R : Ctx → Prop} (M : MemOK G base bx0 C m) (hR : R C) : Nxt G base bx0 C C.w m R :=
  ⟨C, rfl, rfl, Keeps.refl C, M, WExt.refl _ _ _, hR⟩

def RVs (C : Ctx) (cs : List AV) (vs : List Value) : Prop := cs.length = vs.length ∧ ∀ (j : Nat) (c : AV) (x : Value), cs[j]? = some c → vs[j]? = some x → RV C c x

theorem RVs.keep {C D : Ctx} (K : Keeps C D) {cs : List AV} {vs : List Value} (h : RVs C cs vs) : RVs D cs vs := ⟨h.1, fun j c x a b => (h.2 j c x a b).keep K⟩
theorem RVs.nil (C : Ctx) : RVs C [] [] := ⟨rfl, fun j c x h => by simp at h⟩
theorem RVs.cons {C : Ctx} {c : AV} {x : Value} {cs : List AV} {vs : List Value} (h : RV C c x) (t : RVs C cs vs) : RVs C (c :: cs) (x :: vs) := by
  refine ⟨by simp [t.1], ?_⟩
  intro j d y h1 h2
  cases j with
  | zero => simp at h1 h2; subst h1 h2; exact h
  | succ j => exact t.2 j d y (by simpa using h1) (by simpa using h2)
theorem RVs.head {C : Ctx} {c : AV} {cs : List AV} {vs : List Value} (h : RVs C (c :: cs) vs) : ∃ x xs, vs = x :: xs ∧ RV C c x ∧ RVs C cs xs := by
  cases vs with
  | nil => have := h.1; simp at this
  | cons x xs => exact ⟨x, xs, rfl, h.2 0 c x rfl rfl, ⟨by simpa using h.1, fun j d y a b => h.2 (j + 1) d y (by simpa using a) (by simpa using b)⟩⟩
theorem RVs.append {C : Ctx} {cs ds : List AV} {vs us : List Value} (h : RVs C cs vs) (k : RVs C ds us) : RVs C (cs ++ ds) (vs ++ us) := by
  refine ⟨by simp [h.1, k.1], ?_⟩
  intro j c x h1 h2
  rw [List.getElem?_append] at h1 h2
  rw [← h.1] at h2
  split at h1
  · rename_i q
    rw [if_pos q] at h2
    exact h.2 j c x h1 h2
  · rename_i q
    rw [if_neg q] at h2
    exact k.2 _ c x h1 h2

/-- Part of an array of the call's own, as a list that is read alone. -/
theorem sl_of_own {C : Ctx} {base : Nat} {e : TypeId} {I : AInf} {xs : List Value} {es : List (List AV)} {off len : Nat} {x : Value} (hs : IsSub I off len x) (hlen : I.len = es.length) (hes : ∀ r ∈ es, r.length = I.size)
    (ho : C.w.ownsRow base e I.size I.val I.len xs) (hr : ∀ (i j : Nat) (r : List AV) (c : AV) (x : Value), i < len → es[off + i]? = some r → r[j]? = some c → xs[(off + i) * I.size + j]? = some x → RV C c x) (col : Bool)
    (hN : ∀ g, I.val.ownBlock = some g → ¬ C.N col g) : RV C (.sl col ((es.drop off).take len)) x ∧ (∃ a cap, x = .slice a len cap) := by
  have hll : ((es.drop off).take len).length = len := by
    have := hs.1
    simp
    omega
  by_cases h0 : len = 0
  · obtain ⟨_, a, cap, a', _, hx, _⟩ := hs
    subst h0
    simp only [List.take_zero]
    exact ⟨hx ▸ .sl0 _ _ _, _, _, hx⟩
  · obtain ⟨g, cap, hv, hnc, hle, rfl⟩ := sub_pos hs ho (by omega)
    refine ⟨?_, _, _, rfl⟩
    have hg := hN g (by rw [hv]; rfl)
    have hgs : g < C.w.heap.size := (ho.lt g (by rw [hv]; rfl)).2
    have key : RV C (.sl col ((es.drop off).take len)) (.slice (some ⟨g, off * I.size, none⟩) ((es.drop off).take len).length (cap - off)) := by
      refine .sl col _ g (off * I.size) I.size (cap - off) (fun i j => xs.getD ((off + i) * I.size + j) undef) ?_ ?_ hg hgs (by omega) ?_ ?_
      · intro e0
        rw [e0] at hll
        simp at hll
        omega
      · intro r hr'
        exact hes r (List.mem_of_mem_drop (List.mem_of_mem_take hr'))
      · intro i j r c hi hj
        rw [List.getElem?_take] at hi
        split at hi
        · rename_i hil
          rw [List.getElem?_drop] at hi
          have hrl := hes r (List.mem_of_getElem? hi)
          have hjl : j < I.size := by have := (List.getElem?_eq_some_iff.1 hj).1; omega
          have hlt : (off + i) * I.size + j < I.len * I.size := by
            have : (off + i + 1) * I.size ≤ I.len * I.size := Nat.mul_le_mul_right _ (by omega)
            rw [Nat.add_mul, Nat.one_mul] at this
            omega
          have hx : (off + i) * I.size + j < xs.length := by rw [ho.1]; exact hlt
          have ho' := ho
          rw [hv] at ho'
          have hc := ho'.cellAt _ hlt
          rw [List.getElem?_eq_getElem hx] at hc
          simp only [List.getD, List.getElem?_eq_getElem hx, Option.getD_some]
          rw [← hc]
          congr 2
          rw [Nat.add_mul]
        · cases hi
      · intro i j r c hi hj
        rw [List.getElem?_take] at hi
        split at hi
        · rename_i hil
          rw [List.getElem?_drop] at hi
          have hrl := hes r (List.mem_of_getElem? hi)
          have hjl : j < I.size := by have := (List.getElem?_eq_some_iff.1 hj).1; omega
          have hlt : (off + i) * I.size + j < I.len * I.size := by
            have : (off + i + 1) * I.size ≤ I.len * I.size := Nat.mul_le_mul_right _ (by omega)
            rw [Nat.add_mul, Nat.one_mul] at this
            omega
          have hx : (off + i) * I.size + j < xs.length := by rw [ho.1]; exact hlt
          simp only [List.getD, List.getElem?_eq_getElem hx, Option.getD_some]
          exact hr i j r c _ hil hi hj (List.getElem?_eq_getElem hx)
        · cases hi
    rw [hll] at key
    exact key

theorem seal_cells {G : Cfg} {base : Nat} {bx0 : List Nat} : ∀ (cs : List AV) (vs : List Value) {C : Ctx} {m : Mem}, MemOK G base bx0 C m → RVs C cs vs →
    Nxt G base bx0 C C.w (sealCells cs m).2 fun C' => RVs C' (sealCells cs m).1 vs
  | [], vs, C, m, M, h => by
    unfold sealCells
    exact Nxt.here M h
  | c :: cs, vs, C, m, M, h => by
    obtain ⟨x, xs, rfl, hx, ht⟩ := h.head
    have plain : ∀ (d : AV), (∀ C', Keeps C C' → RV C' d x) → Nxt G base bx0 C C.w (sealCells cs m).2 fun C' => RVs C' (d :: (sealCells cs m).1) (x :: xs) := by
      intro d hd
      exact (seal_cells cs xs M ht).mono fun C1 _ K hR => RVs.cons (hd C1 K) hR
    cases c with
    | arr i n off len =>
      simp only [sealCells]
      split
      · rename_i hk
        obtain ⟨I, ys, hI, hs, z1, z2, z3, z4, z5, z6⟩ := arr_rv M hx hk
        refine (Nxt.sealed M i (R := fun C' => RV C' (.sl false (((m.arrs i).es.drop off).take len)) x) ?_).bind ?_
        · intro C1 K hw hbx hN _ _
          refine (sl_of_own hs z3 z4 (hw.symm ▸ z5) (fun i' j r c y _ a b d => (z6 (off + i') j r c y a b d).keep K) false ?_).1
          intro g hg
          exact hN g I hI hg
        · intro C1 hw _ K M1 hR
          have := seal_cells cs xs M1 (ht.keep K)
          rw [hw] at this
          exact this.mono fun C2 _ K2 hR2 => RVs.cons (hR.keep K2) hR2
      · exact plain .dead fun C' _ => .dead _
    | _ =>
      simp only [sealCells]
      exact plain _ fun C' K => hx.keep K

end Go.Proofs.Ytbmfoijakgccgaa.Am
