/- The abstract machine: the changes of the call's own arrays. No conditions. -/
import Derived.Test.YtbmfoijakgccgaaAmC
namespace Go.Proofs.Ytbmfoijakgccgaa.Am
open Go Go.RowKit
set_option linter.unusedSimpArgs false
set_option linter.unusedVariables false

/-- The array at place i is now another one (a new one, a longer one, a shorter one). -/
theorem Nxt.setArrW {G : Cfg} {base : Nat} {bx0 : List Nat} {C : Ctx} {m : Mem} {R : Ctx → Prop} (M : MemOK G base bx0 C m) (i : Nat) (w' : World) (row : Option Nat) (hg : C.w.grownBy w' row)
    (hrow : ∀ g, row = some g → ∃ I, C.A i = some I ∧ I.val.ownBlock = some g) (I : AInf) (xs : List Value) (e : TypeId) (es : List (List AV)) (hz : G.csz e = some I.size) (hp : 0 < I.size) (hlen : I.len = es.length)
    (hes : ∀ r ∈ es, r.length = I.size) (ho : w'.ownsRow 0 e I.size I.val I.len xs)
    (hblk : ∀ g, I.val.ownBlock = some g → C.w.heap.size ≤ g ∨ ∃ J, C.A i = some J ∧ J.val.ownBlock = some g)
    (hr : ∀ E, Keeps C E → E.w = w' → E.bx = C.bx → E.N0 = C.N0 → (∀ j J, E.A j = some J → (j ≠ i ∧ C.A j = some J) ∨ (j = i ∧ J = I)) → ∀ (idx j : Nat) (r : List AV) (c : AV) (x : Value), es[idx]? = some r → r[j]? = some c → xs[idx * I.size + j]? = some x → RV E c x)
    (hR : ∀ E, Keeps C E → E.w = w' → E.bx = C.bx → E.N0 = C.N0 → (∀ j J, E.A j = some J → (j ≠ i ∧ C.A j = some J) ∨ (j = i ∧ J = I)) → E.A i = some I → E.ver i = C.ver i + 1 → R E) :
    Nxt G base bx0 C w' { m with arrs := fun j => if j = i then ⟨(m.arrs i).ver + 1, true, e, es⟩ else m.arrs j } R := by
  have hN : ∀ b, b < C.w.heap.size → ∀ col, Ctx.N { C with w := w', ver := fun j => if j = i then C.ver i + 1 else C.ver j, A := fun j => if j = i then some I else C.A j } col b → C.N col b := by
    rintro b hb col (h | h | ⟨j, J, hA, hgb⟩)
    · exact .inl h
    · exact .inr (.inl h)
    · by_cases hj : j = i
      · have hA' : (if j = i then some I else C.A j) = some J := hA
        rw [if_pos hj] at hA'
        cases hA'
        rcases hblk b hgb with h | ⟨J, hJ, hJb⟩
        · omega
        · exact .inr (.inr ⟨i, J, hJ, hJb⟩)
      · have hA' : (if j = i then some I else C.A j) = some J := hA
        rw [if_neg hj] at hA'
        exact .inr (.inr ⟨j, J, hA', hgb⟩)
  have K : Keeps C { C with w := w', ver := fun j => if j = i then C.ver i + 1 else C.ver j, A := fun j => if j = i then some I else C.A j } := by
    refine ⟨hg.size, fun col b hb hn h => hn (hN b hb col h), ?_, fun _ _ h => h, ?_, ?_⟩
    · rintro b hb ⟨col, hn⟩
      refine hg.block b hb (fun h => hn ?_)
      obtain ⟨J, hJ, hJb⟩ := hrow b h.symm
      exact .inr (.inr ⟨i, J, hJ, hJb⟩)
    · intro j
      show C.ver j ≤ if j = i then C.ver i + 1 else C.ver j
      split
      · rename_i h; subst h; omega
      · exact Nat.le_refl _
    · intro j J hJ hv
      have hJ' : (if j = i then some I else C.A j) = some J := hJ
      have hv' : (if j = i then C.ver i + 1 else C.ver j) = C.ver j := hv
      by_cases hj : j = i
      · rw [if_pos hj] at hv'
        subst hj
        omega
      · rw [if_neg hj] at hJ'
        exact ⟨J, hJ', rfl, rfl, rfl⟩
  have hAc : ∀ j J, (if j = i then some I else C.A j) = some J → (j ≠ i ∧ C.A j = some J) ∨ (j = i ∧ J = I) := by
    intro j J h
    by_cases hj : j = i
    · rw [if_pos hj] at h; cases h; exact .inr ⟨hj, rfl⟩
    · rw [if_neg hj] at h; exact .inl ⟨hj, h⟩
  have hold : ∀ b, b < C.w.heap.size → (row = none ∨ ∀ g, row = some g → g ≠ b) → w'.heap[b]? = C.w.heap[b]? := by
    intro b hb h
    refine hg.block b hb (fun e => ?_)
    rcases h with h | h
    · rw [h] at e; cases e
    · exact h b e.symm rfl
  refine ⟨{ C with w := w', ver := fun j => if j = i then C.ver i + 1 else C.ver j, A := fun j => if j = i then some I else C.A j }, rfl, rfl, K, ?_, ⟨hg.os, hg.tape, hg.output, hg.size, ?_⟩, hR _ K rfl rfl rfl hAc (if_pos rfl) (if_pos rfl)⟩
  · refine ⟨M.bxlen, M.nodup, M.bxlt, Nat.le_trans M.le hg.size, M.n0, ?_, ?_, ?_, ?_, ?_, ?_⟩
    · intro k b cs h1 h2
      obtain ⟨cur, t, hc, hs, hrr⟩ := M.box k b cs h1 h2
      refine ⟨cur, t, ?_, hs, fun j c x a b => (hrr j c x a b).keep K⟩
      have hmem : b ∈ C.bx := List.mem_of_getElem? h1
      refine (hold b (M.bxin hmem) (.inr ?_)).trans hc
      intro g hgr e
      obtain ⟨J, hJ, hJb⟩ := hrow g hgr
      exact (M.sep i J g hJ hJb).1 (e ▸ hmem)
    · intro j
      show (if j = i then C.ver i + 1 else C.ver j) = (if j = i then (⟨(m.arrs i).ver + 1, true, e, es⟩ : ArrSt) else m.arrs j).ver
      split
      · rw [M.ver i]
      · exact M.ver j
    · intro j hl
      have hl' : (if j = i then (⟨(m.arrs i).ver + 1, true, e, es⟩ : ArrSt) else m.arrs j).live = false := hl
      show (if j = i then some I else C.A j) = none
      by_cases hj : j = i
      · rw [if_pos hj] at hl'; cases hl'
      · rw [if_neg hj] at hl' ⊢; exact M.dead j hl'
    · intro j hl
      have hl' : (if j = i then (⟨(m.arrs i).ver + 1, true, e, es⟩ : ArrSt) else m.arrs j).live = true := hl
      by_cases hj : j = i
      · subst hj
        refine ⟨I, xs, if_pos rfl, ?_⟩
        simp only [if_true]
        exact ⟨hz, hp, hlen, hes, ho, fun idx q r c x a b d => hr _ K rfl rfl rfl hAc idx q r c x a b d⟩
      · rw [if_neg hj] at hl'
        obtain ⟨J, ys, hJ, h1, h2, h3, h4, h5, h6⟩ := M.arr j hl'
        refine ⟨J, ys, (if_neg hj).trans hJ, ?_⟩
        simp only [if_neg hj]
        refine ⟨h1, h2, h3, h4, ?_, fun idx q r c x a b d => (h6 idx q r c x a b d).keep K⟩
        refine h5.kept hg ?_
        cases hb : J.val.ownBlock with
        | none => exact .inl rfl
        | some g =>
          refine .inr (fun e' => ?_)
          obtain ⟨J2, hJ2, hJ2b⟩ := hrow g e'.symm
          exact hj ((M.sep i J2 g hJ2 hJ2b).2 j J hJ hb)
    · intro j J g hA hgb
      have hA' : (if j = i then some I else C.A j) = some J := hA
      have oldblk : ∀ q Q, C.A q = some Q → Q.val.ownBlock = some g → g < C.w.heap.size := fun q Q hq hqb => (M.own hq hqb).2
      by_cases hj : j = i
      · rw [if_pos hj] at hA'
        cases hA'
        refine ⟨?_, ?_⟩
        · intro hmem
          rcases hblk g hgb with h | ⟨J, hJ, hJb⟩
          · have := M.bxin hmem; omega
          · exact (M.sep i J g hJ hJb).1 hmem
        · intro q Q hq hqb
          have hq' : (if q = i then some I else C.A q) = some Q := hq
          by_cases hqi : q = i
          · rw [hqi, hj]
          · rw [if_neg hqi] at hq'
            rcases hblk g hgb with h | ⟨J, hJ, hJb⟩
            · have := oldblk q Q hq' hqb; omega
            · rw [hj]; exact (M.sep i J g hJ hJb).2 q Q hq' hqb
      · rw [if_neg hj] at hA'
        obtain ⟨s1, s2⟩ := M.sep j J g hA' hgb
        refine ⟨s1, ?_⟩
        intro q Q hq hqb
        have hq' : (if q = i then some I else C.A q) = some Q := hq
        by_cases hqi : q = i
        · rw [if_pos hqi] at hq'
          cases hq'
          rcases hblk g hqb with h | ⟨J2, hJ2, hJ2b⟩
          · have := oldblk j J hA' hgb; omega
          · rw [hqi]; exact s2 i J2 hJ2 hJ2b
        · rw [if_neg hqi] at hq'
          exact s2 q Q hq' hqb
    · intro j J g hA hgb
      have hA' : (if j = i then some I else C.A j) = some J := hA
      by_cases hj : j = i
      · rw [if_pos hj] at hA'
        cases hA'
        rcases hblk g hgb with h | ⟨J, hJ, hJb⟩
        · exact .inl (Nat.le_trans M.le h)
        · exact M.lo i J g hJ hJb
      · rw [if_neg hj] at hA'
        exact M.lo j J g hA' hgb
  · intro k hk hn
    refine hold k (Nat.lt_of_lt_of_le hk M.le) (.inr ?_)
    intro g hgr e
    obtain ⟨J, hJ, hJb⟩ := hrow g hgr
    rcases (M.own hJ hJb).1 with h | h
    · omega
    · exact hn (e ▸ h)

/-- The array at place i is now another one (a new one, a longer one, a shorter one). -/
theorem Nxt.setArr {G : Cfg} {base : Nat} {bx0 : List Nat} {C : Ctx} {m : Mem} {R : Ctx → Prop} (M : MemOK G base bx0 C m) (i : Nat) (w' : World) (row : Option Nat) (hg : C.w.grownBy w' row)
    (hrow : ∀ g, row = some g → ∃ I, C.A i = some I ∧ I.val.ownBlock = some g) (I : AInf) (xs : List Value) (e : TypeId) (es : List (List AV)) (hz : G.csz e = some I.size) (hp : 0 < I.size) (hlen : I.len = es.length)
    (hes : ∀ r ∈ es, r.length = I.size) (ho : w'.ownsRow 0 e I.size I.val I.len xs)
    (hblk : ∀ g, I.val.ownBlock = some g → C.w.heap.size ≤ g ∨ ∃ J, C.A i = some J ∧ J.val.ownBlock = some g)
    (hr : ∀ (idx j : Nat) (r : List AV) (c : AV) (x : Value), es[idx]? = some r → r[j]? = some c → xs[idx * I.size + j]? = some x → RV C c x)
    (hR : ∀ C', Keeps C C' → C'.w = w' → C'.bx = C.bx → C'.A i = some I → C'.ver i = C.ver i + 1 → R C') :
    Nxt G base bx0 C w' { m with arrs := fun j => if j = i then ⟨(m.arrs i).ver + 1, true, e, es⟩ else m.arrs j } R :=
  Nxt.setArrW M i w' row hg hrow I xs e es hz hp hlen hes ho hblk (fun _ K _ _ _ _ idx j r c x a b d => (hr idx j r c x a b d).keep K) fun E K a b _ _ c d => hR E K a b c d

/-- An array is from now on read alone: it is no array of the call's own any more. -/
theorem Nxt.sealed {G : Cfg} {base : Nat} {bx0 : List Nat} {C : Ctx} {m : Mem} {R : Ctx → Prop} (M : MemOK G base bx0 C m) (i : Nat)
    (hR : ∀ C', Keeps C C' → C'.w = C.w → C'.bx = C.bx → (∀ g I, C.A i = some I → I.val.ownBlock = some g → ¬ C'.N false g) → (∀ j, j ≠ i → C'.A j = C.A j) → C'.ver = C.ver → R C') :
    Nxt G base bx0 C C.w { m with arrs := fun j => if j = i then { m.arrs i with live := false } else m.arrs j } R := by
  have hAi : ∀ j J, (if j = i then none else C.A j) = some J → C.A j = some J ∧ j ≠ i := by
    intro j J h
    by_cases hj : j = i
    · rw [if_pos hj] at h; cases h
    · rw [if_neg hj] at h; exact ⟨h, hj⟩
  have K : Keeps C { C with A := fun j => if j = i then none else C.A j } := by
    refine ⟨Nat.le_refl _, ?_, fun _ _ _ => rfl, fun _ _ h => h, fun _ => Nat.le_refl _, fun j J h _ => ⟨J, (hAi j J h).1, rfl, rfl, rfl⟩⟩
    rintro col b hb hn (h | h | ⟨j, J, hA, hg⟩)
    · exact hn (.inl h)
    · exact hn (.inr (.inl h))
    · exact hn (.inr (.inr ⟨j, J, (hAi j J hA).1, hg⟩))
  refine ⟨{ C with A := fun j => if j = i then none else C.A j }, rfl, rfl, K, ?_, WExt.refl _ _ _, hR _ K rfl rfl ?_ (fun j hj => if_neg hj) rfl⟩
  · refine ⟨M.bxlen, M.nodup, M.bxlt, M.le, M.n0, ?_, ?_, ?_, ?_, ?_, ?_⟩
    · intro k b cs h1 h2
      obtain ⟨cur, t, hc, hs, hr⟩ := M.box k b cs h1 h2
      exact ⟨cur, t, hc, hs, fun j c x a b => (hr j c x a b).keep K⟩
    · intro j
      show C.ver j = (if j = i then { m.arrs i with live := false } else m.arrs j).ver
      split
      · rename_i h; subst h; exact M.ver j
      · exact M.ver j
    · intro j hl
      show (if j = i then none else C.A j) = none
      by_cases hj : j = i
      · rw [if_pos hj]
      · rw [if_neg hj]
        have hl' : (if j = i then { m.arrs i with live := false } else m.arrs j).live = false := hl
        rw [if_neg hj] at hl'
        exact M.dead j hl'
    · intro j hl
      have hl' : (if j = i then { m.arrs i with live := false } else m.arrs j).live = true := hl
      by_cases hj : j = i
      · rw [if_pos hj] at hl'; cases hl'
      · rw [if_neg hj] at hl'
        obtain ⟨J, ys, hJ, h1, h2, h3, h4, h5, h6⟩ := M.arr j hl'
        refine ⟨J, ys, (if_neg hj).trans hJ, ?_⟩
        simp only [if_neg hj]
        exact ⟨h1, h2, h3, h4, h5, fun idx q r c x a b d => (h6 idx q r c x a b d).keep K⟩
    · intro j J g hA hg
      obtain ⟨hA', hj⟩ := hAi j J hA
      obtain ⟨s1, s2⟩ := M.sep j J g hA' hg
      exact ⟨s1, fun q Q hq hqb => s2 q Q (hAi q Q hq).1 hqb⟩
    · intro j J g hA hg
      exact M.lo j J g (hAi j J hA).1 hg
  · rintro g I hI hg (h | h | ⟨j, J, hA, hgj⟩)
    · rcases (M.own hI hg).1 with h2 | h2
      · have h1 := (M.n0 _ _ h).1; omega
      · exact (M.n0 _ _ h).2 h2
    · exact (M.sep i I g hI hg).1 h
    · obtain ⟨hA', hj⟩ := hAi j J hA
      exact hj ((M.sep i I g hI hg).2 j J hA' hgj)

/-- A cell of an array of the call's own is written. -/
theorem Nxt.putElW {G : Cfg} {base : Nat} {bx0 : List Nat} {C : Ctx} {m : Mem} {R : Ctx → Prop} (M : MemOK G base bx0 C m) (i : Nat) (I : AInf) (hI : C.A i = some I) (w' : World) (hg : C.w.grownBy w' I.val.ownBlock) (xs : List Value) (es : List (List AV))
    (hlen : I.len = es.length) (hes : ∀ r ∈ es, r.length = I.size) (ho : w'.ownsRow 0 (m.arrs i).elem I.size I.val I.len xs)
    (hr : ∀ E, Keeps C E → E.w = w' → E.bx = C.bx → E.N0 = C.N0 → E.A = C.A → ∀ (idx j : Nat) (r : List AV) (c : AV) (x : Value), es[idx]? = some r → r[j]? = some c → xs[idx * I.size + j]? = some x → RV E c x)
    (hR : ∀ E, Keeps C E → E.w = w' → E.bx = C.bx → E.N0 = C.N0 → E.A = C.A → E.ver = C.ver → R E) :
    Nxt G base bx0 C w' { m with arrs := fun j => if j = i then { m.arrs i with es := es } else m.arrs j } R := by
  have hl := M.live hI
  obtain ⟨I', xs', hI', hz, hp, _, _, _, _⟩ := M.arr i hl
  rw [hI] at hI'
  cases hI'
  have K : Keeps C { C with w := w' } := by
    refine ⟨hg.size, fun _ _ _ h => h, ?_, fun _ _ h => h, fun _ => Nat.le_refl _, fun _ J h _ => ⟨J, h, rfl, rfl, rfl⟩⟩
    rintro b hb ⟨col, hn⟩
    exact hg.block b hb (fun e => hn (.inr (.inr ⟨i, I, hI, e.symm⟩)))
  refine ⟨{ C with w := w' }, rfl, rfl, K, ?_, ⟨hg.os, hg.tape, hg.output, hg.size, ?_⟩, hR _ K rfl rfl rfl rfl rfl⟩
  · refine ⟨M.bxlen, M.nodup, M.bxlt, Nat.le_trans M.le hg.size, M.n0, ?_, ?_, ?_, ?_, M.sep, M.lo⟩
    · intro k b cs h1 h2
      obtain ⟨cur, t, hc, hs, hrr⟩ := M.box k b cs h1 h2
      have hmem : b ∈ C.bx := List.mem_of_getElem? h1
      exact ⟨cur, t, (hg.block b (M.bxin hmem) (fun e => (M.sep i I b hI e.symm).1 hmem)).trans hc, hs, fun j c x a b => (hrr j c x a b).keep K⟩
    · intro j
      show C.ver j = (if j = i then { m.arrs i with es := es } else m.arrs j).ver
      split
      · rename_i h; subst h; exact M.ver j
      · exact M.ver j
    · intro j hl'
      have h' : (if j = i then { m.arrs i with es := es } else m.arrs j).live = false := hl'
      by_cases hj : j = i
      · subst hj; rw [if_pos rfl] at h'; exact M.dead j h'
      · rw [if_neg hj] at h'; exact M.dead j h'
    · intro j hl'
      have h' : (if j = i then { m.arrs i with es := es } else m.arrs j).live = true := hl'
      by_cases hj : j = i
      · subst hj
        refine ⟨I, xs, hI, ?_⟩
        simp only [if_true]
        exact ⟨hz, hp, hlen, hes, ho, fun idx q r c x a b d => hr _ K rfl rfl rfl rfl idx q r c x a b d⟩
      · rw [if_neg hj] at h'
        obtain ⟨J, ys, hJ, h1, h2, h3, h4, h5, h6⟩ := M.arr j h'
        refine ⟨J, ys, hJ, ?_⟩
        simp only [if_neg hj]
        refine ⟨h1, h2, h3, h4, ?_, fun idx q r c x a b d => (h6 idx q r c x a b d).keep K⟩
        refine h5.kept hg ?_
        cases hb : J.val.ownBlock with
        | none => exact .inl rfl
        | some g =>
          refine .inr (fun e' => ?_)
          exact hj ((M.sep i I g hI e'.symm).2 j J hJ hb)
  · intro k hk hn
    refine hg.block k (Nat.lt_of_lt_of_le hk M.le) (fun e => ?_)
    rcases (M.own hI e.symm).1 with h | h
    · omega
    · exact hn h

/-- A cell of an array of the call's own is written. -/
theorem Nxt.putEl {G : Cfg} {base : Nat} {bx0 : List Nat} {C : Ctx} {m : Mem} {R : Ctx → Prop} (M : MemOK G base bx0 C m) (i : Nat) (I : AInf) (hI : C.A i = some I) (w' : World) (hg : C.w.grownBy w' I.val.ownBlock) (xs : List Value) (es : List (List AV))
    (hlen : I.len = es.length) (hes : ∀ r ∈ es, r.length = I.size) (ho : w'.ownsRow 0 (m.arrs i).elem I.size I.val I.len xs)
    (hr : ∀ (idx j : Nat) (r : List AV) (c : AV) (x : Value), es[idx]? = some r → r[j]? = some c → xs[idx * I.size + j]? = some x → RV C c x)
    (hR : ∀ C', Keeps C C' → C'.w = w' → C'.bx = C.bx → R C') :
    Nxt G base bx0 C w' { m with arrs := fun j => if j = i then { m.arrs i with es := es } else m.arrs j } R :=
  Nxt.putElW M i I hI w' hg xs es hlen hes ho (fun _ K _ _ _ _ idx j r c x a b d => (hr idx j r c x a b d).keep K) fun E K a b _ _ _ => hR E K a b

/-- An array is let go, its block written. -/
theorem Nxt.dropArr {G : Cfg} {base : Nat} {bx0 : List Nat} {C : Ctx} {m : Mem} {R : Ctx → Prop} (M : MemOK G base bx0 C m) (i : Nat) (I : AInf) (hI : C.A i = some I) (w' : World) (hg : C.w.grownBy w' I.val.ownBlock)
    (hR : ∀ E, Keeps C E → E.w = w' → E.bx = C.bx → E.N0 = C.N0 → (∀ j J, E.A j = some J → j ≠ i ∧ C.A j = some J) → E.ver = C.ver → R E) :
    Nxt G base bx0 C w' { m with arrs := fun j => if j = i then { m.arrs i with live := false } else m.arrs j } R := by
  have hAi : ∀ j J, (if j = i then none else C.A j) = some J → j ≠ i ∧ C.A j = some J := by
    intro j J h
    by_cases hj : j = i
    · rw [if_pos hj] at h; cases h
    · rw [if_neg hj] at h; exact ⟨hj, h⟩
  have K : Keeps C { C with w := w', A := fun j => if j = i then none else C.A j } := by
    refine ⟨hg.size, ?_, ?_, fun _ _ h => h, fun _ => Nat.le_refl _, fun j J h _ => ⟨J, (hAi j J h).2, rfl, rfl, rfl⟩⟩
    · rintro col b hb hn (h | h | ⟨j, J, hA, hgb⟩)
      · exact hn (.inl h)
      · exact hn (.inr (.inl h))
      · exact hn (.inr (.inr ⟨j, J, (hAi j J hA).2, hgb⟩))
    · rintro b hb ⟨col, hn⟩
      exact hg.block b hb (fun e => hn (.inr (.inr ⟨i, I, hI, e.symm⟩)))
  refine ⟨{ C with w := w', A := fun j => if j = i then none else C.A j }, rfl, rfl, K, ?_, ⟨hg.os, hg.tape, hg.output, hg.size, ?_⟩, hR _ K rfl rfl rfl hAi rfl⟩
  · refine ⟨M.bxlen, M.nodup, M.bxlt, Nat.le_trans M.le hg.size, M.n0, ?_, ?_, ?_, ?_, ?_, ?_⟩
    · intro k b cs h1 h2
      obtain ⟨cur, t, hc, hs, hrr⟩ := M.box k b cs h1 h2
      have hmem : b ∈ C.bx := List.mem_of_getElem? h1
      exact ⟨cur, t, (hg.block b (M.bxin hmem) (fun e => (M.sep i I b hI e.symm).1 hmem)).trans hc, hs, fun j c x a b => (hrr j c x a b).keep K⟩
    · intro j
      show C.ver j = (if j = i then { m.arrs i with live := false } else m.arrs j).ver
      split
      · rename_i h; subst h; exact M.ver j
      · exact M.ver j
    · intro j hl
      show (if j = i then none else C.A j) = none
      by_cases hj : j = i
      · rw [if_pos hj]
      · rw [if_neg hj]
        have hl' : (if j = i then { m.arrs i with live := false } else m.arrs j).live = false := hl
        rw [if_neg hj] at hl'
        exact M.dead j hl'
    · intro j hl
      have hl' : (if j = i then { m.arrs i with live := false } else m.arrs j).live = true := hl
      by_cases hj : j = i
      · rw [if_pos hj] at hl'; cases hl'
      · rw [if_neg hj] at hl'
        obtain ⟨J, ys, hJ, h1, h2, h3, h4, h5, h6⟩ := M.arr j hl'
        refine ⟨J, ys, (if_neg hj).trans hJ, ?_⟩
        simp only [if_neg hj]
        refine ⟨h1, h2, h3, h4, h5.kept hg ?_, fun idx q r c x a b d => (h6 idx q r c x a b d).keep K⟩
        cases hb : J.val.ownBlock with
        | none => exact .inl rfl
        | some g =>
          refine .inr (fun e' => ?_)
          exact hj ((M.sep i I g hI e'.symm).2 j J hJ hb)
    · intro j J g hA hgb
      obtain ⟨hj, hA'⟩ := hAi j J hA
      obtain ⟨s1, s2⟩ := M.sep j J g hA' hgb
      exact ⟨s1, fun q Q hq hqb => s2 q Q (hAi q Q hq).2 hqb⟩
    · intro j J g hA hgb
      exact M.lo j J g (hAi j J hA).2 hgb
  · intro k hk hn
    refine hg.block k (Nat.lt_of_lt_of_le hk M.le) (fun e => ?_)
    rcases (M.own hI e.symm).1 with h | h
    · omega
    · exact hn h

end Go.Proofs.Ytbmfoijakgccgaa.Am
