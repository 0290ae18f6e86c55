/- The abstract machine: operands, loads and stores are what the model does. No conditions. -/
import Derived.Laws.StructEq
import Derived.Test.YtokhnmchnfkiiaaDoorAmD
namespace Go.Proofs.YtokhnmchnfkiiaaDoor.Am
open Go Go.RowKit
set_option linter.unusedSimpArgs false
set_option linter.unusedVariables false

theorem rv_ofVal (C : Ctx) (x : Value) : RV C (ofVal x) x := by
  unfold ofVal
  split
  · exact .nil _
  · refine .agg _ _ (by simp) ?_
    intro j c x h1 h2
    simp only [List.getElem?_map, Array.getElem?_toList, h2, Option.map_some, Option.some.injEq] at h1
    subst h1
    exact .v x
  · exact .v _

theorem rv_ofCell (C : Ctx) (x : Value) : RV C (ofCell x) x := by
  unfold ofCell
  split
  · exact .nil _
  · exact .v _

theorem rv_ev {C : Ctx} {st : St} {a : Act} (E : ∀ t, RV C (st.env t) (a.tmps.getD t undef)) (x : Operand) : RV C (st.ev x) (a.eval x) := by
  cases x with
  | tmp t => exact E t
  | const x => exact rv_ofVal C x
  | global g => exact .dead _
  | func f => exact .clo f [] [] #[] #[] rfl rfl (by simp) (by simp)

theorem rv_one {C : Ctx} {c : AV} {x : Value} (h : RV C c x) (h1 : c.one = true) : x.oneCell' = true := by
  cases h <;> first | rfl | (simp [AV.one] at h1; done) | assumption | (rename_i h; exact sameK_one h)


theorem isAg_run {G : Cfg} {t : TypeId} {b : Bool} (h : G.isAg t = some b) (w : World) : (isAgg t).run G.P w = .ok b w := by
  unfold Cfg.isAg at h
  cases hu : G.P.underlying t with
  | none => simp [hu] at h
  | some d =>
    simp only [hu, Option.map_some, Option.some.injEq] at h
    subst h
    unfold isAgg
    rw [Sem.run_bind, run_underlying hu w]
    cases d <;> rfl
theorem csz_run {G : Cfg} {t : TypeId} {n : Nat} (h : G.csz t = some n) (w : World) : (sizeOf t).run G.P w = .ok n w := by
  unfold Cfg.csz at h
  cases hi : G.P.info? t with
  | none => simp [hi] at h
  | some i =>
    simp only [hi, Option.map_some, Option.some.injEq] at h
    simp [sizeOf, typeInfo, hi, h]
theorem csz_info {G : Cfg} {t : TypeId} {n : Nat} (h : G.csz t = some n) : ∃ i, G.P.info? t = some i ∧ i.size = n := by
  unfold Cfg.csz at h
  cases hi : G.P.info? t with
  | none => simp [hi] at h
  | some i =>
    simp only [hi, Option.map_some, Option.some.injEq] at h
    exact ⟨i, rfl, h⟩
theorem elemT_under {G : Cfg} {t e : TypeId} (h : G.elemT t = some e) : G.P.underlying t = some (.slice e) := by
  unfold Cfg.elemT at h
  split at h
  · rename_i e' hu
    cases h
    exact hu
  · cases h
theorem arrT_under {G : Cfg} {t : TypeId} {q : Nat × TypeId} (h : G.arrT t = some q) : G.P.underlying t = some (.array q.1 q.2) := by
  unfold Cfg.arrT at h
  split at h
  · rename_i hu
    cases h
    exact hu
  · cases h
theorem isStr_under {G : Cfg} {t : TypeId} (h : G.isStr t = true) : G.P.underlying t = some .string := by
  unfold Cfg.isStr at h
  split at h
  · assumption
  · cases h
theorem intK_under {G : Cfg} {t : TypeId} {k : IntKind} (h : G.intK t = some k) : G.P.underlying t = some (.int k) := by
  unfold Cfg.intK at h
  split at h
  · rename_i hu
    cases h
    exact hu
  · cases h
theorem foff_under {G : Cfg} {t : TypeId} {f : Nat} {q : Nat × TypeId} (h : G.foff t f = some q) : ∃ fs x, G.P.underlying t = some (.struct fs) ∧ fs[f]? = some x ∧ x.offset = q.1 ∧ x.type = q.2 := by
  unfold Cfg.foff at h
  split at h
  · rename_i fs hu
    cases hx : fs[f]? with
    | none => simp [hx] at h
    | some x =>
      simp only [hx, Option.map_some, Option.some.injEq] at h
      subst h
      exact ⟨fs, x, hu, hx, rfl, rfl⟩
  · cases h

/-- Cells that lie at an address. -/
def CellsAt (C : Ctx) (b off : Nat) (cs : List AV) : Prop := ∃ f : Nat → Value, (∀ (j : Nat) (c : AV), cs[j]? = some c → C.w.cell? ⟨b, off + j, none⟩ = some (f j)) ∧ ∀ (j : Nat) (c : AV), cs[j]? = some c → RV C c (f j)

theorem CellsAt.drop {C : Ctx} {b off : Nat} {cs : List AV} (h : CellsAt C b off cs) (n : Nat) : CellsAt C b (off + n) (cs.drop n) := by
  obtain ⟨f, h1, h2⟩ := h
  refine ⟨fun j => f (n + j), ?_, ?_⟩
  · intro j c hc
    rw [List.getElem?_drop] at hc
    rw [Nat.add_assoc]
    exact h1 _ c hc
  · intro j c hc
    rw [List.getElem?_drop] at hc
    exact h2 _ c hc

theorem ok_parts {m : Mem} {i n : Nat} (h : m.ok i n = true) : (m.arrs i).live = true ∧ (m.arrs i).ver = n := by
  unfold Mem.ok at h
  simp only [Bool.and_eq_true, beq_iff_eq] at h
  exact h

/-- What a valid reference to an array of the call's own stands for. -/
theorem arr_rv {G : Cfg} {base : Nat} {bx0 : List Nat} {C : Ctx} {m : Mem} (M : MemOK G base bx0 C m) {i n off len : Nat} {x : Value} (h : RV C (.arr i n off len) x) (hk : m.ok i n = true) :
    ∃ I xs, C.A i = some I ∧ IsSub I off len x ∧ G.csz (m.arrs i).elem = some I.size ∧ 0 < I.size ∧ I.len = (m.arrs i).es.length ∧ (∀ e ∈ (m.arrs i).es, e.length = I.size) ∧
      C.w.ownsRow 0 (m.arrs i).elem I.size I.val I.len xs ∧ ∀ (idx j : Nat) (e : List AV) (c : AV) (x : Value), (m.arrs i).es[idx]? = some e → e[j]? = some c → xs[idx * I.size + j]? = some x → RV C c x := by
  obtain ⟨hl, hv⟩ := ok_parts hk
  obtain ⟨I, xs, hI, h1, h2, h3, h4, h5, h6⟩ := M.arr i hl
  cases h with
  | arr _ _ _ _ _ _ hn hh => exact ⟨I, xs, hI, hh I hI (by rw [M.ver i, hv]), h1, h2, h3, h4, h5, h6⟩

theorem ael_rv {G : Cfg} {base : Nat} {bx0 : List Nat} {C : Ctx} {m : Mem} (M : MemOK G base bx0 C m) {i n idx off : Nat} {x : Value} (h : RV C (.ael i n idx off) x) (hk : m.ok i n = true) :
    ∃ I xs, C.A i = some I ∧ IsEl I idx off x ∧ G.csz (m.arrs i).elem = some I.size ∧ 0 < I.size ∧ I.len = (m.arrs i).es.length ∧ (∀ e ∈ (m.arrs i).es, e.length = I.size) ∧
      C.w.ownsRow 0 (m.arrs i).elem I.size I.val I.len xs ∧ ∀ (idx j : Nat) (e : List AV) (c : AV) (x : Value), (m.arrs i).es[idx]? = some e → e[j]? = some c → xs[idx * I.size + j]? = some x → RV C c x := by
  obtain ⟨hl, hv⟩ := ok_parts hk
  obtain ⟨I, xs, hI, h1, h2, h3, h4, h5, h6⟩ := M.arr i hl
  cases h with
  | ael _ _ _ _ _ _ hn hh => exact ⟨I, xs, hI, hh I hI (by rw [M.ver i, hv]), h1, h2, h3, h4, h5, h6⟩

/-- An own array's element lies in its block. -/
theorem own_cells {base : Nat} {C : Ctx} {e : TypeId} {I : AInf} {xs : List Value} {es : List (List AV)} {g cap : Nat} (hv : I.val = .slice (some ⟨g, 0, none⟩) I.len cap) (hlen : I.len = es.length) (hes : ∀ r ∈ es, r.length = I.size)
    (ho : C.w.ownsRow base e I.size I.val I.len xs) (hr : ∀ (idx j : Nat) (r : List AV) (c : AV) (x : Value), es[idx]? = some r → r[j]? = some c → xs[idx * I.size + j]? = some x → RV C c x)
    {idx : Nat} {r : List AV} (hi : es[idx]? = some r) : CellsAt C g (idx * I.size) r := by
  have hl : r.length = I.size := hes r (List.mem_of_getElem? hi)
  have hidx : idx < es.length := (List.getElem?_eq_some_iff.1 hi).1
  have hxs := ho.1
  have get : ∀ j, j < I.size → ∃ x, xs[idx * I.size + j]? = some x ∧ C.w.cell? ⟨g, idx * I.size + j, none⟩ = some x := by
    intro j hj
    have hlt : idx * I.size + j < I.len * I.size := by
      have : (idx + 1) * I.size ≤ I.len * I.size := Nat.mul_le_mul_right _ (by omega)
      rw [Nat.add_mul, Nat.one_mul] at this
      omega
    have hx : idx * I.size + j < xs.length := by omega
    refine ⟨xs[idx * I.size + j], List.getElem?_eq_getElem hx, ?_⟩
    rw [hv] at ho
    rw [ho.cellAt _ hlt, List.getElem?_eq_getElem hx]
  refine ⟨fun j => xs.getD (idx * I.size + j) undef, ?_, ?_⟩
  · intro j c hc
    have hj : j < I.size := by have := (List.getElem?_eq_some_iff.1 hc).1; omega
    obtain ⟨x, hx, hcell⟩ := get j hj
    simp only [List.getD, hx, Option.getD_some]
    exact hcell
  · intro j c hc
    have hj : j < I.size := by have := (List.getElem?_eq_some_iff.1 hc).1; omega
    obtain ⟨x, hx, _⟩ := get j hj
    simp only [List.getD, hx, Option.getD_some]
    exact hr idx j r c x hi hc hx

theorem cellsAt_rv {G : Cfg} {base : Nat} {bx0 : List Nat} {C : Ctx} {m : Mem} (M : MemOK G base bx0 C m) {p : AV} {x : Value} (h : RV C p x) {cs : List AV} (hc : m.cellsAt p = some cs) :
    ∃ b off, x = .pointer (some ⟨b, off, none⟩) ∧ CellsAt C b off cs := by
  cases p <;> simp only [Mem.cellsAt] at hc <;> try (cases hc; done)
  case el =>
    cases h with
    | el _ _ b off f hN hb h1 h2 =>
      cases hc
      exact ⟨b, off, rfl, f, h1, h2⟩
  case wel =>
    cases h with
    | wel _ b off f hW hb h1 hl h2 =>
      cases hc
      exact ⟨b, off, rfl, f, h1, h2⟩
  case box =>
    rename_i k off
    cases h with
    | box _ _ b hb =>
      cases hbx : m.boxes[k]? with
      | none => simp [hbx] at hc
      | some ds =>
        simp only [hbx, Option.map_some, Option.some.injEq] at hc
        subst hc
        obtain ⟨cur, t, hcur, hs, hr⟩ := M.box k b ds hb hbx
        refine ⟨b, off, rfl, ?_⟩
        have : CellsAt C b 0 ds := by
          refine ⟨fun j => cur.getD j undef, ?_, ?_⟩
          · intro j c hj
            have hlt : j < cur.size := by have := (List.getElem?_eq_some_iff.1 hj).1; omega
            rw [Nat.zero_add, cell_of_row C.w b j cur t _ hcur]
            simp [hlt]
          · intro j c hj
            have hlt : j < cur.size := by have := (List.getElem?_eq_some_iff.1 hj).1; omega
            refine hr j c _ hj ?_
            simp [hlt]
        simpa using this.drop off
  case ael =>
    rename_i i n idx off
    split at hc
    · rename_i hk
      obtain ⟨I, xs, hI, ⟨g, cap, hv, rfl⟩, h1, h2, h3, h4, h5, h6⟩ := ael_rv M h hk
      cases hr : (m.arrs i).es[idx]? with
      | none => simp [hr] at hc
      | some r =>
        simp only [hr, Option.map_some, Option.some.injEq] at hc
        subst hc
        exact ⟨g, idx * I.size + off, rfl, (own_cells hv h3 h4 h5 h6 hr).drop off⟩
    · cases hc

theorem loadVar_run {G : Cfg} {C : Ctx} {t : TypeId} {b off : Nat} {cs : List AV} {x : AV} (h : CellsAt C b off cs) (hl : G.loadOf t cs = some x) :
    ∃ v, (loadVar t ⟨b, off, none⟩).run G.P C.w = .ok v C.w ∧ RV C x v := by
  obtain ⟨f, h1, h2⟩ := h
  unfold Cfg.loadOf at hl
  split at hl
  · rename_i ha
    cases hn : G.csz t with
    | none => simp [hn] at hl
    | some n =>
      simp only [hn, Option.bind_some] at hl
      split at hl
      · rename_i hle
        cases hl
        have hcell : ∀ j, j < n → C.w.cell? ((⟨b, off, none⟩ : Addr).add j) = some (f j) := by
          intro j hj
          rw [Addr.add_lit]
          exact h1 j (cs[j]'(by omega)) (List.getElem?_eq_getElem (by omega))
        refine ⟨.agg ((List.range n).map f).toArray, ?_, ?_⟩
        · simp [loadVar, isAg_run ha, csz_run hn, run_loadCells C.w _ n f hcell]
        · refine .agg _ _ (by simp; omega) ?_
          intro j c v hc hv
          rw [List.getElem?_take] at hc
          split at hc
          · rename_i hj
            simp [hj] at hv
            subst hv
            exact h2 j c hc
          · cases hc
      · cases hl
  · rename_i ha
    cases cs with
    | nil => cases hl
    | cons c r =>
      simp only [List.head?_cons, Option.some.injEq] at hl
      subst hl
      refine ⟨f 0, ?_, h2 0 c rfl⟩
      have h0 := h1 0 c rfl
      simp only [Nat.add_zero] at h0
      simp [loadVar, isAg_run ha, h0]
  · cases hl

theorem cells_one {v : Value} (h : v.oneCell' = true) : v.cells = #[v] := by
  cases v <;> first | rfl | (simp [Value.oneCell'] at h)
theorem cells_rv {C : Ctx} {x : AV} {v : Value} (h : RV C x v) (h1 : x.cells.all AV.one = true) : v.cells.size = x.cells.length ∧ (∀ u ∈ v.cells, u.oneCell' = true) ∧ ∀ (j : Nat) (c : AV) (u : Value), x.cells[j]? = some c → v.cells[j]? = some u → RV C c u := by
  have other : x.cells = [x] → v.cells.size = x.cells.length ∧ (∀ u ∈ v.cells, u.oneCell' = true) ∧ ∀ (j : Nat) (c : AV) (u : Value), x.cells[j]? = some c → v.cells[j]? = some u → RV C c u := by
    intro e
    have ho : x.one = true := by rw [e] at h1; simpa using h1
    have hv := rv_one h ho
    rw [e, cells_one hv]
    refine ⟨rfl, ?_, ?_⟩
    · intro u hu
      have : u = v := by simpa using hu
      exact this ▸ hv
    · intro j c u hc hu
      cases j with
      | zero => simp at hc hu; subst hc hu; exact h
      | succ j => simp at hc
  cases h with
  | agg cs vs hl hh =>
    refine ⟨hl.symm, ?_, hh⟩
    intro u hu
    obtain ⟨j, hj, rfl⟩ := Array.getElem_of_mem (show u ∈ vs from hu)
    have hj' : j < cs.length := by rw [hl]; exact hj
    have hc : cs[j]? = some (cs[j]'hj') := List.getElem?_eq_getElem hj'
    refine rv_one (hh j _ _ hc (Array.getElem?_eq_getElem hj)) ?_
    have h2 : cs.all AV.one = true := h1
    exact List.all_eq_true.1 h2 _ (List.getElem_mem hj')
  | _ => exact other rfl

theorem splice_length {cs vs : List AV} {off : Nat} (h : off + vs.length ≤ cs.length) : (splice cs vs off).length = cs.length := by
  unfold splice
  simp
  omega
theorem splice_get {cs vs : List AV} {off : Nat} (h : off + vs.length ≤ cs.length) (j : Nat) : (splice cs vs off)[j]? = if off ≤ j ∧ j < off + vs.length then vs[j - off]? else cs[j]? := by
  unfold splice
  rw [List.append_assoc, List.getElem?_append, List.getElem?_append, List.length_take, Nat.min_eq_left (by omega)]
  by_cases h1 : j < off
  · rw [if_pos h1, if_neg (by omega), List.getElem?_take, if_pos h1]
  · rw [if_neg h1]
    by_cases h2 : j - off < vs.length
    · rw [if_pos h2, if_pos (by omega)]
    · rw [if_neg h2, if_neg (by omega), List.getElem?_drop]
      congr 1
      omega

/-- Cells are stored behind a pointer. -/
theorem store_run {G : Cfg} {base : Nat} {bx0 : List Nat} {C : Ctx} {m m' : Mem} (M : MemOK G base bx0 C m) {p : AV} {x : Value} (h : RV C p x) {t : TypeId} {y : AV} {v : Value} (hy : RV C y v) {vs : List AV} (hvs : G.storeOf t y = some vs)
    (hm : Mem.putAt G m p vs = some m') : ∃ w', (Instr.storeAt t x v).run G.P C.w = .ok () w' ∧ Nxt G base bx0 C w' m' fun _ => True := by
  unfold Cfg.storeOf at hvs
  split at hvs
  · rename_i hcond
    obtain ⟨hsz, hone⟩ := hcond
    cases hvs
    obtain ⟨h1, h2, h3⟩ := cells_rv hy hone
    have hst : ∀ b off cur ty, C.w.heap[b]? = some (.cells cur ty (0, 0)) → off + y.cells.length ≤ cur.size →
        (Instr.storeAt t (.pointer (some ⟨b, off, none⟩)) v).run G.P C.w = .ok () (C.w.setRow b (cur.toList.take off ++ v.cells.toList ++ cur.toList.drop (off + v.cells.toList.length)).toArray) := by
      intro b off cur ty hc hle
      have e := run_storeCells_at G.P b off ty v.cells.toList 0 cur C.w hc (by simp; omega) (fun u hu => h2 u (by simpa using hu))
      simp only [Nat.add_zero] at e
      simp [Instr.storeAt, Instr.sureAddr, storeVar, csz_run hsz, h1, e]
    have newget : ∀ (off : Nat) (cur : Array Value), off + y.cells.length ≤ cur.size → ∀ j, (cur.toList.take off ++ v.cells.toList ++ cur.toList.drop (off + v.cells.toList.length)).toArray[j]? =
        if off ≤ j ∧ j < off + y.cells.length then v.cells[j - off]? else cur[j]? := by
      intro off cur hle j
      simp only [List.getElem?_toArray]
      rw [List.append_assoc, List.getElem?_append, List.getElem?_append, List.length_take, Nat.min_eq_left (by simp; omega)]
      simp only [Array.length_toList, h1]
      by_cases q1 : j < off
      · rw [if_pos q1, if_neg (by omega), List.getElem?_take, if_pos q1, Array.getElem?_toList]
      · rw [if_neg q1]
        by_cases q2 : j - off < y.cells.length
        · rw [if_pos q2, if_pos (by omega), Array.getElem?_toList]
        · rw [if_neg q2, if_neg (by omega), List.getElem?_drop, Array.getElem?_toList]
          congr 1
          omega
    cases p <;> simp only [Mem.putAt] at hm <;> try (cases hm; done)
    case wel cs =>
      cases cs with
      | nil => cases hm
      | cons c0 cr =>
        cases c0 <;> simp only at hm <;> try (cases hm; done)
        rename_i x0
        split at hm
        · rename_i y0 hyc
          split at hm
          · rename_i hcond
            cases hm
            cases h with
            | wel _ b off f hW hb hcl hl hr =>
              have hc0 := hcl 0 _ rfl
              have hr0 := hr 0 _ rfl
              obtain ⟨cur, ty, hcur⟩ := M.wild.soft b hW
              simp only [Nat.add_zero] at hc0
              rw [cell_of_row C.w b off cur ty _ hcur] at hc0
              have hlt : off < cur.size := (Array.getElem?_eq_some_iff.1 hc0).1
              have hk0 : sameK x0 (f 0) := by cases hr0 with | any _ _ h => exact h
              have hvc : v.cells = #[y0] := by
                have e1 : v.cells.size = 1 := by rw [h1, hyc]; rfl
                have e2 := h3 0 (.v y0) v.cells[0] (by rw [hyc]; rfl) (Array.getElem?_eq_getElem (by omega))
                have e3 : v.cells[0] = y0 := by cases e2; rfl
                exact Array.ext (by simp [e1]) fun i hi1 hi2 => by
                  have : i = 0 := by omega
                  subst this
                  simpa using e3
              have hrun := hst b off cur ty hcur (by rw [hyc]; simp; omega)
              have enew : (cur.toList.take off ++ v.cells.toList ++ cur.toList.drop (off + v.cells.toList.length)).toArray = cur.setIfInBounds off y0 := by
                rw [hvc]
                refine Array.ext ?_ ?_
                · simp; omega
                · intro i hi1 hi2
                  have q : (cur.toList.take off ++ [y0] ++ cur.toList.drop (off + 1)).toArray[i]? = (cur.setIfInBounds off y0)[i]? := by
                    have := newget off cur (by rw [hyc]; simp; omega) i
                    rw [hvc, hyc] at this
                    simp only [List.length_singleton] at this
                    refine this.trans ?_
                    rw [Array.getElem?_setIfInBounds]
                    by_cases hio : off = i
                    · subst hio
                      rw [if_pos (by omega), if_pos rfl, if_pos hlt]
                      simp
                    · rw [if_neg (by omega), if_neg hio]
                  have q1 := Array.getElem?_eq_getElem hi1
                  have q2 := Array.getElem?_eq_getElem hi2
                  have q3 : (cur.toList.take off ++ [y0] ++ cur.toList.drop (off + 1)).toArray[i]? = some _ := q1
                  rw [q, q2] at q3
                  exact (Option.some.inj q3).symm
              refine ⟨_, hrun, ?_⟩
              rw [enew]
              exact Nxt.putWild M hcond.1 b off hW cur ty hcur (f 0) y0 hc0 (sameK_trans (sameK_symm hk0) (sameK_of hcond.2))
          · cases hm
        · cases hm
    case box k off =>
      cases h with
      | box _ _ b hb =>
        cases hbx : m.boxes[k]? with
        | none => simp [hbx] at hm
        | some cs =>
          simp only [hbx, Option.bind_some] at hm
          split at hm
          · rename_i hle
            cases hm
            obtain ⟨cur, ty, hcur, hs, hr⟩ := M.box k b cs hb hbx
            have hle' := hle.1
            refine ⟨_, hst b off cur ty hcur (by omega), ?_⟩
            refine Nxt.putBox M k b cs _ cur (cur.toList.take off ++ v.cells.toList ++ cur.toList.drop (off + v.cells.toList.length)).toArray ty hb hle.2 hbx hcur _ rfl rfl rfl (by simp [World.setRow]) (setRow_heap C.w b cur _ ty (0, 0) hcur) (fun j hj => setRow_other C.w b j _ hj) ?_ ?_ (fun _ _ _ _ => trivial)
            · rw [splice_length (by omega)]
              simp [h1]
              omega
            · intro j c u hc hu
              rw [splice_get (by omega)] at hc
              rw [newget off cur (by omega)] at hu
              split at hc
              · rename_i hj
                rw [if_pos hj] at hu
                exact h3 _ c u hc hu
              · rename_i hj
                rw [if_neg hj] at hu
                exact hr j c u hc hu
          · cases hm
    case ael i n idx off =>
      split at hm
      · rename_i hk
        obtain ⟨I, xs, hI, ⟨g, cap, hv, rfl⟩, z1, z2, z3, z4, z5, z6⟩ := ael_rv M h hk
        cases hrow : (m.arrs i).es[idx]? with
        | none => simp [hrow] at hm
        | some r =>
          simp only [hrow, Option.bind_some] at hm
          split at hm
          · rename_i hle
            cases hm
            have hrl : r.length = I.size := z4 r (List.mem_of_getElem? hrow)
            have hidx : idx < (m.arrs i).es.length := (List.getElem?_eq_some_iff.1 hrow).1
            have hfit : (idx + 1) * I.size ≤ I.len * I.size := Nat.mul_le_mul_right _ (by omega)
            rw [Nat.add_mul, Nat.one_mul] at hfit
            have ho := z5
            rcases z5.2 with ⟨e0, _⟩ | ⟨g', cap', cur, e0, hb, hcur, hnc, hcm, hcs, htake⟩
            · rw [hv] at e0; cases e0
            · rw [hv] at e0
              simp only [Value.slice.injEq, Option.some.injEq, Addr.mk.injEq, and_true, true_and] at e0
              obtain ⟨rfl, rfl⟩ := e0
              have hcap : I.len * I.size ≤ cap * I.size := Nat.mul_le_mul_right _ hnc
              have hpos : idx * I.size + off + y.cells.length ≤ cur.size := by omega
              refine ⟨_, hst g (idx * I.size + off) cur _ hcur hpos, ?_⟩
              have hgx : ∀ j, j < I.len * I.size → xs[j]? = cur[j]? := by
                intro j hj
                rw [← htake, List.getElem?_take, if_pos hj, Array.getElem?_toList]
              refine Nxt.putEl M i I hI (C.w.setRow g (cur.toList.take (idx * I.size + off) ++ v.cells.toList ++ cur.toList.drop (idx * I.size + off + v.cells.toList.length)).toArray) ⟨rfl, rfl, rfl, by simp [World.setRow], fun k hk hne => setRow_other C.w g k _ (fun e => hne (by rw [hv, e]; rfl))⟩
                ((cur.toList.take (idx * I.size + off) ++ v.cells.toList ++ cur.toList.drop (idx * I.size + off + v.cells.toList.length)).take (I.len * I.size)) ((m.arrs i).es.set idx (splice r y.cells off)) (by simp [z3]) ?_ ?_ ?_ (fun _ _ _ _ => trivial)
              · intro q hq
                rcases List.mem_or_eq_of_mem_set hq with hq | hq
                · exact z4 q hq
                · rw [hq, splice_length (by omega)]
                  exact hrl
              · refine ⟨?_, .inr ⟨g, cap, _, hv, hb, setRow_heap C.w g cur _ _ (0, 0) hcur, hnc, hcm, ?_, ?_⟩⟩
                · simp [h1]
                  omega
                · simp [h1]
                  omega
                · rfl
              · intro idx' j q c u hq hc hu
                have hq1 : idx' < (m.arrs i).es.length := by have := (List.getElem?_eq_some_iff.1 hq).1; simpa using this
                have hql : q.length = I.size := by
                  rcases List.mem_or_eq_of_mem_set (List.mem_of_getElem? hq) with hq | hq
                  · exact z4 q hq
                  · rw [hq, splice_length (by omega)]
                    exact hrl
                have hj : j < I.size := by have := (List.getElem?_eq_some_iff.1 hc).1; omega
                have hlt : idx' * I.size + j < I.len * I.size := by
                  have : (idx' + 1) * I.size ≤ I.len * I.size := Nat.mul_le_mul_right _ (by omega)
                  rw [Nat.add_mul, Nat.one_mul] at this
                  omega
                rw [List.getElem?_take, if_pos hlt, ← List.getElem?_toArray, newget _ cur hpos] at hu
                rw [List.getElem?_set] at hq
                by_cases hii : idx = idx'
                · subst hii
                  rw [if_pos rfl, if_pos hidx] at hq
                  cases hq
                  rw [splice_get (by omega)] at hc
                  by_cases hin : off ≤ j ∧ j < off + y.cells.length
                  · rw [if_pos hin] at hc
                    rw [if_pos (by omega)] at hu
                    refine h3 (j - off) c u hc ?_
                    rw [← hu]
                    congr 1
                    omega
                  · rw [if_neg hin] at hc
                    rw [if_neg (by omega), ← hgx _ hlt] at hu
                    exact z6 idx j r c u hrow hc hu
                · rw [if_neg hii] at hq
                  have hout : ¬ (idx * I.size + off ≤ idx' * I.size + j ∧ idx' * I.size + j < idx * I.size + off + y.cells.length) := by
                    rintro ⟨q1, q2⟩
                    rcases Nat.lt_or_gt_of_ne hii with hlt2 | hlt2
                    · have : (idx + 1) * I.size ≤ idx' * I.size := Nat.mul_le_mul_right _ hlt2
                      rw [Nat.add_mul, Nat.one_mul] at this
                      omega
                    · have : (idx' + 1) * I.size ≤ idx * I.size := Nat.mul_le_mul_right _ hlt2
                      rw [Nat.add_mul, Nat.one_mul] at this
                      omega
                  rw [if_neg hout, ← hgx _ hlt] at hu
                  exact z6 idx' j q c u hq hc hu
          · cases hm
      · cases hm
  · cases hvs

end Go.Proofs.YtokhnmchnfkiiaaDoor.Am

/- The abstract machine: operations that only reckon are what the model does. No conditions. -/
namespace Go.Proofs.YtokhnmchnfkiiaaDoor.Am
open Go Go.RowKit
set_option linter.unusedSimpArgs false
set_option linter.unusedVariables false

/-- What is asked of the types that are told to be three i64: the model's test of two of their values. -/
def Cfg.Vers (G : Cfg) : Prop := ∀ t, G.verT t = true → ∀ (x y : Operand) (a1 a2 a3 b1 b2 b3 : Int) (w : World),
  (do eqGuard .eql t x y (.agg #[.int .i64 a1, .int .i64 a2, .int .i64 a3]) (.agg #[.int .i64 b1, .int .i64 b2, .int .i64 b3]); binOp .eql t (.agg #[.int .i64 a1, .int .i64 a2, .int .i64 a3]) (.agg #[.int .i64 b1, .int .i64 b2, .int .i64 b3]) : Sem Value).run G.P w =
    .ok (.bool (decide (a1 = b1 ∧ a2 = b2 ∧ a3 = b3))) w ∧
  (do eqGuard .neq t x y (.agg #[.int .i64 a1, .int .i64 a2, .int .i64 a3]) (.agg #[.int .i64 b1, .int .i64 b2, .int .i64 b3]); binOp .neq t (.agg #[.int .i64 a1, .int .i64 a2, .int .i64 a3]) (.agg #[.int .i64 b1, .int .i64 b2, .int .i64 b3]) : Sem Value).run G.P w =
    .ok (.bool (decide (¬ (a1 = b1 ∧ a2 = b2 ∧ a3 = b3)))) w

theorem eqGuard_int {op : BinOp} {t : TypeId} {x y : Operand} {k k' : IntKind} {a b : Int} (P : Program) (w : World) : (eqGuard op t x y (.int k a) (.int k' b)).run P w = .ok () w := by
  unfold eqGuard
  simp
theorem eqGuard_string {op : BinOp} {t : TypeId} {x y : Operand} {a b : ByteArray} (P : Program) (w : World) : (eqGuard op t x y (.string a) (.string b)).run P w = .ok () w := by
  unfold eqGuard
  simp
theorem eqGuard_bool {op : BinOp} {t : TypeId} {x y : Operand} {a b : Bool} (P : Program) (w : World) : (eqGuard op t x y (.bool a) (.bool b)).run P w = .ok () w := by
  unfold eqGuard
  simp

theorem bytes_eq (a b : ByteArray) : (a.toList == b.toList) = decide (a = b) := by
  rw [ByteArray.toList_eq, ByteArray.toList_eq]
  by_cases h : a = b
  · subst h; simp
  · rw [decide_eq_false h]
    simp only [beq_eq_false_iff_ne, ne_eq]
    intro e
    apply h
    cases a; cases b
    simp only [ByteArray.mk.injEq]
    exact Array.ext' e

theorem isBool_under {G : Cfg} {t : TypeId} (h : G.isBool t = true) : G.P.underlying t = some .bool := by
  unfold Cfg.isBool at h
  split at h
  · assumption
  · cases h

theorem abin_run {G : Cfg} {op : BinOp} {t : TypeId} {x y : Operand} {a b r : Value} (h : abin op a b = some r) (hb : ∀ p, a = .bool p → G.isBool t = true) (w : World) :
    (do eqGuard op t x y a b; binOp op t a b : Sem Value).run G.P w = .ok r w := by
  unfold abin at h
  split at h
  · split at h
    · rename_i k a k' b hk
      subst hk
      rw [Sem.run_bind, eqGuard_int, Result.andThen_ok]
      cases op <;> simp only at h <;> first
        | (cases h; done)
        | (cases h; simp [binOp, Op.intArith, Op.intCmp]; done)
        | (cases h; simp [binOp, Op.intBits, andF]; done)
        | (split at h
           · cases h
           · rename_i h0
             cases h
             simp [binOp, Op.intDiv, h0])
        | (cases h
           simp only [binOp, Op.intCmp, ne_eq, not_true_eq_false, if_false, Sem.run_pure, Result.ok.injEq, Value.bool.injEq, and_true]
           first | rfl | (rw [Bool.eq_iff_iff]; simp))
    · cases h
  · rename_i a b
    rw [Sem.run_bind, eqGuard_string, Result.andThen_ok]
    have eo : ∀ o, (o = .add ∨ o = .eql ∨ o = .neq ∨ o = .lss ∨ o = .gtr) → binOp o t (.string a) (.string b) = Op.stringOp o a b := by
      rintro o (rfl | rfl | rfl | rfl | rfl) <;> rfl
    cases op <;> simp only at h <;> try (cases h; done)
    · split at h
      · rename_i h0
        cases h
        rw [eo _ (by simp)]
        unfold Op.stringOp
        have hm : ¬ (((a.size + b.size : Nat) : Int) > IntKind.i64.max) := by
          have : IntKind.i64.max = 9223372036854775807 := by decide
          omega
        simp only [hm, if_false, Sem.run_pure]
      · cases h
    · cases h
      rw [eo _ (by simp)]
      simp only [Op.stringOp, Sem.run_pure, bytes_eq]
    · cases h
      rw [eo _ (by simp)]
      simp only [Op.stringOp, Sem.run_pure, bytes_eq, Result.ok.injEq, Value.bool.injEq, and_true]
      simp
    · cases h
      rw [eo _ (by simp)]
      simp only [Op.stringOp, Sem.run_pure, ByteArray.toList_eq]
    · cases h
      rw [eo _ (by simp)]
      simp only [Op.stringOp, Sem.run_pure, bytes_eq]
      simp only [ByteArray.toList_eq]
  · rename_i a b
    have hu := isBool_under (hb a rfl)
    have e : Op.equal t (.bool a) (.bool b) = Op.equalIn (9999 + 1) t (.bool a) (.bool b) := rfl
    have er : ∀ w, (Op.equal t (.bool a) (.bool b)).run G.P w = .ok (a == b) w := by
      intro w
      rw [e]
      unfold Op.equalIn
      simp [run_underlying hu]
    rw [Sem.run_bind, eqGuard_bool, Result.andThen_ok]
    cases op <;> simp only at h <;> try (cases h; done)
    · cases h
      have eb : binOp .eql t (.bool a) (.bool b) = (do pure (.bool (← Op.equal t (.bool a) (.bool b)))) := rfl
      rw [eb, Sem.run_bind, er]
      rfl
    · cases h
      have eb : binOp .neq t (.bool a) (.bool b) = (do pure (.bool (!(← Op.equal t (.bool a) (.bool b))))) := rfl
      rw [eb, Sem.run_bind, er]
      rfl
  · cases h

theorem ashift_run {G : Cfg} {op : BinOp} {t : TypeId} {x y : Operand} {a b r : Value} (hop : op = .shl ∨ op = .shr) (h : ashift op a b = some r) (w : World) :
    (do eqGuard op t x y a b; binOp op t a b : Sem Value).run G.P w = .ok r w := by
  unfold ashift at h
  split at h
  · rename_i k a k' b
    rw [Sem.run_bind, eqGuard_int, Result.andThen_ok]
    rcases hop with rfl | rfl <;> simp only at h <;>
      (split at h
       · cases h
       · rename_i h0
         cases h
         simp [binOp, Op.shift, h0])
  · cases h

theorem rv_v {C : Ctx} {p x : Value} (h : RV C (.v p) x) : x = p := by cases h; rfl
theorem rv_three {C : Ctx} {p1 p2 p3 vx : Value} (hh : RV C (.agg [.v p1, .v p2, .v p3]) vx) : vx = .agg #[p1, p2, p3] := by
  cases hh with
  | agg _ vs hl hq =>
    have hs : vs.size = 3 := hl.symm
    have q0 := rv_v (hq 0 (.v p1) vs[0] rfl (Array.getElem?_eq_getElem (by omega)))
    have q1 := rv_v (hq 1 (.v p2) vs[1] rfl (Array.getElem?_eq_getElem (by omega)))
    have q2 := rv_v (hq 2 (.v p3) vs[2] rfl (Array.getElem?_eq_getElem (by omega)))
    refine congrArg Value.agg (Array.ext (by rw [hs]; rfl) ?_)
    intro i hi1 hi2
    have hi : i = 0 ∨ i = 1 ∨ i = 2 := by omega
    rcases hi with rfl | rfl | rfl
    · exact q0
    · exact q1
    · exact q2

theorem rv_vals {C : Ctx} {l : List Value} {vx : Value} (hh : RV C (.agg (l.map .v)) vx) : vx = .agg l.toArray := by
  cases hh with
  | agg _ vs hl hq =>
    rw [List.length_map] at hl
    refine congrArg Value.agg (Array.ext (by simp [hl]) ?_)
    intro i h1 h2
    have h3 : i < l.length := by simpa using h2
    have := rv_v (hq i (.v l[i]) vs[i] (by simp [h3]) (Array.getElem?_eq_getElem h1))
    simpa using this
theorem eqf_step {P : Program} {w : World} {d : Nat} {f : Field} {xs ys : Array Value} {va vb : Value} {b r : Bool} {fs : List Field} (hn : (f.name == "_") = false) (hx : (part f.type xs f.offset).run P w = .ok va w) (hy : (part f.type ys f.offset).run P w = .ok vb w)
    (he : (Op.equalIn d f.type va vb).run P w = .ok b w) (hr : (Op.eqFields d xs ys fs).run P w = .ok r w) : (Op.eqFields d xs ys (f :: fs)).run P w = .ok (b && r) w := by
  have hn' : f.name ≠ "_" := by simpa using hn
  rw [Op.eqFields]
  simp only [if_pos hn', Sem.run_bind, hx, hy, he, Result.andThen_ok]
  cases b
  · simp
  · simpa using hr
theorem i64T_under {P : Program} {t : TypeId} (h : isI64T P t = true) : P.underlying t = some (.int .i64) := by
  unfold isI64T at h
  split at h
  · assumption
  · cases h
theorem strT_under {P : Program} {t : TypeId} (h : isStrT P t = true) : P.underlying t = some .string := by
  unfold isStrT at h
  split at h
  · assumption
  · cases h
theorem part_cell {P : Program} {w : World} {ty : TypeId} {xs : Array Value} {off : Nat} {v : Value} (hu : P.underlying ty = some (.int .i64) ∨ P.underlying ty = some .string) (hv : xs[off]? = some v) : (part ty xs off).run P w = .ok v w := by
  rcases hu with hu | hu <;> simp [part, isAgg, run_underlying hu, hv]
theorem toList_three {fs : Array Field} {f0 f1 f2 : Field} (h : fs.toList = [f0, f1, f2]) : fs = #[f0, f1, f2] := Array.ext' h
theorem verT_parts {P : Program} {t : TypeId} (h : isVerT P t = true) : ∃ f0 f1 f2, P.underlying t = some (.struct #[f0, f1, f2]) ∧ P.stoodInHeld t = false ∧ ((f0.name == "_") = false ∧ (f1.name == "_") = false ∧ (f2.name == "_") = false) ∧ (f0.offset = 0 ∧ f1.offset = 1 ∧ f2.offset = 2) ∧
    isI64T P f0.type = true ∧ isI64T P f1.type = true ∧ isI64T P f2.type = true := by
  unfold isVerT at h
  split at h
  · rename_i fs hu
    split at h
    · rename_i f0 f1 f2 hf
      rw [toList_three hf] at hu
      simp only [Bool.and_eq_true, Bool.not_eq_true', decide_eq_true_eq] at h
      obtain ⟨⟨⟨⟨⟨⟨⟨⟨⟨h1, h2⟩, h3⟩, h4⟩, h5⟩, h6⟩, h7⟩, h8⟩, h9⟩, h10⟩ := h
      exact ⟨f0, f1, f2, hu, h1, ⟨h2, h3, h4⟩, ⟨h5, h6, h7⟩, h8, h9, h10⟩
    · cases h
  · cases h
theorem ver_eq {P : Program} {t : TypeId} (h : isVerT P t = true) (w : World) (d : Nat) (a1 a2 a3 b1 b2 b3 : Int) :
    (Op.equalIn (d + 2) t (.agg #[.int .i64 a1, .int .i64 a2, .int .i64 a3]) (.agg #[.int .i64 b1, .int .i64 b2, .int .i64 b3])).run P w = .ok (decide (a1 = b1 ∧ a2 = b2 ∧ a3 = b3)) w := by
  obtain ⟨f0, f1, f2, hu, hp, ⟨n0, n1, n2⟩, ⟨o0, o1, o2⟩, u0, u1, u2⟩ := verT_parts h
  have hf : P.fieldsOf t = #[f0, f1, f2] := by simp [Program.fieldsOf, hu]
  rw [run_equalIn_struct (P := P) w _ t _ _ (by rw [hf]; exact hu) hp, hf]
  have e := fun (f : Field) (a b : Int) (hu : isI64T P f.type = true) => run_equalIn_int (P := P) w d f.type .i64 .i64 a b (i64T_under hu)
  have h3 : (Op.eqFields (d + 1) #[.int .i64 a1, .int .i64 a2, .int .i64 a3] #[.int .i64 b1, .int .i64 b2, .int .i64 b3] []).run P w = .ok true w := by simp [Op.eqFields]
  have h2 := eqf_step (f := f2) (va := .int .i64 a3) (vb := .int .i64 b3) n2 (part_cell (.inl (i64T_under u2)) (by rw [o2]; rfl)) (part_cell (.inl (i64T_under u2)) (by rw [o2]; rfl)) (e f2 a3 b3 u2) h3
  have h1 := eqf_step (f := f1) (va := .int .i64 a2) (vb := .int .i64 b2) n1 (part_cell (.inl (i64T_under u1)) (by rw [o1]; rfl)) (part_cell (.inl (i64T_under u1)) (by rw [o1]; rfl)) (e f1 a2 b2 u1) h2
  have h0 := eqf_step (f := f0) (va := .int .i64 a1) (vb := .int .i64 b1) n0 (part_cell (.inl (i64T_under u0)) (by rw [o0]; rfl)) (part_cell (.inl (i64T_under u0)) (by rw [o0]; rfl)) (e f0 a1 b1 u0) h1
  refine h0.trans ?_
  congr 1
  by_cases q1 : a1 = b1 <;> by_cases q2 : a2 = b2 <;> by_cases q3 : a3 = b3 <;> simp [q1, q2, q3]
theorem part_ver {P : Program} {w : World} {ty : TypeId} (h : isVerT P ty = true) (hz : (P.info? ty).map (·.size) = some 3) {xs : Array Value} {off : Nat} : (part ty xs off).run P w = .ok (.agg (xs.extract off (off + 3))) w := by
  obtain ⟨f0, f1, f2, hu, _⟩ := verT_parts h
  cases hi : P.info? ty with
  | none => rw [hi] at hz; cases hz
  | some i =>
    rw [hi] at hz
    simp only [Option.map_some, Option.some.injEq] at hz
    simp [part, isAgg, run_underlying hu, sizeOf, typeInfo, hi, hz]
theorem trm_eq {P : Program} {t : TypeId} (h : isTrmT P t = true) (w : World) (x y : Operand) (s z : ByteArray) (a1 a2 a3 a4 a5 a6 b1 b2 b3 b4 b5 b6 : Int) :
    (do eqGuard .eql t x y (.agg #[.string s, .int .i64 a1, .int .i64 a2, .int .i64 a3, .int .i64 a4, .int .i64 a5, .int .i64 a6]) (.agg #[.string z, .int .i64 b1, .int .i64 b2, .int .i64 b3, .int .i64 b4, .int .i64 b5, .int .i64 b6]); binOp .eql t (.agg #[.string s, .int .i64 a1, .int .i64 a2, .int .i64 a3, .int .i64 a4, .int .i64 a5, .int .i64 a6]) (.agg #[.string z, .int .i64 b1, .int .i64 b2, .int .i64 b3, .int .i64 b4, .int .i64 b5, .int .i64 b6]) : Sem Value).run P w =
    .ok (.bool (decide (s = z ∧ (a1 = b1 ∧ a2 = b2 ∧ a3 = b3) ∧ a4 = b4 ∧ a5 = b5 ∧ a6 = b6))) w := by
  obtain ⟨xs, hxs⟩ : ∃ xs : Array Value, xs = #[.string s, .int .i64 a1, .int .i64 a2, .int .i64 a3, .int .i64 a4, .int .i64 a5, .int .i64 a6] := ⟨_, rfl⟩
  obtain ⟨ys, hys⟩ : ∃ ys : Array Value, ys = #[.string z, .int .i64 b1, .int .i64 b2, .int .i64 b3, .int .i64 b4, .int .i64 b5, .int .i64 b6] := ⟨_, rfl⟩
  unfold isTrmT at h
  split at h
  case h_2 => cases h
  rename_i fs hu
  split at h
  case h_2 => cases h
  rename_i f0 f1 f2 hfs
  rw [toList_three hfs] at hu
  simp only [Bool.and_eq_true, Bool.not_eq_true', decide_eq_true_eq] at h
  obtain ⟨⟨⟨⟨⟨⟨⟨⟨⟨⟨⟨⟨hp, hg⟩, n0⟩, n1⟩, n2⟩, o0⟩, o1⟩, o2⟩, u0⟩, u1⟩, u2⟩, z1⟩, z2⟩ := h
  have hf : P.fieldsOf t = #[f0, f1, f2] := by simp [Program.fieldsOf, hu]
  have eqr : (Op.equal t (.agg xs) (.agg ys)).run P w = .ok (decide (s = z ∧ (a1 = b1 ∧ a2 = b2 ∧ a3 = b3) ∧ a4 = b4 ∧ a5 = b5 ∧ a6 = b6)) w := by
    unfold Op.equal
    rw [show Op.maxDepth = ((Op.maxDepth - 3) + 2) + 1 from rfl, run_equalIn_struct (P := P) w _ t _ _ (by rw [hf]; exact hu) hp, hf]
    have h3 : (Op.eqFields ((Op.maxDepth - 3) + 2) xs ys []).run P w = .ok true w := by simp [Op.eqFields]
    have h2 := eqf_step (f := f2) (va := .agg #[.int .i64 a4, .int .i64 a5, .int .i64 a6]) (vb := .agg #[.int .i64 b4, .int .i64 b5, .int .i64 b6]) n2 (by rw [part_ver u2 z2, o2, hxs]; rfl) (by rw [part_ver u2 z2, o2, hys]; rfl) (ver_eq u2 w _ a4 a5 a6 b4 b5 b6) h3
    have h1 := eqf_step (f := f1) (va := .agg #[.int .i64 a1, .int .i64 a2, .int .i64 a3]) (vb := .agg #[.int .i64 b1, .int .i64 b2, .int .i64 b3]) n1 (by rw [part_ver u1 z1, o1, hxs]; rfl) (by rw [part_ver u1 z1, o1, hys]; rfl) (ver_eq u1 w _ a1 a2 a3 b1 b2 b3) h2
    have h0 := eqf_step (f := f0) (va := .string s) (vb := .string z) n0 (part_cell (.inr (strT_under u0)) (by rw [o0, hxs]; rfl)) (part_cell (.inr (strT_under u0)) (by rw [o0, hys]; rfl)) (run_equalIn_string (P := P) w _ f0.type s z (strT_under u0)) h1
    refine h0.trans ?_
    rw [bytes_eq]
    congr 1
    by_cases q1 : s = z <;> by_cases q2 : a1 = b1 ∧ a2 = b2 ∧ a3 = b3 <;> by_cases q3 : a4 = b4 ∧ a5 = b5 ∧ a6 = b6 <;> simp [q1, q2, q3]
  rw [← hxs, ← hys]
  simp [eqGuard, hg, binOp, eqr]

theorem bin_run {G : Cfg} (V : G.Vers) {C : Ctx} {op : BinOp} {t : TypeId} {x y : Operand} {a b r : AV} {va vb : Value} (ha : RV C a va) (hb : RV C b vb) (h : G.bin op t a b = some r) (w : World) :
    ∃ v, (do eqGuard op t x y va vb; binOp op t va vb : Sem Value).run G.P w = .ok v w ∧ RV C r v := by
  unfold Cfg.bin at h
  split at h
  · have hva := rv_v ha
    have hvb := rv_v hb
    subst hva hvb
    by_cases hbool : G.boolOK t va = true
    · rw [if_pos hbool] at h
      split at h
      · cases hr : ashift .shl va vb with
        | none => simp [hr] at h
        | some q =>
          simp only [hr, Option.map_some, Option.some.injEq] at h
          subst h
          exact ⟨q, ashift_run (.inl rfl) hr w, .v q⟩
      · cases hr : ashift .shr va vb with
        | none => simp [hr] at h
        | some q =>
          simp only [hr, Option.map_some, Option.some.injEq] at h
          subst h
          exact ⟨q, ashift_run (.inr rfl) hr w, .v q⟩
      · cases hr : abin op va vb with
        | none => simp [hr] at h
        | some q =>
          simp only [hr, Option.map_some, Option.some.injEq] at h
          subst h
          exact ⟨q, abin_run hr (fun p hp => by subst hp; exact hbool) w, .v q⟩
    · rw [if_neg hbool] at h
      cases h
  · rename_i a1 a2 a3 b1 b2 b3
    split at h
    · rename_i hv
      have e1 := rv_three ha
      have e2 := rv_three hb
      subst e1 e2
      obtain ⟨v1, v2⟩ := V t hv x y a1 a2 a3 b1 b2 b3 w
      split at h
      · cases h; exact ⟨_, v1, .v _⟩
      · cases h; exact ⟨_, v2, .v _⟩
      · cases h
    · cases h
  · rename_i s a1 a2 a3 a4 a5 a6 z b1 b2 b3 b4 b5 b6
    split at h
    · rename_i hv
      have e1 := rv_vals (l := [.string s, .int .i64 a1, .int .i64 a2, .int .i64 a3, .int .i64 a4, .int .i64 a5, .int .i64 a6]) ha
      have e2 := rv_vals (l := [.string z, .int .i64 b1, .int .i64 b2, .int .i64 b3, .int .i64 b4, .int .i64 b5, .int .i64 b6]) hb
      subst e1 e2
      split at h
      · cases h; exact ⟨_, trm_eq hv w x y s z a1 a2 a3 a4 a5 a6 b1 b2 b3 b4 b5 b6, .v _⟩
      · cases h
    · cases h
  · cases h

end Go.Proofs.YtokhnmchnfkiiaaDoor.Am
