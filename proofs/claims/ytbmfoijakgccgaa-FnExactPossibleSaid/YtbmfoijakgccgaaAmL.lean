/- The abstract machine: an operation that calls no Go function does what the abstract state says. No conditions. -/
import Derived.Test.YtbmfoijakgccgaaAmK
import Derived.Laws.BytesString
namespace Go.Proofs.Ytbmfoijakgccgaa.Am
open Go Go.RowKit
set_option linter.unusedSimpArgs false
set_option linter.unusedVariables false

theorem push_all : ∀ (l : List UInt8) (s : ByteArray), (l.map fun b => (b.toNat : Int)).foldl (fun (r : ByteArray) (n : Int) => r.push (UInt8.ofNat n.toNat)) s = ⟨(s.data.toList ++ l).toArray⟩
  | [], s => by simp
  | b :: l, s => by
    simp only [List.map_cons, List.foldl_cons]
    rw [push_all l]
    congr 1
    have : (s.push (UInt8.ofNat ((b.toNat : Int)).toNat)).data = s.data.push b := by
      rw [Int.toNat_natCast, UInt8.ofNat_toNat]
      rfl
    rw [this]
    simp

theorem bytes_run (P : Program) (w : World) (a : Addr) (len cap : Nat) (l : List UInt8) (hl : l.length = len) (h : ∀ j, j < len → w.cell? (a.add j) = some (.int .u8 ((l.getD j 0).toNat : Int))) :
    (Conv.bytesToString (.slice (some a) len cap)).run P w = .ok (.string ⟨l.toArray⟩) w := by
  have e := run_loadCells (P := P) w a len (fun j => .int .u8 ((l.getD j 0).toNat : Int)) h
  have e2 : ((List.range len).map fun j => Value.int .u8 ((l.getD j 0).toNat : Int)) = (l.map fun b => (b.toNat : Int)).map (Value.int .u8) := by
    apply List.ext_getElem?
    intro j
    by_cases hj : j < len
    · simp [hj, hl]
    · simp [hj, hl]
  rw [e2] at e
  rw [run_bytesToString w a len cap _ e, push_all]
  rfl

theorem bytesOf_get : ∀ (es : List (List AV)) (l : List UInt8), bytesOf es = some l → l.length = es.length ∧ ∀ i, i < es.length → es[i]? = some [.v (.int .u8 ((l.getD i 0).toNat : Int))]
  | [], l, h => by
    simp only [bytesOf, Option.some.injEq] at h
    subst h
    exact ⟨rfl, fun i hi => by simp at hi⟩
  | e :: es, l, h => by
    unfold bytesOf at h
    split at h
    · rename_i hnil; cases hnil
    · rename_i n r hc
      cases hc
      split at h
      · rename_i hn
        obtain ⟨l', h1, h2⟩ := Option.map_eq_some_iff.1 h
        subst h2
        obtain ⟨ih1, ih2⟩ := bytesOf_get _ l' h1
        refine ⟨by simp [ih1], ?_⟩
        intro i hi
        cases i with
        | zero =>
          simp only [List.getElem?_cons_zero, List.getD_cons_zero, Option.some.injEq, List.cons.injEq, AV.v.injEq, Value.int.injEq, true_and, and_true]
          have : (UInt8.ofNat n.toNat).toNat = n.toNat := by
            rw [UInt8.toNat_ofNat']
            omega
          omega
        | succ i =>
          simp only [List.getElem?_cons_succ, List.getD_cons_succ]
          exact ih2 i (by simpa using hi)
      · cases h
    · cases h

theorem conv_run {G : Cfg} {base : Nat} {bx0 : List Nat} {C : Ctx} {m : Mem} (M : MemOK G base bx0 C m) {s d : TypeId} {a x : AV} {v : Value} (ha : RV C a v) (h : G.conv m s d a = some x) (hs : ∃ ds, G.P.underlying s = some ds) :
    ∃ u, (convert s d v).run G.P C.w = .ok u C.w ∧ RV C x u := by
  obtain ⟨ds, hds⟩ := hs
  unfold Cfg.conv at h
  split at h
  · rename_i k n
    have := rv_v ha; subst this
    obtain ⟨k', hk, h1⟩ := Option.map_eq_some_iff.1 h
    subst h1
    have hd := intK_under hk
    exact ⟨_, by simp [convert, run_underlying hds, run_underlying hd, Conv.intToInt], .v _⟩
  · rename_i x
    have := rv_v ha; subst this
    split at h
    · rename_i hc
      cases h
      have hd := isStr_under hc.1
      exact ⟨_, by simp [convert, run_underlying hds, run_underlying hd], .v _⟩
    · cases h
  · split at h
    · rename_i hc
      obtain ⟨h1, h2⟩ := hc
      obtain ⟨es, he, h3⟩ := Option.bind_eq_some_iff.1 h
      obtain ⟨l, hl, h4⟩ := Option.map_eq_some_iff.1 h3
      subst h4
      obtain ⟨el, hel, hk⟩ := Option.bind_eq_some_iff.1 h2
      have hu := elemT_under hel
      have hd := isStr_under h1
      have hku := intK_under hk
      obtain ⟨b1, b2⟩ := bytesOf_get es l hl
      have hall : es.all (·.length == 1) = true := by
        rw [List.all_eq_true]
        intro r hr
        obtain ⟨i, hi, rfl⟩ := List.getElem_of_mem hr
        have := b2 i hi
        rw [List.getElem?_eq_getElem hi] at this
        rw [Option.some.inj this]
        rfl
      obtain ⟨ad, cap, f, rfl, hf, hcells⟩ := elems_rv M ha he hall
      refine ⟨.string ⟨l.toArray⟩, ?_, .v _⟩
      rw [run_convert_bytes_string C.w s d el ad es.length cap hu hku hd]
      by_cases hne : es = []
      · subst hne
        have hl0 : l = [] := List.eq_nil_of_length_eq_zero (by simpa using b1)
        subst hl0
        cases ad with
        | none => rfl
        | some ad =>
          exact bytes_run G.P C.w ad 0 cap [] rfl (by simp)
      · obtain ⟨b, off, rfl, hc⟩ := hcells hne
        refine bytes_run G.P C.w _ _ cap l b1 ?_
        intro j hj
        have hr := b2 j hj
        have h0 := hc j 0 _ _ hr rfl
        have hv := hf j 0 _ _ hr rfl
        rw [Addr.add_lit]
        simp only [Nat.mul_one, Nat.add_zero] at h0
        rw [h0, rv_v hv]
    · cases h

/-- len of a string, of a slice. -/
theorem len_run {G : Cfg} {base : Nat} {bx0 : List Nat} {C : Ctx} {m : Mem} (M : MemOK G base bx0 C m) {t e ty : TypeId} (ht : G.elemT t = some e) {x : AV} {v : Value} (hx : RV C x v) {es : List (List AV)} (he : m.elems x = some es) (w : World) :
    (Builtin.len_ #[t] ty #[v]).run G.P w = .ok (.int .i64 es.length) w := by
  have hu := elemT_under ht
  have : ∃ a cap, v = .slice a es.length cap := by
    cases x <;> simp only [Mem.elems] at he <;> try (cases he; done)
    · cases he
      cases hx with
      | sl0 => exact ⟨_, _, rfl⟩
      | sl => exact ⟨_, _, rfl⟩
    · cases he
      cases hx with
      | nil => exact ⟨_, _, rfl⟩
    · rename_i i n off len
      split at he
      · rename_i hk
        cases he
        obtain ⟨I, xs, hI, hs, z1, z2, z3, z4, z5, z6⟩ := arr_rv M hx hk
        obtain ⟨hle, a0, cap0, a', _, hv0, _⟩ := hs
        have hlen : (((m.arrs i).es.drop off).take len).length = len := by simp; omega
        exact ⟨a', cap0 - off, by rw [hlen]; exact hv0⟩
      · cases he
  obtain ⟨a, cap, rfl⟩ := this
  simp [Builtin.len_, run_underlying hu, goInt]


theorem val_some {a : Option AV} {m m' : Mem} {x : AV} (h : a.map (·, m) = some (x, m')) : a = some x ∧ m' = m := by
  cases a with
  | none => cases h
  | some y => simp only [Option.map_some, Option.some.injEq, Prod.mk.injEq] at h; exact ⟨by rw [h.1], h.2.symm⟩

/-- An operation that calls no Go function: what the model does is what the abstract state says. -/
theorem aval_sound {G : Cfg} (V : G.Vers) {base : Nat} {bx0 : List Nat} {C : Ctx} {st : St} {a : Act} {o : Oper} {x : AV} {m' : Mem} (M : MemOK G base bx0 C st.mem) (E : ∀ t, RV C (st.env t) (a.tmps.getD t undef)) (h : aval G o st = some (x, m')) :
    ∃ nx w', (execOp a.eval o).run G.P C.w = .ok nx w' ∧ Nxt G base bx0 C w' m' fun C' => (∃ v, nx = .value v ∧ RV C' x v) ∨ (nx = .skip ∧ x = .dead) := by
  have ev := rv_ev E
  -- an operation that yields a value and leaves memory as it is
  have plain : ∀ {s : Sem Value}, (execOp a.eval o = do pure (.value (← s))) → m' = st.mem → (∃ u, s.run G.P C.w = .ok u C.w ∧ RV C x u) →
      ∃ nx w', (execOp a.eval o).run G.P C.w = .ok nx w' ∧ Nxt G base bx0 C w' m' fun C' => (∃ v, nx = .value v ∧ RV C' x v) ∨ (nx = .skip ∧ x = .dead) := by
    rintro s he rfl ⟨u, hu, hr⟩
    exact ⟨.value u, C.w, by rw [he]; simp [hu], Nxt.here M (.inl ⟨u, rfl, hr⟩)⟩
  have wide : ∀ {s : Sem Value}, (execOp a.eval o = do pure (.value (← s))) → (∃ u w', s.run G.P C.w = .ok u w' ∧ Nxt G base bx0 C w' m' fun C' => RV C' x u) →
      ∃ nx w', (execOp a.eval o).run G.P C.w = .ok nx w' ∧ Nxt G base bx0 C w' m' fun C' => (∃ v, nx = .value v ∧ RV C' x v) ∨ (nx = .skip ∧ x = .dead) := by
    rintro s he ⟨u, w', hu, hr⟩
    exact ⟨.value u, w', by rw [he]; simp [hu], hr.mono fun C1 _ _ q => .inl ⟨u, rfl, q⟩⟩
  obtain ⟨dst, op, ty, pos, aft, gd⟩ := o
  cases op
  case move y => cases h; exact ⟨.value (a.eval y), C.w, rfl, Nxt.here M (.inl ⟨_, rfl, ev y⟩)⟩
  case assign y => cases h; exact ⟨.value (a.eval y), C.w, rfl, Nxt.here M (.inl ⟨_, rfl, ev y⟩)⟩
  case pick c p q =>
    obtain ⟨h1, rfl⟩ := val_some h
    obtain ⟨u, hu, hr⟩ := apick_run (ev c) (ev p) (ev q) h1 G.P C.w
    exact ⟨.value u, C.w, hu, Nxt.here M (.inl ⟨u, rfl, hr⟩)⟩
  case alloc t =>
    simp only [aval] at h
    split at h
    · obtain ⟨cs, hz, h2⟩ := Option.map_eq_some_iff.1 h
      cases h2
      exact wide rfl (alloc_run M hz)
    · cases h
  case box t y =>
    simp only [aval] at h
    split at h
    · rename_i hone
      cases h
      exact wide rfl (box_run M (ev y) hone)
    · cases h
  case load t p =>
    obtain ⟨h1, rfl⟩ := val_some h
    obtain ⟨cs, hc, hl⟩ := Option.bind_eq_some_iff.1 h1
    obtain ⟨b, off, hp, hcells⟩ := cellsAt_rv M (ev p) hc
    refine plain rfl rfl ?_
    obtain ⟨v, hv, hr⟩ := loadVar_run hcells hl
    exact ⟨v, by simp [Instr.loadAt, hp, Instr.sureAddr, hv], hr⟩
  case store t p y =>
    obtain ⟨vs, hvs, h1⟩ := Option.bind_eq_some_iff.1 h
    obtain ⟨m2, hm, h2⟩ := Option.map_eq_some_iff.1 h1
    cases h2
    obtain ⟨w', hw, hN⟩ := store_run M (ev p) (t := t) (ev y) hvs hm
    exact ⟨.skip, w', by simp [execOp, hw], hN.mono fun _ _ _ _ => .inr ⟨rfl, rfl⟩⟩
  case nilCheck y =>
    simp only [aval] at h
    have hy := ev y
    split at h
    · rename_i k off he
      cases h
      rw [he] at hy
      generalize hv : a.eval y = v at hy
      cases hy with
      | box _ _ b hb => exact ⟨_, C.w, by simp [execOp, hv], Nxt.here M (.inl ⟨_, rfl, .box _ _ b hb⟩)⟩
    · rename_i c cs he
      cases h
      rw [he] at hy
      generalize hv : a.eval y = v at hy
      have hy' := hy
      cases hy with
      | el _ _ b off f hN hb h1 h2 => exact ⟨_, C.w, by simp [execOp, hv], Nxt.here M (.inl ⟨_, rfl, hy'⟩)⟩
    · rename_i f p q he
      cases h
      rw [he] at hy
      generalize hv : a.eval y = v at hy
      have hy' := hy
      cases hy with
      | clo _ _ _ ps qs hp hq h1 h2 => exact ⟨_, C.w, by simp [execOp, hv], Nxt.here M (.inl ⟨_, rfl, hy'⟩)⟩
    · cases h
  case binOp op t p q yt =>
    obtain ⟨h1, rfl⟩ := val_some h
    exact plain rfl rfl (bin_run V (ev p) (ev q) h1 C.w)
  case unOp op t p =>
    obtain ⟨h1, rfl⟩ := val_some h
    exact plain rfl rfl (aun_run (ev p) h1 G.P C.w)
  case convert s d y =>
    simp only [aval] at h
    split at h
    · rename_i hs
      obtain ⟨h1, rfl⟩ := val_some h
      exact plain rfl rfl (conv_run M (ev y) h1 (Option.isSome_iff_exists.1 hs))
    · cases h
  case makeFunc fn first captured =>
    cases fn <;> simp only [aval] at h <;> try (cases h; done)
    rename_i f
    cases h
    refine plain (s := Instr.makeFunc (.func f) (first.map a.eval) (captured.map a.eval)) rfl rfl ⟨_, rfl, .clo f _ _ _ _ (by simp) (by simp) ?_ ?_⟩
    · intro j c v h1 h2
      simp only [List.getElem?_map, Array.getElem?_toList, Array.getElem?_map] at h1 h2
      cases hf : first[j]? with
      | none => simp [hf] at h1
      | some q => simp only [hf, Option.map_some, Option.some.injEq] at h1 h2; subst h1 h2; exact ev q
    · intro j c v h1 h2
      simp only [List.getElem?_map, Array.getElem?_toList, Array.getElem?_map] at h1 h2
      cases hf : captured[j]? with
      | none => simp [hf] at h1
      | some q => simp only [hf, Option.map_some, Option.some.injEq] at h1 h2; subst h1 h2; exact ev q
  case slice t y lo hi mx =>
    cases mx <;> simp only [aval] at h <;> try (cases h; done)
    have rvo : ∀ (o : Option Operand), RVo C (o.map st.ev) (o.map a.eval) := by
      intro o
      cases o with
      | none => exact .inl ⟨rfl, rfl⟩
      | some q => exact .inr ⟨_, _, rfl, rfl, ev q⟩
    obtain ⟨u, hu, hr⟩ := aslice_run M (ev y) (rvo lo) (rvo hi) h
    exact wide rfl ⟨u, C.w, hu, hr⟩
  case fieldAddr t p f =>
    simp only [aval] at h
    obtain ⟨q, hq, h1⟩ := Option.bind_eq_some_iff.1 h
    obtain ⟨z, hz, h2⟩ := Option.bind_eq_some_iff.1 h1
    split at h2
    · rename_i hz0
      have hp := ev p
      have ho := ptr_off hp q.1
      split at h2
      · rename_i k off he
        cases h2
        obtain ⟨b, hv, hr⟩ := ho.1 k off he
        exact plain rfl rfl ⟨_, by rw [hv]; exact fieldAt_run hq hz hz0 b off C.w, hr⟩
      · rename_i c cs he
        cases h2
        obtain ⟨b, off, hv, hr⟩ := ho.2 c cs he
        exact plain rfl rfl ⟨_, by rw [hv]; exact fieldAt_run hq hz hz0 b off C.w, hr⟩
      · rename_i i n idx off he
        split at h2
        · rename_i hk
          cases h2
          rw [he] at hp
          have hp' := hp
          obtain ⟨I, xs, hI, ⟨g, cap, hv, hx⟩, _⟩ := ael_rv M hp hk
          refine plain rfl rfl ⟨_, by rw [hx]; exact fieldAt_run hq hz hz0 g _ C.w, ?_⟩
          have hn : n ≤ C.ver i := by cases hp' with | ael _ _ _ _ _ _ hn _ => exact hn
          refine .ael i n idx (off + q.1) _ rfl hn ?_
          intro J hJ _
          rw [hI] at hJ
          cases hJ
          exact ⟨g, cap, hv, by rw [Nat.add_assoc]⟩
        · cases h2
      · cases h2
    · cases h2
  case field t y f =>
    simp only [aval] at h
    obtain ⟨q, hq, h1⟩ := Option.bind_eq_some_iff.1 h
    split at h1
    · rename_i cs he
      obtain ⟨h2, rfl⟩ := val_some h1
      have hy := ev y
      rw [he] at hy
      exact plain rfl rfl (field_run hq hy h2 C.w)
    · cases h1
  case indexAddr t y ix =>
    simp only [aval] at h
    have hy := ev y
    have hi := ev ix
    split at h
    · rename_i k n hix
      rw [hix] at hi
      have hn := rv_v hi
      split at h
      · rename_i h0
        split at h
        · rename_i c es he
          rw [he] at hy
          obtain ⟨e, hel, h1⟩ := Option.bind_eq_some_iff.1 h
          obtain ⟨z, hz, h2⟩ := Option.bind_eq_some_iff.1 h1
          split at h2
          · rename_i cs hcs
            split at h2
            · rename_i hc
              cases h2
              exact plain rfl rfl (by rw [hn]; exact indexAt_sl hel hz hy h0 hcs hc.2 C.w)
            · cases h2
          · cases h2
        · rename_i i kk off len he
          rw [he] at hy
          obtain ⟨e, hel, h1⟩ := Option.bind_eq_some_iff.1 h
          split at h1
          · rename_i hc
            cases h1
            exact plain rfl rfl (by rw [hn]; exact indexAt_arr M hel hy hc.1 hc.2.2 h0 hc.2.1 C.w)
          · cases h1
        · rename_i kk off he
          rw [he] at hy
          obtain ⟨q, hq, h1⟩ := Option.bind_eq_some_iff.1 h
          obtain ⟨z, hz, h2⟩ := Option.bind_eq_some_iff.1 h1
          split at h2
          · rename_i hc
            cases h2
            exact plain rfl rfl (by rw [hn]; exact indexAt_box hq hz hy h0 hc C.w)
          · cases h2
        · cases h
      · cases h
    · cases h
  case index t y ix =>
    simp only [aval] at h
    have hy := ev y
    have hi := ev ix
    split at h
    · rename_i s k n he1 he2
      rw [he1] at hy
      rw [he2] at hi
      have h1 := rv_v hy
      have h2 := rv_v hi
      split at h
      · rename_i hc
        cases h
        exact plain rfl rfl ⟨_, by rw [h1, h2]; exact index_str hc.1 hc.2.1 hc.2.2 C.w, .v _⟩
      · cases h
    · cases h
  case extract y k =>
    simp only [aval] at h
    have hy := ev y
    split at h
    · rename_i vs he
      rw [he] at hy
      obtain ⟨h1, rfl⟩ := val_some h
      exact plain rfl rfl (extract_run hy h1 G.P C.w)
    · cases h
  case build t parts =>
    simp only [aval] at h
    obtain ⟨places, hp, h1⟩ := Option.bind_eq_some_iff.1 h
    split at h1
    · obtain ⟨zs, hz, h2⟩ := Option.bind_eq_some_iff.1 h1
      obtain ⟨h3, rfl⟩ := val_some h2
      obtain ⟨cs, hf, h4⟩ := Option.map_eq_some_iff.1 h3
      subst h4
      refine plain rfl rfl (build_run hp hz (by simp) ?_ hf C.w)
      intro j p q h1 h2
      simp only [List.getElem?_map, Array.getElem?_toList, Array.getElem?_map] at h1 h2
      cases hq : parts[j]? with
      | none => simp [hq] at h1
      | some r => simp only [hq, Option.map_some, Option.some.injEq] at h1 h2; subst h1 h2; exact ⟨rfl, ev r.2⟩
    · cases h1
  case buildSlice t len parts =>
    simp only [aval] at h
    obtain ⟨e, he, h1⟩ := Option.bind_eq_some_iff.1 h
    obtain ⟨z, hz, h2⟩ := Option.bind_eq_some_iff.1 h1
    clear h h1
    by_cases hc : parts.toList.map (·.1) = List.range len ∧ (parts.toList.map fun p => (st.ev p.2).cells).all (·.length == z) = true ∧ (parts.toList.map fun p => (st.ev p.2).cells).all (·.all AV.one) = true ∧ 0 < z ∧ len * z ≤ 1000 ∧ G.zerOK e = true
    case neg => rw [if_neg hc] at h2; cases h2
    rw [if_pos hc] at h2
    obtain ⟨c1, c2, c3, c4, c5, c6⟩ := hc
    have hrows : (parts.toList.map fun p => (st.ev p.2).cells) = (parts.toList.map fun p => st.ev p.2).map AV.cells := by simp
    rw [hrows] at h2 c2 c3
    obtain ⟨cells, f, hrun, hcs, hf, hxl, hget⟩ := buildSlice_run (C := C) he hz c6 len (xs := parts.toList.map fun p => st.ev p.2) (qs := parts.map fun (i, x) => (i, a.eval x)) (by rw [← c1]; simp) (by simp) (by
      intro j p q h1 h2
      simp only [List.getElem?_map, Array.getElem?_toList, Array.getElem?_map] at h1 h2
      cases hq : parts[j]? with
      | none => simp [hq] at h1
      | some r => simp only [hq, Option.map_some, Option.some.injEq] at h1 h2; subst h1 h2; exact ev r.2) c2 c3 c4 c5
    have hrl : ∀ r ∈ (parts.toList.map fun p => st.ev p.2).map AV.cells, r.length = z := fun r hr => by have := List.all_eq_true.1 c2 r hr; simpa using this
    have hnl : ((parts.toList.map fun p => st.ev p.2).map AV.cells).length = len := by rw [List.length_map]; exact hxl
    generalize hR : (parts.toList.map fun p => st.ev p.2).map AV.cells = rows at *
    by_cases ho : (Option.map G.own dst).getD false = true
    · have ho' : (Option.map G.own ({ dst := dst, op := Op.buildSlice t len parts, type := ty, pos := pos, after := aft, guard := gd } : Oper).dst).getD false = true := ho
      rw [if_pos ho'] at h2
      obtain ⟨d, hd, h5⟩ := Option.map_eq_some_iff.1 h2
      refine wide rfl ⟨_, _, hrun, ?_⟩
      have ey : x = .arr d (((sealRows rows st.mem).2.arrs d).ver + 1) 0 (sealRows rows st.mem).1.length := (congrArg Prod.fst h5).symm
      have em : m' = { (sealRows rows st.mem).2 with arrs := fun j => if j = d then ⟨((sealRows rows st.mem).2.arrs d).ver + 1, true, e, (sealRows rows st.mem).1⟩ else (sealRows rows st.mem).2.arrs j } := (congrArg Prod.snd h5).symm
      subst ey em
      refine (seal_rows rows f M hf).bind ?_
      intro C1 hw _ K M1 hRR
      refine Nxt.setArr M1 d _ none (by rw [hw]; exact World.grownBy_alloc _ _ _) (fun _ h => by cases h) ⟨z, len, .slice (some ⟨C.w.heap.size, 0, none⟩) len len⟩ cells.toList e (sealRows rows st.mem).1 hz c4 (by rw [sealRows_length, hnl]) (sealRows_row rows st.mem _ hrl) ?_ ?_ ?_ ?_
      · exact World.ownsRow_lit C.w _ len (Nat.zero_le _) (by have : len ≤ len * z := Nat.le_mul_of_pos_right _ c4; simp only [maxLen]; omega) hcs
      · intro g hg
        cases hg
        exact .inl (by rw [hw]; exact Nat.le_refl _)
      · intro idx j r c u hi' hj hxu
        have hil : idx < len := by have := (List.getElem?_eq_some_iff.1 hi').1; rw [sealRows_length, hnl] at this; exact this
        have hjl : j < z := by have := (List.getElem?_eq_some_iff.1 hj).1; rw [sealRows_row rows st.mem _ hrl r (List.mem_of_getElem? hi')] at this; exact this
        rw [Array.getElem?_toList, hget idx j hil hjl] at hxu
        cases hxu
        exact hRR idx j r c hi' hj
      · intro C' K' hw' hbx hA hv
        refine .arr d _ 0 _ _ rfl ?_ ?_
        · rw [hv, M1.ver d]; exact Nat.le_refl _
        · intro J hJ _
          rw [hA] at hJ
          cases hJ
          refine ⟨by rw [sealRows_length, hnl]; exact Nat.le_of_eq (Nat.zero_add _), some ⟨C.w.heap.size, 0, none⟩, len, some ⟨C.w.heap.size, 0, none⟩, rfl, by rw [sealRows_length, hnl]; rfl, fun _ => by simp [Addr.add]⟩
    · have ho' : ¬ (Option.map G.own ({ dst := dst, op := Op.buildSlice t len parts, type := ty, pos := pos, after := aft, guard := gd } : Oper).dst).getD false = true := ho
      rw [if_neg ho'] at h2
      by_cases h0 : len = 0
      · rw [if_pos h0] at h2
        cases h2
        refine wide rfl ⟨_, _, hrun, ?_⟩
        refine Nxt.fresh M _ ?_
        intro C' K hw _ _ _ _ _
        rw [h0]
        exact .nil _
      · rw [if_neg h0] at h2
        cases h2
        refine wide rfl ⟨_, _, hrun, ?_⟩
        refine (seal_rows rows f M hf).bind ?_
        intro C1 hw _ K M1 hRR
        have hfr := Nxt.fresh M1 (.cells cells e) (R := fun C' => RV C' (.sl false (sealRows rows st.mem).1) (.slice (some ⟨C.w.heap.size, 0, none⟩) len len)) ?_
        · rw [hw] at hfr; exact hfr
        · intro C' K2 hw2 _ _ _ _ hN
          rw [hw] at hw2 hN
          have hln : (sealRows rows st.mem).1.length = len := by rw [sealRows_length, hnl]
          have key : RV C' (.sl false (sealRows rows st.mem).1) (.slice (some ⟨C.w.heap.size, 0, none⟩) (sealRows rows st.mem).1.length len) := by
            refine .sl false _ C.w.heap.size 0 z len f ?_ (sealRows_row rows st.mem _ hrl) hN (by rw [hw2]; simp) (by omega) ?_ ?_
            · intro e0; rw [e0] at hln; simp at hln; omega
            · intro idx j r c hi' hj
              have hil : idx < len := by have := (List.getElem?_eq_some_iff.1 hi').1; omega
              have hjl : j < z := by have := (List.getElem?_eq_some_iff.1 hj).1; rw [sealRows_row rows st.mem _ hrl r (List.mem_of_getElem? hi')] at this; exact this
              rw [hw2, World.cell?_alloc_new, Nat.zero_add, hget idx j hil hjl]
            · intro idx j r c hi' hj
              exact (hRR idx j r c hi' hj).keep K2
          rw [hln] at key
          exact key
  case makeSlice t l c =>
    simp only [aval] at h
    obtain ⟨e, he, h1⟩ := Option.bind_eq_some_iff.1 h
    obtain ⟨z, hz, h2⟩ := Option.bind_eq_some_iff.1 h1
    obtain ⟨by_, hby, h3⟩ := Option.bind_eq_some_iff.1 h2
    obtain ⟨zs, hzs, h4⟩ := Option.bind_eq_some_iff.1 h3
    have hl := ev l
    have hc := ev c
    split at h4
    · rename_i n k e1 e2
      split at h4
      · rename_i hcond
        obtain ⟨g0, rfl, g1, g2, g3, g4⟩ := hcond
        obtain ⟨d, hd, h5⟩ := Option.map_eq_some_iff.1 h4
        rw [e1] at hl
        rw [e2] at hc
        have hl' := rv_v hl
        have hc' := rv_v hc
        obtain ⟨u, w', hu, hN⟩ := makeSlice_run M he hz hby hzs g4 d g0 g1 g2 g3
        rw [h5] at hN
        exact wide rfl ⟨u, w', by rw [hl', hc']; exact hu, hN⟩
      · cases h4
    · cases h4
  case call c =>
    obtain ⟨callee, args, argTypes⟩ := c
    obtain ⟨args⟩ := args
    obtain ⟨tys⟩ := argTypes
    simp only [aval] at h
    cases callee <;> simp only at h <;> try (cases h; done)
    rename_i b
    unfold abuiltin at h
    split at h
    · rename_i s t ha
      obtain ⟨y, rfl, hy⟩ : ∃ y, args = [y] ∧ st.ev y = .v (.string s) := by
        cases args with
        | nil => simp at ha
        | cons y r => cases r with
          | nil => simp at ha; exact ⟨y, rfl, ha⟩
          | cons => simp at ha
      have hv := ev y
      rw [hy] at hv
      have hv' := rv_v hv
      split at h
      · rename_i hs
        cases h
        have hu := isStr_under hs
        refine ⟨.value (.int .i64 s.size), C.w, ?_, Nxt.here M (.inl ⟨_, rfl, .v _⟩)⟩
        simp [execOp, resolve, invoke, builtin, Builtin.len_, hv', run_underlying hu, goInt]
      · cases h
    · rename_i x0 t hns ha
      obtain ⟨y, rfl, hy⟩ : ∃ y, args = [y] ∧ st.ev y = x0 := by
        cases args with
        | nil => simp at ha
        | cons y r => cases r with
          | nil => simp at ha; exact ⟨y, rfl, ha⟩
          | cons => simp at ha
      subst hy
      obtain ⟨e, het, h1⟩ := Option.bind_eq_some_iff.1 h
      obtain ⟨es, hes, h2⟩ := Option.map_eq_some_iff.1 h1
      cases h2
      refine ⟨.value (.int .i64 es.length), C.w, ?_, Nxt.here M (.inl ⟨_, rfl, .v _⟩)⟩
      have := len_run (ty := ty) M het (ev y) hes C.w
      simp [execOp, resolve, invoke, builtin, this]
    · rename_i s x0 t tx ha
      obtain ⟨y1, y2, rfl, e1, e2⟩ : ∃ y1 y2, args = [y1, y2] ∧ st.ev y1 = s ∧ st.ev y2 = x0 := by
        cases args with
        | nil => simp at ha
        | cons y r => cases r with
          | nil => simp at ha
          | cons z r => cases r with
            | nil => simp at ha; exact ⟨y, z, rfl, ha.1, ha.2⟩
            | cons => simp at ha
      subst e1 e2
      obtain ⟨u, w', hu, hN⟩ := append_run (ty := ty) M (ev y1) (ev y2) h
      refine ⟨.value u, w', ?_, hN.mono fun _ _ _ q => .inl ⟨u, rfl, q⟩⟩
      simp [execOp, resolve, invoke, builtin, hu]
    · cases h
  all_goals (simp only [aval] at h; cases h)

end Go.Proofs.Ytbmfoijakgccgaa.Am
