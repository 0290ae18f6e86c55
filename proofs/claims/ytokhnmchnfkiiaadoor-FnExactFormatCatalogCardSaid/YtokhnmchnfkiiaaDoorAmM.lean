/- The abstract machine: an operation that calls no Go function does what the abstract state says. No conditions. -/
import Derived.Lib.AppendZerosOnto
import Derived.Test.YtokhnmchnfkiiaaDoorAmK
import Derived.Laws.BytesString
namespace Go.Proofs.YtokhnmchnfkiiaaDoor.Am
open Go Go.RowKit
set_option linter.unusedSimpArgs false
set_option linter.unusedVariables false

theorem push_all : ∀ (l : List UInt8) (s : ByteArray), (l.map fun b => (b.toNat : Int)).foldl (fun (r : ByteArray) (n : Int) => r.push (UInt8.ofNat n.toNat)) s = ⟨(s.data.toList ++ l).toArray⟩
  | [], s => by simp
  | b :: l, s => by
    simp only [List.map_cons, List.foldl_cons]
    rw [push_all l]
    congr 1
    have : (s.push (UInt8.ofNat ((b.toNat : Int)).toNat)).data = s.data.push b := by
      rw [Int.toNat_natCast, UInt8.ofNat_toNat]
      rfl
    rw [this]
    simp

theorem bytes_run (P : Program) (w : World) (a : Addr) (len cap : Nat) (l : List UInt8) (hl : l.length = len) (h : ∀ j, j < len → w.cell? (a.add j) = some (.int .u8 ((l.getD j 0).toNat : Int))) :
    (Conv.bytesToString (.slice (some a) len cap)).run P w = .ok (.string ⟨l.toArray⟩) w := by
  have e := run_loadCells (P := P) w a len (fun j => .int .u8 ((l.getD j 0).toNat : Int)) h
  have e2 : ((List.range len).map fun j => Value.int .u8 ((l.getD j 0).toNat : Int)) = (l.map fun b => (b.toNat : Int)).map (Value.int .u8) := by
    apply List.ext_getElem?
    intro j
    by_cases hj : j < len
    · simp [hj, hl]
    · simp [hj, hl]
  rw [e2] at e
  rw [run_bytesToString w a len cap _ e, push_all]
  rfl

theorem bytesOf_get : ∀ (es : List (List AV)) (l : List UInt8), bytesOf es = some l → l.length = es.length ∧ ∀ i, i < es.length → es[i]? = some [.v (.int .u8 ((l.getD i 0).toNat : Int))]
  | [], l, h => by
    simp only [bytesOf, Option.some.injEq] at h
    subst h
    exact ⟨rfl, fun i hi => by simp at hi⟩
  | e :: es, l, h => by
    unfold bytesOf at h
    split at h
    · rename_i hnil; cases hnil
    · rename_i n r hc
      cases hc
      split at h
      · rename_i hn
        obtain ⟨l', h1, h2⟩ := Option.map_eq_some_iff.1 h
        subst h2
        obtain ⟨ih1, ih2⟩ := bytesOf_get _ l' h1
        refine ⟨by simp [ih1], ?_⟩
        intro i hi
        cases i with
        | zero =>
          simp only [List.getElem?_cons_zero, List.getD_cons_zero, Option.some.injEq, List.cons.injEq, AV.v.injEq, Value.int.injEq, true_and, and_true]
          have : (UInt8.ofNat n.toNat).toNat = n.toNat := by
            rw [UInt8.toNat_ofNat']
            omega
          omega
        | succ i =>
          simp only [List.getElem?_cons_succ, List.getD_cons_succ]
          exact ih2 i (by simpa using hi)
      · cases h
    · cases h

theorem conv_run {G : Cfg} {base : Nat} {bx0 : List Nat} {C : Ctx} {m : Mem} (M : MemOK G base bx0 C m) {s d : TypeId} {a x : AV} {v : Value} (ha : RV C a v) (h : G.conv m s d a = some x) (hs : ∃ ds, G.P.underlying s = some ds) :
    ∃ u, (convert s d v).run G.P C.w = .ok u C.w ∧ RV C x u := by
  obtain ⟨ds, hds⟩ := hs
  unfold Cfg.conv at h
  split at h
  · rename_i k n
    have := rv_v ha; subst this
    obtain ⟨k', hk, h1⟩ := Option.map_eq_some_iff.1 h
    subst h1
    have hd := intK_under hk
    exact ⟨_, by simp [convert, run_underlying hds, run_underlying hd, Conv.intToInt], .v _⟩
  · rename_i x
    have := rv_v ha; subst this
    split at h
    · rename_i hc
      cases h
      have hd := isStr_under hc.1
      exact ⟨_, by simp [convert, run_underlying hds, run_underlying hd], .v _⟩
    · cases h
  · split at h
    · rename_i hc
      obtain ⟨h1, h2⟩ := hc
      obtain ⟨es, he, h3⟩ := Option.bind_eq_some_iff.1 h
      obtain ⟨l, hl, h4⟩ := Option.map_eq_some_iff.1 h3
      subst h4
      obtain ⟨el, hel, hk⟩ := Option.bind_eq_some_iff.1 h2
      have hu := elemT_under hel
      have hd := isStr_under h1
      have hku := intK_under hk
      obtain ⟨b1, b2⟩ := bytesOf_get es l hl
      have hall : es.all (·.length == 1) = true := by
        rw [List.all_eq_true]
        intro r hr
        obtain ⟨i, hi, rfl⟩ := List.getElem_of_mem hr
        have := b2 i hi
        rw [List.getElem?_eq_getElem hi] at this
        rw [Option.some.inj this]
        rfl
      obtain ⟨ad, cap, f, rfl, hf, hcells⟩ := elems_rv M ha he hall
      refine ⟨.string ⟨l.toArray⟩, ?_, .v _⟩
      rw [run_convert_bytes_string C.w s d el ad es.length cap hu hku hd]
      by_cases hne : es = []
      · subst hne
        have hl0 : l = [] := List.eq_nil_of_length_eq_zero (by simpa using b1)
        subst hl0
        cases ad with
        | none => rfl
        | some ad =>
          exact bytes_run G.P C.w ad 0 cap [] rfl (by simp)
      · obtain ⟨b, off, rfl, hc⟩ := hcells hne
        refine bytes_run G.P C.w _ _ cap l b1 ?_
        intro j hj
        have hr := b2 j hj
        have h0 := hc j 0 _ _ hr rfl
        have hv := hf j 0 _ _ hr rfl
        rw [Addr.add_lit]
        simp only [Nat.mul_one, Nat.add_zero] at h0
        rw [h0, rv_v hv]
    · cases h

theorem elems_slice {G : Cfg} {base : Nat} {bx0 : List Nat} {C : Ctx} {m : Mem} (M : MemOK G base bx0 C m) {x : AV} {v : Value} (hx : RV C x v) {es : List (List AV)} (he : m.elems x = some es) : ∃ a cap, v = .slice a es.length cap := by
  cases x <;> simp only [Mem.elems] at he <;> try (cases he; done)
  · cases he
    cases hx with
    | sl0 => exact ⟨_, _, rfl⟩
    | sl => exact ⟨_, _, rfl⟩
  · cases he
    cases hx with
    | nil => exact ⟨_, _, rfl⟩
  · rename_i i n off len
    split at he
    · rename_i hk
      cases he
      obtain ⟨I, xs, hI, hs, z1, z2, z3, z4, z5, z6⟩ := arr_rv M hx hk
      obtain ⟨hle, a0, cap0, a', _, hv0, _⟩ := hs
      have hlen : (((m.arrs i).es.drop off).take len).length = len := by simp; omega
      exact ⟨a', cap0 - off, by rw [hlen]; exact hv0⟩
    · cases he

theorem slice0_run {G : Cfg} {base : Nat} {bx0 : List Nat} {C : Ctx} {m : Mem} (M : MemOK G base bx0 C m) {t : TypeId} {x h k y : AV} {vx vh vk : Value} (hx : RV C x vx) (hh : RV C h vh) (hk : RV C k vk) (he : aslice0 G m t x h k = some y) (w : World) :
    ∃ u, (Instr.sliceAt t vx none (some vh) (some vk)).run G.P w = .ok u w ∧ RV C y u := by
  unfold aslice0 at he
  split at he
  · rename_i n0 k0
    obtain ⟨e, he1, he2⟩ := Option.bind_eq_some_iff.1 he
    obtain ⟨z, hz, he3⟩ := Option.bind_eq_some_iff.1 he2
    clear he he2
    split at he3
    · rename_i h0
      obtain ⟨rfl, rfl⟩ := h0
      obtain ⟨es, hes, he4⟩ := Option.map_eq_some_iff.1 he3
      subst he4
      have e1 := rv_v hh
      have e2 := rv_v hk
      subst e1 e2
      obtain ⟨a, cap, rfl⟩ := elems_slice M hx hes
      refine ⟨.slice a 0 0, ?_, .nil a⟩
      simp [Instr.sliceAt, Instr.slice, Instr.sliceBounds, Instr.sliceBound, asIntOf, run_underlying (elemT_under he1), csz_run hz]
    · cases he3
  · cases he

/-- len of a string, of a slice. -/
theorem len_run {G : Cfg} {base : Nat} {bx0 : List Nat} {C : Ctx} {m : Mem} (M : MemOK G base bx0 C m) {t e ty : TypeId} (ht : G.elemT t = some e) {x : AV} {v : Value} (hx : RV C x v) {es : List (List AV)} (he : m.elems x = some es) (w : World) :
    (Builtin.len_ #[t] ty #[v]).run G.P w = .ok (.int .i64 es.length) w := by
  have hu := elemT_under ht
  have : ∃ a cap, v = .slice a es.length cap := elems_slice M hx he
  obtain ⟨a, cap, rfl⟩ := this
  simp [Builtin.len_, run_underlying hu, goInt]


theorem binN_run {G : Cfg} {C : Ctx} {op : BinOp} {t : TypeId} {x y : Operand} {a r : AV} {va : Value} (ha : RV C a va) (h : G.binN op t a = some r) (w : World) :
    ∃ v, (do eqGuard op t x y va (.slice none 0 0); binOp op t va (.slice none 0 0) : Sem Value).run G.P w = .ok v w ∧ RV C r v := by
  unfold Cfg.binN at h
  obtain ⟨e, he, h1⟩ := Option.bind_eq_some_iff.1 h
  have hu := elemT_under he
  have key : ∀ (ad : Option Addr) (l c : Nat), va = .slice ad l c → (op = .eql → (do eqGuard op t x y va (.slice none 0 0); binOp op t va (.slice none 0 0) : Sem Value).run G.P w = .ok (.bool ad.isNone) w) ∧ (op = .neq → (do eqGuard op t x y va (.slice none 0 0); binOp op t va (.slice none 0 0) : Sem Value).run G.P w = .ok (.bool (!ad.isNone)) w) := by
    rintro ad l c rfl
    have hg : ∀ o, (eqGuard o t x y (.slice ad l c) (.slice none 0 0)).run G.P w = .ok () w := by intro o; cases o <;> rfl
    have heq : (Op.equal t (.slice ad l c) (.slice none 0 0)).run G.P w = .ok ad.isNone w := by
      have : ∀ d, (Op.equalIn (d + 1) t (.slice ad l c) (.slice none 0 0)).run G.P w = .ok ad.isNone w := by
        intro d
        cases ad <;> simp [Op.equalIn, run_underlying hu]
      exact this 9999
    refine ⟨?_, ?_⟩
    · rintro rfl
      rw [Sem.run_bind, hg, Result.andThen_ok]
      have eb : binOp .eql t (.slice ad l c) (.slice none 0 0) = (do pure (.bool (← Op.equal t (.slice ad l c) (.slice none 0 0)))) := rfl
      rw [eb, Sem.run_bind, heq]
      rfl
    · rintro rfl
      rw [Sem.run_bind, hg, Result.andThen_ok]
      have eb : binOp .neq t (.slice ad l c) (.slice none 0 0) = (do pure (.bool (!(← Op.equal t (.slice ad l c) (.slice none 0 0))))) := rfl
      rw [eb, Sem.run_bind, heq]
      rfl
  split at h1 <;> first | (cases h1; done) | skip
  · cases h1
    cases ha with
    | nil ad => exact ⟨_, (key ad 0 0 rfl).1 rfl, .any _ _ trivial⟩
  · cases h1
    cases ha with
    | nil ad => exact ⟨_, (key ad 0 0 rfl).2 rfl, .any _ _ trivial⟩
  · cases h1
    cases ha with
    | sl0 _ ad c => exact ⟨_, (key ad 0 c rfl).1 rfl, .any _ _ trivial⟩
    | sl _ _ b off size cap f hne => exact absurd rfl hne
  · cases h1
    cases ha with
    | sl0 _ ad c => exact ⟨_, (key ad 0 c rfl).2 rfl, .any _ _ trivial⟩
    | sl _ _ b off size cap f hne => exact absurd rfl hne
  · cases h1
    cases ha with
    | sl _ _ b off size cap f hne => exact ⟨_, (key _ _ _ rfl).1 rfl, .v _⟩
  · cases h1
    cases ha with
    | sl _ _ b off size cap f hne => exact ⟨_, (key _ _ _ rfl).2 rfl, .v _⟩

theorem zeroCells_get (z : Array Value) (n s : Nat) (hs : z.size = s) {i j : Nat} (hi : i < n) (hj : j < s) : (Builtin.zeroCells z n).toList[i * s + j]? = z.toList[j]? := by
  have hlt : i * s + j < n * s := by
    have : (i + 1) * s ≤ n * s := Nat.mul_le_mul_right _ hi
    rw [Nat.add_mul, Nat.one_mul] at this
    omega
  have hm : (i * s + j) % s = j := by rw [Nat.mul_comm, Nat.mul_add_mod, Nat.mod_eq_of_lt hj]
  have hzj : j < z.size := by omega
  simp only [Builtin.zeroCells, Array.toList_map, Array.toList_range, List.getElem?_map, hs]
  rw [List.getElem?_range (by rw [← hs] at hlt ⊢; exact hlt)]
  simp only [Option.map_some, hm]
  rw [Array.getElem?_toList, Array.getElem?_eq_getElem hzj]
  simp [hzj]

theorem appendZ_run {G : Cfg} {base : Nat} {bx0 : List Nat} {C : Ctx} {m m' : Mem} (M : MemOK G base bx0 C m) {dst : Option Tmp} {t tx ty : TypeId} (htx : (G.intK tx).isSome = true) {s y : AV} {n : Int} {vs vx : Value} (hs : RV C s vs) (hx : RV C (.v (.int .i64 n)) vx) (h : aappendZ G dst t m s n = some (y, m')) :
    ∃ u w', (Builtin.append_ #[t, tx] ty #[vs, vx]).run G.P C.w = .ok u w' ∧ Nxt G base bx0 C w' m' fun C' => RV C' y u := by
  unfold aappendZ at h
  obtain ⟨e, he, h1⟩ := Option.bind_eq_some_iff.1 h
  obtain ⟨z, hz, h2⟩ := Option.bind_eq_some_iff.1 h1
  obtain ⟨by_, hby, h3⟩ := Option.bind_eq_some_iff.1 h2
  obtain ⟨zs, hzs, h4⟩ := Option.bind_eq_some_iff.1 h3
  clear h h1 h2 h3
  have hx' := rv_v hx
  subst hx'
  split at h4
  · split at h4
    · rename_i hc
      obtain ⟨g0, g1, hp, g3, hok⟩ := hc
      obtain ⟨d, hd, h5⟩ := Option.map_eq_some_iff.1 h4
      obtain ⟨k, rfl⟩ : ∃ k : Nat, n = k := ⟨n.toNat, by omega⟩
      cases hs with
      | nil a =>
        obtain ⟨i, zv, hi, hzv, hsz, h1⟩ := zerOK_info hok
        obtain ⟨i', zv', hi', hzv', hrv⟩ := zer_rv hzs C
        rw [hi] at hi'
        cases hi'
        rw [hzv] at hzv'
        cases hzv'
        have hisz : i.size = z := by
          obtain ⟨i'', hi'', hs'⟩ := csz_info hz
          rw [hi] at hi''
          cases hi''
          exact hs'
        have hib := bts_info hby hi
        subst hisz
        obtain ⟨kn, hkn⟩ := Option.isSome_iff_exists.1 htx
        have hk0 : 0 < k := by omega
        have hkb : k * i.bytes ≤ 140737488355328 := by
          rw [hib]
          have : ((k * by_ : Nat) : Int) ≤ 140737488355328 := by rw [Int.natCast_mul]; exact g1
          omega
        have hold : (Builtin.firstCells i.size 0 (.slice a 0 0)).run G.P C.w.drew = .ok ([] : List Value).toArray C.w.drew := by
          cases a with
          | none => exact run_firstCells_none _ _ _ _ _
          | some b => exact run_firstCells_some _ _ _ b 0 0 [] (by simp) (by simp)
        have hr := Lib.run_append_grow_zeros (P := G.P) C.w t tx ty e i zv .i64 kn (elemT_under he) (intK_under hkn) hi hzv a 0 0 [] hold k hk0 hp (by omega) (by omega) (by omega) (by
          rw [Nat.zero_add, nextslicecap_zero hk0]; omega)
        simp only [Nat.zero_add] at hr
        have hge := grownCap_ge C.w k 0 e
        have hcm : grownCap C.w k 0 e ≤ maxLen := grownCap_le_maxLen C.w k 0 e (by simp only [maxLen]; omega)
        refine ⟨_, _, hr, ?_⟩
        have hmade : (y, m') = m.made d e (List.replicate k zs) := by rw [← h5]; simp
        have ey : y = (m.made d e (List.replicate k zs)).1 := by rw [← hmade]
        have em : m' = (m.made d e (List.replicate k zs)).2 := by rw [← hmade]
        rw [ey, em]
        refine Nxt.setArr M d _ none (by exact ⟨rfl, rfl, rfl, by simp, fun k hk _ => Go.heap_alloc_old C.w.drew _ hk⟩) (fun _ h => by cases h) ⟨i.size, k, .slice (some ⟨C.w.heap.size, 0, none⟩) k (grownCap C.w k 0 e)⟩ (Builtin.zeroCells zv.cells k).toList e (List.replicate k zs) hz hp (by simp) ?_ ?_ ?_ ?_ ?_
        · intro r hr'
          have := List.eq_of_mem_replicate hr'
          subst this
          have h2 := hrv.1
          simp only [Array.length_toList] at h2
          exact h2.trans hsz
        · refine ⟨by rw [Array.length_toList, size_zeroCells, hsz], .inr ⟨C.w.heap.size, _, _, rfl, Nat.zero_le _, Go.heap_alloc_new C.w.drew _, hge, hcm, ?_, ?_⟩⟩
          · rw [Array.size_append, Array.size_append, size_zeroCells, size_zeroCells, hsz]
            simp only [List.size_toArray, List.length_nil, Nat.zero_add]
            rw [← Nat.add_mul]
            congr 1
            omega
          · simp only [Array.toList_append, List.nil_append]
            have e1 : k * i.size = (Builtin.zeroCells zv.cells k).toList.length := by rw [Array.length_toList, size_zeroCells, hsz]
            rw [e1]
            exact List.take_left
        · intro g hg
          cases hg
          exact .inl (Nat.le_refl _)
        · intro idx j r c x hir hj hx
          have hil : idx < k := by have := (List.getElem?_eq_some_iff.1 hir).1; simpa using this
          have hre := List.eq_of_mem_replicate (List.mem_of_getElem? hir)
          subst hre
          have hjl : j < i.size := by have := (List.getElem?_eq_some_iff.1 hj).1; have h2 := hrv.1; simp at h2; omega
          rw [zeroCells_get zv.cells k i.size hsz hil hjl] at hx
          exact hrv.2 j c x hj hx
        · intro C' K hw hbx hA hv
          refine .arr d _ 0 _ _ rfl ?_ ?_
          · rw [hv, M.ver d]; exact Nat.le_refl _
          · intro J hJ _
            rw [hA] at hJ
            cases hJ
            exact ⟨by simp, some ⟨C.w.heap.size, 0, none⟩, grownCap C.w k 0 e, some ⟨C.w.heap.size, 0, none⟩, rfl, by simp, fun _ => by simp [Addr.add]⟩
    · cases h4
  · cases h4
theorem clear_run {G : Cfg} {base : Nat} {bx0 : List Nat} {C : Ctx} {m m' : Mem} (M : MemOK G base bx0 C m) {t ty : TypeId} {a r : AV} {v : Value} (hv : RV C a v) (h : aclear G m t a = some (r, m')) :
    ∃ u w', (Builtin.clear_ #[t] ty #[v]).run G.P C.w = .ok u w' ∧ Nxt G base bx0 C w' m' fun C' => RV C' r u := by
  unfold aclear at h
  split at h
  · rename_i i n off len
    obtain ⟨e, he, h1⟩ := Option.bind_eq_some_iff.1 h
    obtain ⟨zs, hzs, h2⟩ := Option.bind_eq_some_iff.1 h1
    clear h h1
    split at h2
    · rename_i hc
      obtain ⟨hk, hel, hok⟩ := hc
      cases h2
      have hu := elemT_under he
      obtain ⟨I, xs, hI, hs, z1, z2, z3, z4, z5, z6⟩ := arr_rv M hv hk
      obtain ⟨ti, zv, hi, hzv, hsz, hone⟩ := zerOK_info hok
      obtain ⟨ti', zv', hi', hzv', hrv⟩ := zer_rv hzs C
      rw [hi] at hi'
      cases hi'
      rw [hzv] at hzv'
      cases hzv'
      have hisz : ti.size = I.size := by
        obtain ⟨i'', hi'', hs'⟩ := csz_info z1
        rw [hel, hi] at hi''
        cases hi''
        exact hs'
      have hlz : zs.length = I.size := by have := hrv.1; simp at this; omega
      have hle : off + len ≤ (m.arrs i).es.length := by have := hs.1; omega
      by_cases h0 : len = 0
      · subst h0
        obtain ⟨_, a0, cap, a', _, hx, _⟩ := hs
        subst hx
        refine ⟨.tuple #[], C.w, ?_, ?_⟩
        · cases a' <;> simp [Builtin.clear_, run_underlying hu]
        · have em : ({ m with arrs := fun j => if j = i then { m.arrs i with es := (m.arrs i).es.take off ++ List.replicate 0 zs ++ (m.arrs i).es.drop (off + 0) } else m.arrs j } : Mem) = m := by
            cases m with
            | mk b ar =>
              congr
              funext j
              by_cases hj : j = i
              · subst hj; simp
              · rw [if_neg hj]
          rw [em]
          exact Nxt.here M (.tup _ _ rfl (by simp))
      · obtain ⟨g, cap, e1, e2, e3, rfl⟩ := sub_pos hs z5 (by omega)
        rcases z5.2 with ⟨e0, _⟩ | ⟨g', cap', cur, e0, hb, hcur, hnc, hcm, hcs, htake⟩
        · rw [e1] at e0; cases e0
        · rw [e1] at e0
          simp only [Value.slice.injEq, Option.some.injEq, Addr.mk.injEq, and_true, true_and] at e0
          obtain ⟨rfl, rfl⟩ := e0
          have hcap : I.len * I.size ≤ cap * I.size := Nat.mul_le_mul_right _ hnc
          have hfit : (off + len) * I.size ≤ I.len * I.size := Nat.mul_le_mul_right _ e3
          have hfit2 : off * I.size + len * I.size ≤ I.len * I.size := by rw [← Nat.add_mul]; exact hfit
          have hzl : (Builtin.zeroCells zv.cells len).toList.length = len * I.size := by simp [Builtin.zeroCells, hsz, hisz]
          have hst := run_storeCells_at G.P g (off * I.size) (m.arrs i).elem (Builtin.zeroCells zv.cells len).toList 0 cur C.w hcur (by omega) (by
            intro u hu'
            simp only [Builtin.zeroCells, Array.toList_map, List.mem_map, Array.mem_toList_iff] at hu'
            obtain ⟨q, hq, rfl⟩ := hu'
            have hq' : q % zv.cells.size < zv.cells.size := Nat.mod_lt _ (by omega)
            rw [getElem!_pos zv.cells _ hq']
            exact hone _ (Array.getElem_mem hq'))
          simp only [Nat.add_zero] at hst
          have hzr : ∀ w, (zeroValue e).run G.P w = .ok zv w := fun w => by simp [zeroValue, typeInfo, hi, hzv]
          obtain ⟨k, rfl⟩ : ∃ k, len = k + 1 := ⟨len - 1, by omega⟩
          refine ⟨.tuple #[], C.w.setRow g (cur.toList.take (off * I.size) ++ (Builtin.zeroCells zv.cells (k + 1)).toList ++ cur.toList.drop (off * I.size + (Builtin.zeroCells zv.cells (k + 1)).toList.length)).toArray, by simp [Builtin.clear_, run_underlying hu, hzr, hst], ?_⟩
          have hgx : ∀ j, j < I.len * I.size → xs[j]? = cur[j]? := by
            intro j hj
            rw [← htake, List.getElem?_take, if_pos hj, Array.getElem?_toList]
          obtain ⟨Z, hZ⟩ : ∃ Z, Z = (Builtin.zeroCells zv.cells (k + 1)).toList := ⟨_, rfl⟩
          rw [← hZ] at hzl ⊢
          have newget : ∀ j, (cur.toList.take (off * I.size) ++ Z ++ cur.toList.drop (off * I.size + Z.length)).toArray[j]? =
              if off * I.size ≤ j ∧ j < off * I.size + Z.length then Z[j - off * I.size]? else cur[j]? := by
            intro j
            simp only [List.getElem?_toArray]
            rw [List.append_assoc, List.getElem?_append, List.getElem?_append, List.length_take, Nat.min_eq_left (by simp; omega)]
            by_cases q1 : j < off * I.size
            · rw [if_pos q1, if_neg (by omega), List.getElem?_take, if_pos q1, Array.getElem?_toList]
            · rw [if_neg q1]
              by_cases q2 : j - off * I.size < Z.length
              · rw [if_pos q2, if_pos (by omega)]
              · rw [if_neg q2, if_neg (by omega), List.getElem?_drop, Array.getElem?_toList]
                congr 1
                omega
          refine Nxt.putEl (R := fun C' => RV C' (.tup []) (.tuple #[])) M i I hI (C.w.setRow g (cur.toList.take (off * I.size) ++ Z ++ cur.toList.drop (off * I.size + Z.length)).toArray) ⟨rfl, rfl, rfl, by simp [World.setRow], fun q hq hne => setRow_other C.w g q _ (fun e => hne (by rw [e1, e]; rfl))⟩
            ((cur.toList.take (off * I.size) ++ Z ++ cur.toList.drop (off * I.size + Z.length)).take (I.len * I.size)) ((m.arrs i).es.take off ++ List.replicate (k + 1) zs ++ (m.arrs i).es.drop (off + (k + 1))) (by simp; omega) ?_ ?_ ?_ (fun _ _ _ _ => RV.tup _ _ rfl (by simp))
          · intro q hq
            rcases List.mem_append.1 hq with hq | hq
            · rcases List.mem_append.1 hq with hq | hq
              · exact z4 q (List.mem_of_mem_take hq)
              · rw [List.eq_of_mem_replicate hq]; exact hlz
            · exact z4 q (List.mem_of_mem_drop hq)
          · refine ⟨?_, .inr ⟨g, cap, _, e1, hb, setRow_heap C.w g cur _ _ (0, 0) hcur, hnc, hcm, ?_, ?_⟩⟩
            · simp
              omega
            · simp
              omega
            · rfl
          · intro idx j q c u hq hc hu'
            have hql : q.length = I.size := by
              rcases List.mem_append.1 (List.mem_of_getElem? hq) with hq | hq
              · rcases List.mem_append.1 hq with hq | hq
                · exact z4 q (List.mem_of_mem_take hq)
                · rw [List.eq_of_mem_replicate hq]; exact hlz
              · exact z4 q (List.mem_of_mem_drop hq)
            have hj : j < I.size := by have := (List.getElem?_eq_some_iff.1 hc).1; omega
            have hidx : idx < (m.arrs i).es.length := by have := (List.getElem?_eq_some_iff.1 hq).1; simp at this; omega
            have hlt : idx * I.size + j < I.len * I.size := by
              have : (idx + 1) * I.size ≤ I.len * I.size := Nat.mul_le_mul_right _ (by omega)
              rw [Nat.add_mul, Nat.one_mul] at this
              omega
            rw [List.getElem?_take, if_pos hlt, ← List.getElem?_toArray, newget] at hu'
            rw [List.append_assoc, List.getElem?_append, List.getElem?_append, List.length_take, Nat.min_eq_left (by omega), List.length_replicate] at hq
            by_cases q1 : idx < off
            · rw [if_pos q1, List.getElem?_take, if_pos q1] at hq
              have : (idx + 1) * I.size ≤ off * I.size := Nat.mul_le_mul_right _ q1
              rw [Nat.add_mul, Nat.one_mul] at this
              rw [if_neg (by omega), ← hgx _ hlt] at hu'
              exact z6 idx j q c u hq hc hu'
            · rw [if_neg q1] at hq
              have hge : off * I.size ≤ idx * I.size := Nat.mul_le_mul_right _ (by omega)
              by_cases q2 : idx - off < k + 1
              · rw [if_pos q2] at hq
                have hqz := List.eq_of_mem_replicate (List.mem_of_getElem? hq)
                subst hqz
                have h3 : (idx + 1) * I.size ≤ (off + (k + 1)) * I.size := Nat.mul_le_mul_right _ (by omega)
                rw [Nat.add_mul idx, Nat.one_mul, Nat.add_mul off] at h3
                rw [if_pos (by omega)] at hu'
                have e5 : idx * I.size + j - off * I.size = (idx - off) * I.size + j := by rw [Nat.sub_mul]; omega
                rw [e5, hZ, zeroCells_get zv.cells (k + 1) I.size (by omega) q2 hj] at hu'
                exact hrv.2 j c u hc hu'
              · rw [if_neg q2, List.getElem?_drop] at hq
                have e6 : off + (k + 1) + (idx - off - (k + 1)) = idx := by omega
                rw [e6] at hq
                have h3 : (off + (k + 1)) * I.size ≤ idx * I.size := Nat.mul_le_mul_right _ (by omega)
                rw [Nat.add_mul off] at h3
                rw [if_neg (by omega), ← hgx _ hlt] at hu'
                exact z6 idx j q c u hq hc hu'
    · cases h2
  · cases h

theorem val_some {a : Option AV} {m m' : Mem} {x : AV} (h : a.map (·, m) = some (x, m')) : a = some x ∧ m' = m := by
  cases a with
  | none => cases h
  | some y => simp only [Option.map_some, Option.some.injEq, Prod.mk.injEq] at h; exact ⟨by rw [h.1], h.2.symm⟩

/-- An operation that calls no Go function: what the model does is what the abstract state says. -/
theorem aval_sound {G : Cfg} (V : G.Vers) {base : Nat} {bx0 : List Nat} {C : Ctx} {st : St} {a : Act} {o : Oper} {x : AV} {m' : Mem} (M : MemOK G base bx0 C st.mem) (E : ∀ t, RV C (st.env t) (a.tmps.getD t undef)) (h : aval G o st = some (x, m')) :
    ∃ nx w', (execOp a.eval o).run G.P C.w = .ok nx w' ∧ Nxt G base bx0 C w' m' fun C' => (∃ v, nx = .value v ∧ RV C' x v) ∨ (nx = .skip ∧ x = .dead) := by
  have ev := rv_ev E
  -- an operation that yields a value and leaves memory as it is
  have plain : ∀ {s : Sem Value}, (execOp a.eval o = do pure (.value (← s))) → m' = st.mem → (∃ u, s.run G.P C.w = .ok u C.w ∧ RV C x u) →
      ∃ nx w', (execOp a.eval o).run G.P C.w = .ok nx w' ∧ Nxt G base bx0 C w' m' fun C' => (∃ v, nx = .value v ∧ RV C' x v) ∨ (nx = .skip ∧ x = .dead) := by
    rintro s he rfl ⟨u, hu, hr⟩
    exact ⟨.value u, C.w, by rw [he]; simp [hu], Nxt.here M (.inl ⟨u, rfl, hr⟩)⟩
  have wide : ∀ {s : Sem Value}, (execOp a.eval o = do pure (.value (← s))) → (∃ u w', s.run G.P C.w = .ok u w' ∧ Nxt G base bx0 C w' m' fun C' => RV C' x u) →
      ∃ nx w', (execOp a.eval o).run G.P C.w = .ok nx w' ∧ Nxt G base bx0 C w' m' fun C' => (∃ v, nx = .value v ∧ RV C' x v) ∨ (nx = .skip ∧ x = .dead) := by
    rintro s he ⟨u, w', hu, hr⟩
    exact ⟨.value u, w', by rw [he]; simp [hu], hr.mono fun C1 _ _ q => .inl ⟨u, rfl, q⟩⟩
  obtain ⟨dst, op, ty, pos, aft, gd⟩ := o
  cases op
  case move y => cases h; exact ⟨.value (a.eval y), C.w, rfl, Nxt.here M (.inl ⟨_, rfl, ev y⟩)⟩
  case assign y => cases h; exact ⟨.value (a.eval y), C.w, rfl, Nxt.here M (.inl ⟨_, rfl, ev y⟩)⟩
  case pick c p q =>
    obtain ⟨h1, rfl⟩ := val_some h
    obtain ⟨u, hu, hr⟩ := apick_run (ev c) (ev p) (ev q) h1 G.P C.w
    exact ⟨.value u, C.w, hu, Nxt.here M (.inl ⟨u, rfl, hr⟩)⟩
  case alloc t =>
    simp only [aval] at h
    split at h
    · obtain ⟨cs, hz, h2⟩ := Option.map_eq_some_iff.1 h
      cases h2
      exact wide rfl (alloc_run M hz)
    · cases h
  case box t y =>
    simp only [aval] at h
    split at h
    · rename_i hone
      cases h
      exact wide rfl (box_run M (ev y) hone)
    · cases h
  case load t p =>
    obtain ⟨h1, rfl⟩ := val_some h
    obtain ⟨cs, hc, hl⟩ := Option.bind_eq_some_iff.1 h1
    obtain ⟨b, off, hp, hcells⟩ := cellsAt_rv M (ev p) hc
    refine plain rfl rfl ?_
    obtain ⟨v, hv, hr⟩ := loadVar_run hcells hl
    exact ⟨v, by simp [Instr.loadAt, hp, Instr.sureAddr, hv], hr⟩
  case store t p y =>
    obtain ⟨vs, hvs, h1⟩ := Option.bind_eq_some_iff.1 h
    obtain ⟨m2, hm, h2⟩ := Option.map_eq_some_iff.1 h1
    cases h2
    obtain ⟨w', hw, hN⟩ := store_run M (ev p) (t := t) (ev y) hvs hm
    exact ⟨.skip, w', by simp [execOp, hw], hN.mono fun _ _ _ _ => .inr ⟨rfl, rfl⟩⟩
  case nilCheck y =>
    simp only [aval] at h
    have hy := ev y
    split at h
    · rename_i k off he
      cases h
      rw [he] at hy
      generalize hv : a.eval y = v at hy
      cases hy with
      | box _ _ b hb => exact ⟨_, C.w, by simp [execOp, hv], Nxt.here M (.inl ⟨_, rfl, .box _ _ b hb⟩)⟩
    · rename_i c cs he
      cases h
      rw [he] at hy
      generalize hv : a.eval y = v at hy
      have hy' := hy
      cases hy with
      | el _ _ b off f hN hb h1 h2 => exact ⟨_, C.w, by simp [execOp, hv], Nxt.here M (.inl ⟨_, rfl, hy'⟩)⟩
    · rename_i f p q he
      cases h
      rw [he] at hy
      generalize hv : a.eval y = v at hy
      have hy' := hy
      cases hy with
      | clo _ _ _ ps qs hp hq h1 h2 => exact ⟨_, C.w, by simp [execOp, hv], Nxt.here M (.inl ⟨_, rfl, hy'⟩)⟩
    · cases h
  case binOp op t p q yt =>
    by_cases hq : q = .const (.slice none 0 0)
    · subst hq
      obtain ⟨h1, rfl⟩ := val_some h
      exact plain rfl rfl (binN_run (ev p) h1 C.w)
    · have h' : (G.bin op t (st.ev p) (st.ev q)).map (·, st.mem) = some (x, m') := by
        simp only [aval] at h
        exact h
      obtain ⟨h1, rfl⟩ := val_some h'
      exact plain rfl rfl (bin_run V (ev p) (ev q) h1 C.w)
  case unOp op t p =>
    obtain ⟨h1, rfl⟩ := val_some h
    exact plain rfl rfl (aun_run (ev p) h1 G.P C.w)
  case convert s d y =>
    simp only [aval] at h
    split at h
    · rename_i hs
      obtain ⟨h1, rfl⟩ := val_some h
      exact plain rfl rfl (conv_run M (ev y) h1 (Option.isSome_iff_exists.1 hs))
    · cases h
  case makeFunc fn first captured =>
    cases fn <;> simp only [aval] at h <;> try (cases h; done)
    rename_i f
    cases h
    refine plain (s := Instr.makeFunc (.func f) (first.map a.eval) (captured.map a.eval)) rfl rfl ⟨_, rfl, .clo f _ _ _ _ (by simp) (by simp) ?_ ?_⟩
    · intro j c v h1 h2
      simp only [List.getElem?_map, Array.getElem?_toList, Array.getElem?_map] at h1 h2
      cases hf : first[j]? with
      | none => simp [hf] at h1
      | some q => simp only [hf, Option.map_some, Option.some.injEq] at h1 h2; subst h1 h2; exact ev q
    · intro j c v h1 h2
      simp only [List.getElem?_map, Array.getElem?_toList, Array.getElem?_map] at h1 h2
      cases hf : captured[j]? with
      | none => simp [hf] at h1
      | some q => simp only [hf, Option.map_some, Option.some.injEq] at h1 h2; subst h1 h2; exact ev q
  case slice t y lo hi mx =>
    cases mx
    case some mx =>
      cases lo <;> simp only [aval] at h <;> try (cases h; done)
      cases hi <;> simp only [aval] at h <;> try (cases h; done)
      rename_i hi
      obtain ⟨h1, rfl⟩ := val_some h
      exact plain rfl rfl (slice0_run M (ev y) (ev hi) (ev mx) h1 C.w)
    simp only [aval] at h
    have rvo : ∀ (o : Option Operand), RVo C (o.map st.ev) (o.map a.eval) := by
      intro o
      cases o with
      | none => exact .inl ⟨rfl, rfl⟩
      | some q => exact .inr ⟨_, _, rfl, rfl, ev q⟩
    obtain ⟨u, hu, hr⟩ := aslice_run M (ev y) (rvo lo) (rvo hi) h
    exact wide rfl ⟨u, C.w, hu, hr⟩
  case fieldAddr t p f =>
    simp only [aval] at h
    obtain ⟨q, hq, h1⟩ := Option.bind_eq_some_iff.1 h
    obtain ⟨z, hz, h2⟩ := Option.bind_eq_some_iff.1 h1
    split at h2
    · rename_i hz0
      have hp := ev p
      have ho := ptr_off hp q.1
      split at h2
      · rename_i k off he
        cases h2
        obtain ⟨b, hv, hr⟩ := ho.1 k off he
        exact plain rfl rfl ⟨_, by rw [hv]; exact fieldAt_run hq hz hz0 b off C.w, hr⟩
      · rename_i c cs he
        cases h2
        obtain ⟨b, off, hv, hr⟩ := ho.2.1 c cs he
        exact plain rfl rfl ⟨_, by rw [hv]; exact fieldAt_run hq hz hz0 b off C.w, hr⟩
      · rename_i cs he
        cases h2
        obtain ⟨b, off, hv, hr⟩ := ho.2.2 cs he
        exact plain rfl rfl ⟨_, by rw [hv]; exact fieldAt_run hq hz hz0 b off C.w, hr⟩
      · rename_i i n idx off he
        split at h2
        · rename_i hk
          cases h2
          rw [he] at hp
          have hp' := hp
          obtain ⟨I, xs, hI, ⟨g, cap, hv, hx⟩, _⟩ := ael_rv M hp hk
          refine plain rfl rfl ⟨_, by rw [hx]; exact fieldAt_run hq hz hz0 g _ C.w, ?_⟩
          have hn : n ≤ C.ver i := by cases hp' with | ael _ _ _ _ _ _ hn _ => exact hn
          refine .ael i n idx (off + q.1) _ rfl hn ?_
          intro J hJ _
          rw [hI] at hJ
          cases hJ
          exact ⟨g, cap, hv, by rw [Nat.add_assoc]⟩
        · cases h2
      · cases h2
    · cases h2
  case field t y f =>
    simp only [aval] at h
    obtain ⟨q, hq, h1⟩ := Option.bind_eq_some_iff.1 h
    split at h1
    · rename_i cs he
      obtain ⟨h2, rfl⟩ := val_some h1
      have hy := ev y
      rw [he] at hy
      exact plain rfl rfl (field_run hq hy h2 C.w)
    · cases h1
  case indexAddr t y ix =>
    simp only [aval] at h
    have hy := ev y
    have hi := ev ix
    split at h
    · rename_i k n hix
      rw [hix] at hi
      have hn := rv_v hi
      split at h
      · rename_i h0
        split at h
        · rename_i c es he
          rw [he] at hy
          obtain ⟨e, hel, h1⟩ := Option.bind_eq_some_iff.1 h
          obtain ⟨z, hz, h2⟩ := Option.bind_eq_some_iff.1 h1
          split at h2
          · rename_i cs hcs
            split at h2
            · rename_i hc
              cases h2
              exact plain rfl rfl (by rw [hn]; exact indexAt_sl hel hz hy h0 hcs hc.2 C.w)
            · cases h2
          · cases h2
        · rename_i es he
          rw [he] at hy
          obtain ⟨e, hel, h1⟩ := Option.bind_eq_some_iff.1 h
          obtain ⟨z, hz, h2⟩ := Option.bind_eq_some_iff.1 h1
          split at h2
          · rename_i cs hcs
            split at h2
            · rename_i hc
              cases h2
              exact plain rfl rfl (by rw [hn]; exact indexAt_wsl hel hz hy h0 hcs hc.2 C.w)
            · cases h2
          · cases h2
        · rename_i i kk off len he
          rw [he] at hy
          obtain ⟨e, hel, h1⟩ := Option.bind_eq_some_iff.1 h
          split at h1
          · rename_i hc
            cases h1
            exact plain rfl rfl (by rw [hn]; exact indexAt_arr M hel hy hc.1 hc.2.2 h0 hc.2.1 C.w)
          · cases h1
        · rename_i kk off he
          rw [he] at hy
          obtain ⟨q, hq, h1⟩ := Option.bind_eq_some_iff.1 h
          obtain ⟨z, hz, h2⟩ := Option.bind_eq_some_iff.1 h1
          split at h2
          · rename_i hc
            cases h2
            exact plain rfl rfl (by rw [hn]; exact indexAt_box hq hz hy h0 hc C.w)
          · cases h2
        · cases h
      · cases h
    · cases h
  case index t y ix =>
    simp only [aval] at h
    have hy := ev y
    have hi := ev ix
    split at h
    · rename_i s k n he1 he2
      rw [he1] at hy
      rw [he2] at hi
      have h1 := rv_v hy
      have h2 := rv_v hi
      split at h
      · rename_i hc
        cases h
        exact plain rfl rfl ⟨_, by rw [h1, h2]; exact index_str hc.1 hc.2.1 hc.2.2 C.w, .v _⟩
      · cases h
    · cases h
  case extract y k =>
    simp only [aval] at h
    have hy := ev y
    split at h
    · rename_i vs he
      rw [he] at hy
      obtain ⟨h1, rfl⟩ := val_some h
      exact plain rfl rfl (extract_run hy h1 G.P C.w)
    · cases h
  case build t parts =>
    simp only [aval] at h
    obtain ⟨places, hp, h1⟩ := Option.bind_eq_some_iff.1 h
    split at h1
    · obtain ⟨zs, hz, h2⟩ := Option.bind_eq_some_iff.1 h1
      obtain ⟨h3, rfl⟩ := val_some h2
      obtain ⟨cs, hf, h4⟩ := Option.map_eq_some_iff.1 h3
      subst h4
      refine plain rfl rfl (build_run hp hz (by simp) ?_ hf C.w)
      intro j p q h1 h2
      simp only [List.getElem?_map, Array.getElem?_toList, Array.getElem?_map] at h1 h2
      cases hq : parts[j]? with
      | none => simp [hq] at h1
      | some r => simp only [hq, Option.map_some, Option.some.injEq] at h1 h2; subst h1 h2; exact ⟨rfl, ev r.2⟩
    · cases h1
  case buildSlice t len parts =>
    simp only [aval] at h
    obtain ⟨e, he, h1⟩ := Option.bind_eq_some_iff.1 h
    obtain ⟨z, hz, h2⟩ := Option.bind_eq_some_iff.1 h1
    clear h h1
    by_cases hc : parts.toList.map (·.1) = List.range len ∧ (parts.toList.map fun p => (st.ev p.2).cells).all (·.length == z) = true ∧ (parts.toList.map fun p => (st.ev p.2).cells).all (·.all AV.one) = true ∧ 0 < z ∧ len * z ≤ 1000 ∧ G.zerOK e = true
    case neg => rw [if_neg hc] at h2; cases h2
    rw [if_pos hc] at h2
    obtain ⟨c1, c2, c3, c4, c5, c6⟩ := hc
    have hrows : (parts.toList.map fun p => (st.ev p.2).cells) = (parts.toList.map fun p => st.ev p.2).map AV.cells := by simp
    rw [hrows] at h2 c2 c3
    obtain ⟨cells, f, hrun, hcs, hf, hxl, hget⟩ := buildSlice_run (C := C) he hz c6 len (xs := parts.toList.map fun p => st.ev p.2) (qs := parts.map fun (i, x) => (i, a.eval x)) (by rw [← c1]; simp) (by simp) (by
      intro j p q h1 h2
      simp only [List.getElem?_map, Array.getElem?_toList, Array.getElem?_map] at h1 h2
      cases hq : parts[j]? with
      | none => simp [hq] at h1
      | some r => simp only [hq, Option.map_some, Option.some.injEq] at h1 h2; subst h1 h2; exact ev r.2) c2 c3 c4 c5
    have hrl : ∀ r ∈ (parts.toList.map fun p => st.ev p.2).map AV.cells, r.length = z := fun r hr => by have := List.all_eq_true.1 c2 r hr; simpa using this
    have hnl : ((parts.toList.map fun p => st.ev p.2).map AV.cells).length = len := by rw [List.length_map]; exact hxl
    generalize hR : (parts.toList.map fun p => st.ev p.2).map AV.cells = rows at *
    by_cases ho : (Option.map G.own dst).getD false = true
    · have ho' : (Option.map G.own ({ dst := dst, op := Op.buildSlice t len parts, type := ty, pos := pos, after := aft, guard := gd } : Oper).dst).getD false = true := ho
      rw [if_pos ho'] at h2
      obtain ⟨d, hd, h5⟩ := Option.map_eq_some_iff.1 h2
      refine wide rfl ⟨_, _, hrun, ?_⟩
      have ey : x = .arr d (((sealRows rows st.mem).2.arrs d).ver + 1) 0 (sealRows rows st.mem).1.length := (congrArg Prod.fst h5).symm
      have em : m' = { (sealRows rows st.mem).2 with arrs := fun j => if j = d then ⟨((sealRows rows st.mem).2.arrs d).ver + 1, true, e, (sealRows rows st.mem).1⟩ else (sealRows rows st.mem).2.arrs j } := (congrArg Prod.snd h5).symm
      subst ey em
      refine (seal_rows rows f M hf).bind ?_
      intro C1 hw _ K M1 hRR
      refine Nxt.setArr M1 d _ none (by rw [hw]; exact World.grownBy_alloc _ _ _) (fun _ h => by cases h) ⟨z, len, .slice (some ⟨C.w.heap.size, 0, none⟩) len len⟩ cells.toList e (sealRows rows st.mem).1 hz c4 (by rw [sealRows_length, hnl]) (sealRows_row rows st.mem _ hrl) ?_ ?_ ?_ ?_
      · exact World.ownsRow_lit C.w _ len (Nat.zero_le _) (by have : len ≤ len * z := Nat.le_mul_of_pos_right _ c4; simp only [maxLen]; omega) hcs
      · intro g hg
        cases hg
        exact .inl (by rw [hw]; exact Nat.le_refl _)
      · intro idx j r c u hi' hj hxu
        have hil : idx < len := by have := (List.getElem?_eq_some_iff.1 hi').1; rw [sealRows_length, hnl] at this; exact this
        have hjl : j < z := by have := (List.getElem?_eq_some_iff.1 hj).1; rw [sealRows_row rows st.mem _ hrl r (List.mem_of_getElem? hi')] at this; exact this
        rw [Array.getElem?_toList, hget idx j hil hjl] at hxu
        cases hxu
        exact hRR idx j r c hi' hj
      · intro C' K' hw' hbx hA hv
        refine .arr d _ 0 _ _ rfl ?_ ?_
        · rw [hv, M1.ver d]; exact Nat.le_refl _
        · intro J hJ _
          rw [hA] at hJ
          cases hJ
          refine ⟨by rw [sealRows_length, hnl]; exact Nat.le_of_eq (Nat.zero_add _), some ⟨C.w.heap.size, 0, none⟩, len, some ⟨C.w.heap.size, 0, none⟩, rfl, by rw [sealRows_length, hnl]; rfl, fun _ => by simp [Addr.add]⟩
    · have ho' : ¬ (Option.map G.own ({ dst := dst, op := Op.buildSlice t len parts, type := ty, pos := pos, after := aft, guard := gd } : Oper).dst).getD false = true := ho
      rw [if_neg ho'] at h2
      by_cases h0 : len = 0
      · rw [if_pos h0] at h2
        cases h2
        refine wide rfl ⟨_, _, hrun, ?_⟩
        refine Nxt.fresh M _ ?_
        intro C' K hw _ _ _ _ _
        rw [h0]
        exact .nil _
      · rw [if_neg h0] at h2
        cases h2
        refine wide rfl ⟨_, _, hrun, ?_⟩
        refine (seal_rows rows f M hf).bind ?_
        intro C1 hw _ K M1 hRR
        have hfr := Nxt.fresh M1 (.cells cells e) (R := fun C' => RV C' (.sl false (sealRows rows st.mem).1) (.slice (some ⟨C.w.heap.size, 0, none⟩) len len)) ?_
        · rw [hw] at hfr; exact hfr
        · intro C' K2 hw2 _ _ _ _ hN
          rw [hw] at hw2 hN
          have hln : (sealRows rows st.mem).1.length = len := by rw [sealRows_length, hnl]
          have key : RV C' (.sl false (sealRows rows st.mem).1) (.slice (some ⟨C.w.heap.size, 0, none⟩) (sealRows rows st.mem).1.length len) := by
            refine .sl false _ C.w.heap.size 0 z len f ?_ (sealRows_row rows st.mem _ hrl) hN (fun _ => ⟨cells, e, by rw [hw2]; exact Go.heap_alloc_new _ _⟩) (by rw [hw2]; simp) (by omega) ?_ ?_
            · intro e0; rw [e0] at hln; simp at hln; omega
            · intro idx j r c hi' hj
              have hil : idx < len := by have := (List.getElem?_eq_some_iff.1 hi').1; omega
              have hjl : j < z := by have := (List.getElem?_eq_some_iff.1 hj).1; rw [sealRows_row rows st.mem _ hrl r (List.mem_of_getElem? hi')] at this; exact this
              rw [hw2, World.cell?_alloc_new, Nat.zero_add, hget idx j hil hjl]
            · intro idx j r c hi' hj
              exact (hRR idx j r c hi' hj).keep K2
          rw [hln] at key
          exact key
  case makeSlice t l c =>
    simp only [aval] at h
    obtain ⟨e, he, h1⟩ := Option.bind_eq_some_iff.1 h
    obtain ⟨z, hz, h2⟩ := Option.bind_eq_some_iff.1 h1
    obtain ⟨by_, hby, h3⟩ := Option.bind_eq_some_iff.1 h2
    obtain ⟨zs, hzs, h4⟩ := Option.bind_eq_some_iff.1 h3
    have hl := ev l
    have hc := ev c
    split at h4
    · rename_i n k e1 e2
      split at h4
      · rename_i hcond
        obtain ⟨g0, rfl, g1, g2, g3, g4⟩ := hcond
        obtain ⟨d, hd, h5⟩ := Option.map_eq_some_iff.1 h4
        rw [e1] at hl
        rw [e2] at hc
        have hl' := rv_v hl
        have hc' := rv_v hc
        obtain ⟨u, w', hu, hN⟩ := makeSlice_run M he hz hby hzs g4 d g0 g1 g2 g3
        rw [h5] at hN
        exact wide rfl ⟨u, w', by rw [hl', hc']; exact hu, hN⟩
      · cases h4
    · cases h4
  case call c =>
    obtain ⟨callee, args, argTypes⟩ := c
    obtain ⟨args⟩ := args
    obtain ⟨tys⟩ := argTypes
    simp only [aval] at h
    cases callee <;> simp only at h <;> try (cases h; done)
    rename_i b
    unfold abuiltin at h
    split at h
    · rename_i s t ha
      obtain ⟨y, rfl, hy⟩ : ∃ y, args = [y] ∧ st.ev y = .v (.string s) := by
        cases args with
        | nil => simp at ha
        | cons y r => cases r with
          | nil => simp at ha; exact ⟨y, rfl, ha⟩
          | cons => simp at ha
      have hv := ev y
      rw [hy] at hv
      have hv' := rv_v hv
      split at h
      · rename_i hs
        cases h
        have hu := isStr_under hs
        refine ⟨.value (.int .i64 s.size), C.w, ?_, Nxt.here M (.inl ⟨_, rfl, .v _⟩)⟩
        simp [execOp, resolve, invoke, builtin, Builtin.len_, hv', run_underlying hu, goInt]
      · cases h
    · rename_i es t ha
      obtain ⟨y, rfl, hy⟩ : ∃ y, args = [y] ∧ st.ev y = .wsl es := by
        cases args with
        | nil => simp at ha
        | cons y r => cases r with
          | nil => simp at ha; exact ⟨y, rfl, ha⟩
          | cons => simp at ha
      obtain ⟨e, het, h1⟩ := Option.map_eq_some_iff.1 h
      cases h1
      have hv := ev y
      rw [hy] at hv
      have hu := elemT_under het
      have : ∃ ad cap, a.eval y = .slice ad es.length cap := by
        generalize a.eval y = vy at hv
        cases hv with
        | wsl0 => exact ⟨_, _, rfl⟩
        | wsl => exact ⟨_, _, rfl⟩
      obtain ⟨ad, cap, hvy⟩ := this
      refine ⟨.value (.int .i64 es.length), C.w, ?_, Nxt.here M (.inl ⟨_, rfl, .v _⟩)⟩
      simp [execOp, resolve, invoke, builtin, Builtin.len_, hvy, run_underlying hu, goInt]
    · rename_i x0 t hns hnw ha
      obtain ⟨y, rfl, hy⟩ : ∃ y, args = [y] ∧ st.ev y = x0 := by
        cases args with
        | nil => simp at ha
        | cons y r => cases r with
          | nil => simp at ha; exact ⟨y, rfl, ha⟩
          | cons => simp at ha
      subst hy
      obtain ⟨e, het, h1⟩ := Option.bind_eq_some_iff.1 h
      obtain ⟨es, hes, h2⟩ := Option.map_eq_some_iff.1 h1
      cases h2
      refine ⟨.value (.int .i64 es.length), C.w, ?_, Nxt.here M (.inl ⟨_, rfl, .v _⟩)⟩
      have := len_run (ty := ty) M het (ev y) hes C.w
      simp [execOp, resolve, invoke, builtin, this]
    · rename_i s n t tx ha
      obtain ⟨y1, y2, rfl, e1, e2⟩ : ∃ y1 y2, args = [y1, y2] ∧ st.ev y1 = s ∧ st.ev y2 = .v (.int .i64 n) := by
        cases args with
        | nil => simp at ha
        | cons y r => cases r with
          | nil => simp at ha
          | cons z r => cases r with
            | nil => simp at ha; exact ⟨y, z, rfl, ha.1, ha.2⟩
            | cons => simp at ha
      split at h
      · rename_i htx
        subst e1
        have h2 := ev y2
        rw [e2] at h2
        obtain ⟨u, w', hu, hN⟩ := appendZ_run (ty := ty) M htx (ev y1) h2 h
        refine ⟨.value u, w', ?_, hN.mono fun _ _ _ q => .inl ⟨u, rfl, q⟩⟩
        simp [execOp, resolve, invoke, builtin, hu]
      · cases h
    · rename_i s x0 t tx hnx ha
      obtain ⟨y1, y2, rfl, e1, e2⟩ : ∃ y1 y2, args = [y1, y2] ∧ st.ev y1 = s ∧ st.ev y2 = x0 := by
        cases args with
        | nil => simp at ha
        | cons y r => cases r with
          | nil => simp at ha
          | cons z r => cases r with
            | nil => simp at ha; exact ⟨y, z, rfl, ha.1, ha.2⟩
            | cons => simp at ha
      subst e1 e2
      obtain ⟨u, w', hu, hN⟩ := append_run (ty := ty) M (ev y1) (ev y2) h
      refine ⟨.value u, w', ?_, hN.mono fun _ _ _ q => .inl ⟨u, rfl, q⟩⟩
      simp [execOp, resolve, invoke, builtin, hu]
    · rename_i x0 t ha
      obtain ⟨y, rfl, hy⟩ : ∃ y, args = [y] ∧ st.ev y = x0 := by
        cases args with
        | nil => simp at ha
        | cons y r => cases r with
          | nil => simp at ha; exact ⟨y, rfl, ha⟩
          | cons => simp at ha
      subst hy
      obtain ⟨u, w', hu, hN⟩ := clear_run (ty := ty) M (ev y) h
      refine ⟨.value u, w', ?_, hN.mono fun _ _ _ q => .inl ⟨u, rfl, q⟩⟩
      simp [execOp, resolve, invoke, builtin, hu]
    · rename_i t ha
      obtain ⟨y, rfl, hy⟩ : ∃ y, args = [y] ∧ st.ev y = .nil := by
        cases args with
        | nil => simp at ha
        | cons y r => cases r with
          | nil => simp at ha; exact ⟨y, rfl, ha⟩
          | cons => simp at ha
      obtain ⟨e, het, h1⟩ := Option.map_eq_some_iff.1 h
      cases h1
      have hv := ev y
      rw [hy] at hv
      have hu := elemT_under het
      obtain ⟨ad, hvy⟩ : ∃ ad, a.eval y = .slice ad 0 0 := by
        generalize a.eval y = vy at hv
        cases hv
        exact ⟨_, rfl⟩
      refine ⟨.value (.int .i64 0), C.w, ?_, Nxt.here M (.inl ⟨_, rfl, .v _⟩)⟩
      simp [execOp, resolve, invoke, builtin, Builtin.cap_, hvy, run_underlying hu, goInt]
    · cases h
  all_goals (simp only [aval] at h; cases h)

end Go.Proofs.YtokhnmchnfkiiaaDoor.Am

/- The abstract machine: contracts of functions, and what a call by one of them leaves. No conditions. -/
namespace Go.Proofs.YtokhnmchnfkiiaaDoor.Am
open Go Go.RowKit
set_option linter.unusedSimpArgs false
set_option linter.unusedVariables false

/-- What coloured values do not lie in is there. -/
theorem MemOK.nlt {G : Cfg} {base : Nat} {bx0 : List Nat} {C : Ctx} {m : Mem} (M : MemOK G base bx0 C m) {b : Nat} (h : C.N false b) : b < C.w.heap.size := by
  rcases h with (h | h) | h | ⟨i, I, hI, hg⟩
  · exact (M.n0 _ h).1
  · exact (M.wild.soft _ h).lt
  · exact M.bxin h
  · exact (M.own hI hg).2

/-- No pointer to a box; slices of the allowed colours alone. -/
inductive AV.Free (p : Bool → Prop) : AV → Prop
  | v (x : Value) : AV.Free p (.v x)
  | agg (cs : List AV) (h : ∀ c ∈ cs, AV.Free p c) : AV.Free p (.agg cs)
  | tup (cs : List AV) (h : ∀ c ∈ cs, AV.Free p c) : AV.Free p (.tup cs)
  | sl (col : Bool) (es : List (List AV)) (hp : p col) (h : ∀ e ∈ es, ∀ c ∈ e, AV.Free p c) : AV.Free p (.sl col es)
  | nil : AV.Free p .nil
  | el (col : Bool) (cs : List AV) (hp : p col) (h : ∀ c ∈ cs, AV.Free p c) : AV.Free p (.el col cs)
  | clo (f : FuncId) (pre post : List AV) (h : ∀ c ∈ pre, AV.Free p c) (h' : ∀ c ∈ post, AV.Free p c) : AV.Free p (.clo f pre post)
  | dead : AV.Free p .dead

/-- A reference to an array of the call's own, handed on: what it holds now, lent. -/
def lend1 (m : Mem) : AV → AV
  | .arr i n off len => if m.ok i n = true then .sl true (((m.arrs i).es.drop off).take len) else .dead
  | .nil => .sl true []
  | a => a
def lend (m : Mem) : AV → AV
  | .agg cs => .agg (cs.map (lend1 m))
  | .tup cs => .tup (cs.map (lend1 m))
  | a => lend1 m a

structure BoxOK (C : Ctx) (bs : List (List AV)) : Prop where
  len : C.bx.length = bs.length
  nodup : C.bx.Nodup
  lt : ∀ b ∈ C.bx, b < C.w.heap.size
  box : ∀ (k b : Nat) (cs : List AV), C.bx[k]? = some b → bs[k]? = some cs → ∃ cur t, C.w.heap[b]? = some (.cells cur t (0, 0)) ∧ cur.size = cs.length ∧
    ∀ (j : Nat) (c : AV) (x : Value), cs[j]? = some c → cur[j]? = some x → RV C c x
  glob : GlobOK C

/-- A function called with such arguments, such boxes: it returns r; the boxes outside 'wr' are not written, the boxes are then such as B says; nothing else that was there has turned. -/
def ACall (P : Program) (f : FuncId) (args : List AV) (bs : List (List AV)) (wr : Nat → Bool) (r : AV) (B : List (List AV) → Prop) : Prop :=
  ∀ (C : Ctx) (vs : Array Value), (∀ i, C.A i = none) → BoxOK C bs → (∀ b, C.W b → soft C.w b ∧ b ∉ C.bx) → (∀ b, C.N0 false b → b < C.w.heap.size) → RVs C args vs.toList →
    Calls P f vs C.w fun e w' => ∃ v C', e = .returned v ∧ C'.w = w' ∧ C'.N0 = C.N0 ∧ Keeps C C' ∧ (∀ i, C'.A i = none) ∧ (∃ bs', B bs' ∧ BoxOK C' bs') ∧
      WExt C.w.heap.size ((List.range C.bx.length).filterMap fun k => if wr k then C.bx[k]? else none) C.w w' ∧ RV C' r v

/-- The function has a body, and a call of it enters it. -/
def enters (P : Program) (f : FuncId) : Bool := match P.funcs[f]? with | some fn => fn.name != "runtime.NumGoroutine" && fn.body.isSome | none => false

/-- A function that reads no box: a plain function of its arguments. -/
def Pure (P : Program) (f : FuncId) (args : List AV) (r : AV) : Prop := enters P f = true ∧ r.Free (· = false) ∧ ACall P f args [] (fun _ => false) r (fun _ => True)

/-- A function that may read the boxes, and writes none of them. -/
def BCall (P : Program) (f : FuncId) (args : List AV) (bs : List (List AV)) (r : AV) : Prop := enters P f = true ∧ r.Free (· = false) ∧ ACall P f args bs (fun _ => false) r (fun _ => True)

/-- The context that a callee without boxes is given. -/
def Ctx.bare (C : Ctx) : Ctx := { w := C.w, N0 := fun col b => col = false ∧ C.N false b, bx := [], W := fun _ => False, ver := C.ver, A := fun _ => none }

theorem bare_N {C : Ctx} {col : Bool} {b : Nat} (h : ¬ C.N col b) : ¬ C.bare.N col b := by
  rintro ((⟨rfl, h1⟩ | h1) | h1 | ⟨_, _, h1, _⟩)
  · exact h h1
  · cases h1
  · cases h1
  · cases h1

theorem rv_bare {C : Ctx} {a : AV} {x : Value} (h : RV C a x) {p : Bool → Prop} (hf : a.Free p) : RV C.bare a x := by
  induction h with
  | v x => exact .v x
  | agg cs vs hl _ ih =>
    cases hf with
    | agg _ hh => exact .agg cs vs hl fun j c x h1 h2 => ih j c x h1 h2 (hh c (List.mem_of_getElem? h1))
  | tup cs vs hl _ ih =>
    cases hf with
    | tup _ hh => exact .tup cs vs hl fun j c x h1 h2 => ih j c x h1 h2 (hh c (List.mem_of_getElem? h1))
  | nil a => exact .nil a
  | sl0 col a cap => exact .sl0 col a cap
  | sl col es b off size cap f hne hs hN hz hb hcap hc _ ih =>
    cases hf with
    | sl _ _ _ hh => exact .sl col es b off size cap f hne hs (bare_N hN) hz hb hcap hc fun i j e c h1 h2 => ih i j e c h1 h2 (hh e (List.mem_of_getElem? h1) c (List.mem_of_getElem? h2))
  | el col cs b off f hN hb hc _ ih =>
    cases hf with
    | el _ _ _ hh => exact .el col cs b off f (bare_N hN) hb hc fun j c h1 => ih j c h1 (hh c (List.mem_of_getElem? h1))
  | box k off b h => cases hf
  | arr i n off len x h1 hn _ => cases hf
  | ael i n idx off x h1 hn _ => cases hf
  | clo f pre post ps qs hp hq _ _ ih ih' =>
    cases hf with
    | clo _ _ _ hh hh' => exact .clo f pre post ps qs hp hq (fun j c x h1 h2 => ih j c x h1 h2 (hh c (List.mem_of_getElem? h1))) (fun j c x h1 h2 => ih' j c x h1 h2 (hh' c (List.mem_of_getElem? h1)))
  | dead x => exact .dead x
  | any => cases hf
  | wsl0 => cases hf
  | wsl => cases hf
  | wel => cases hf

theorem lend1_rv {G : Cfg} {base : Nat} {bx0 : List Nat} {C : Ctx} {m : Mem} (M : MemOK G base bx0 C m) {a : AV} {x : Value} (h : RV C a x) {p : Bool → Prop} (hf : (lend1 m a).Free p) : RV C.bare (lend1 m a) x := by
  cases a with
  | arr i n off len =>
    simp only [lend1] at hf ⊢
    split
    · rename_i hk
      rw [if_pos hk] at hf
      obtain ⟨I, xs, hI, hs, z1, z2, z3, z4, z5, z6⟩ := arr_rv M h hk
      cases hf with
      | sl _ _ _ hh =>
        refine (sl_of_own (C := C.bare) hs z3 z4 z5 ?_ true ?_).1
        · intro i' j r c y hil hr hc hy
          refine rv_bare (z6 (off + i') j r c y hr hc hy) (hh r ?_ c (List.mem_of_getElem? hc))
          refine List.mem_of_getElem? (i := i') ?_
          rw [List.getElem?_take, if_pos hil, List.getElem?_drop]
          exact hr
        · rintro g hg ((⟨h1, _⟩ | h1) | h1 | ⟨_, _, h1, _⟩)
          · cases h1
          · cases h1
          · cases h1
          · cases h1
    · exact .dead _
  | nil => cases h with | nil a => exact .sl0 _ _ _
  | _ => exact rv_bare h hf

theorem lend_rv {G : Cfg} {base : Nat} {bx0 : List Nat} {C : Ctx} {m : Mem} (M : MemOK G base bx0 C m) {a : AV} {x : Value} (h : RV C a x) {p : Bool → Prop} (hf : (lend m a).Free p) : RV C.bare (lend m a) x := by
  have many : ∀ (cs : List AV) (vs : Array Value), cs.length = vs.size → (∀ (j : Nat) (c : AV) (x : Value), cs[j]? = some c → vs[j]? = some x → RV C c x) → (∀ c ∈ cs.map (lend1 m), c.Free p) →
      (cs.map (lend1 m)).length = vs.size ∧ ∀ (j : Nat) (c : AV) (x : Value), (cs.map (lend1 m))[j]? = some c → vs[j]? = some x → RV C.bare c x := by
    intro cs vs hl hh hff
    refine ⟨by simp [hl], ?_⟩
    intro j c y h1 h2
    have hm := List.mem_of_getElem? h1
    rw [List.getElem?_map] at h1
    obtain ⟨d, hd, he⟩ := Option.map_eq_some_iff.1 h1
    subst he
    exact lend1_rv M (hh j d y hd h2) (hff _ hm)
  cases a with
  | agg cs =>
    simp only [lend] at hf ⊢
    cases h with
    | agg _ vs hl hh =>
      cases hf with
      | agg _ hff => obtain ⟨q1, q2⟩ := many cs vs hl hh hff; exact .agg _ _ q1 q2
  | tup cs =>
    simp only [lend] at hf ⊢
    cases h with
    | tup _ vs hl hh =>
      cases hf with
      | tup _ hff => obtain ⟨q1, q2⟩ := many cs vs hl hh hff; exact .tup _ _ q1 q2
  | _ => exact lend1_rv M h hf

/-- Back from a callee without boxes: the caller's context over the new world, and the result in it. -/
theorem back_bare {G : Cfg} {base : Nat} {bx0 : List Nat} {C : Ctx} {m : Mem} (M : MemOK G base bx0 C m) {w' : World} (W : WExt C.w.heap.size [] C.w w') {R : Ctx → Prop} (hR : ∀ D, D.w = w' → D.bx = C.bx → D.ver = C.ver → D.A = C.A → D.N0 = C.N0 → D.W = C.W → R D) : Nxt G base bx0 C w' m R := by
  have hblk : ∀ k, k < C.w.heap.size → w'.heap[k]? = C.w.heap[k]? := fun k hk => W.block k hk (by simp)
  have K : Keeps C { C with w := w' } := ⟨W.size, fun _ _ _ h => h, fun b hb _ => hblk b hb, fun _ _ h => h, fun _ => Nat.le_refl _, fun _ I h _ => ⟨I, h, rfl, rfl, rfl⟩, rfl, fun b hb _ => .of_block (hblk b hb)⟩
  refine ⟨{ C with w := w' }, rfl, rfl, K, ?_, ⟨W.os, W.tape, W.output, W.size, fun k hk _ => hblk k (Nat.lt_of_lt_of_le hk M.le)⟩, hR _ rfl rfl rfl rfl rfl rfl⟩
  refine ⟨M.bxlen, M.nodup, M.bxlt, Nat.le_trans M.le W.size, M.n0.step rfl W.size (fun i I g h k => .inr ⟨i, I, h, k⟩), ?_, M.ver, M.dead, ?_, M.sep, M.lo, M.wild.step rfl (fun b h => hblk b (M.wild.soft b h).lt) (fun _ h => .inl h) (fun i I g h k => .inr ⟨i, I, h, k⟩), fun e => (M.top e).imp fun _ T => ⟨T.le, T.old, T.new, T.bx0, T.W⟩, M.glob.keep K⟩
  · intro k b cs h1 h2
    obtain ⟨cur, t, hc, hs, hr⟩ := M.box k b cs h1 h2
    exact ⟨cur, t, (hblk b (M.bxin (List.mem_of_getElem? h1))).trans hc, hs, fun j c x a b => (hr j c x a b).keep K⟩
  · intro i hl
    obtain ⟨I, xs, hA, hz, hp, hlen, hes, ho, hr⟩ := M.arr i hl
    exact ⟨I, xs, hA, hz, hp, hlen, hes, ho.kept (row := none) ⟨W.os, W.tape, W.output, W.size, fun k hk _ => hblk k hk⟩ (by cases I.val.ownBlock <;> simp), fun idx j e c x a b d => (hr idx j e c x a b d).keep K⟩

theorem rv_back {D : Ctx} {r : AV} {x : Value} (h : RV D r x) (hf : r.Free (· = false)) {E : Ctx} (hw : E.w = D.w) (hN : ∀ b, b < D.w.heap.size → ¬ D.N false b → ¬ E.N false b) : RV E r x := by
  induction h with
  | v x => exact .v x
  | agg cs vs hl _ ih =>
    cases hf with
    | agg _ hh => exact .agg cs vs hl fun j c x h1 h2 => ih j c x h1 h2 (hh c (List.mem_of_getElem? h1))
  | tup cs vs hl _ ih =>
    cases hf with
    | tup _ hh => exact .tup cs vs hl fun j c x h1 h2 => ih j c x h1 h2 (hh c (List.mem_of_getElem? h1))
  | nil a => exact .nil a
  | sl0 col a cap => exact .sl0 col a cap
  | sl col es b off size cap f hne hs hN' hz hb hcap hc _ ih =>
    cases hf with
    | sl _ _ hp hh =>
      subst hp
      exact .sl false es b off size cap f hne hs (hN b hb hN') (fun e => by rw [hw]; exact hz e) (by rw [hw]; exact hb) hcap (by rw [hw]; exact hc) fun i j e c h1 h2 => ih i j e c h1 h2 (hh e (List.mem_of_getElem? h1) c (List.mem_of_getElem? h2))
  | el col cs b off f hN' hb hc _ ih =>
    cases hf with
    | el _ _ hp hh =>
      subst hp
      exact .el false cs b off f (hN b hb hN') (by rw [hw]; exact hb) (by rw [hw]; exact hc) fun j c h1 => ih j c h1 (hh c (List.mem_of_getElem? h1))
  | box k off b h => cases hf
  | arr i n off len x h1 hn hh => cases hf
  | ael i n idx off x h1 hn _ => cases hf
  | clo f pre post ps qs hp hq _ _ ih ih' =>
    cases hf with
    | clo _ _ _ hh hh' => exact .clo f pre post ps qs hp hq (fun j c x h1 h2 => ih j c x h1 h2 (hh c (List.mem_of_getElem? h1))) (fun j c x h1 h2 => ih' j c x h1 h2 (hh' c (List.mem_of_getElem? h1)))
  | dead x => exact .dead x
  | any => cases hf
  | wsl0 => cases hf
  | wsl => cases hf
  | wel => cases hf


theorem wr_none (bx : List Nat) : ((List.range bx.length).filterMap fun k => if (fun _ : Nat => false) k then bx[k]? else none) = [] := by
  rw [List.filterMap_eq_nil_iff]
  intro k _
  rfl

theorem bare_boxes (C : Ctx) (hg : GlobOK C) : BoxOK C.bare [] where
  glob := hg.same rfl fun b _ h => bare_N h
  len := rfl
  nodup := List.nodup_nil
  lt := fun b hb => by cases hb
  box := fun k b cs h => by
    have h' : ([] : List Nat)[k]? = some b := h
    simp at h'

theorem pure_callG {G : Cfg} {base : Nat} {bx0 : List Nat} {C : Ctx} {m : Mem} (M : MemOK G base bx0 C m) {f : FuncId} {les : List AV} {r : AV} (hp : Pure G.P f les r) {vs : Array Value}
    (hv : RVs C.bare les vs.toList) : Calls G.P f vs C.w fun e w' => ∃ v, e = .returned v ∧ Nxt G base bx0 C w' m fun D => RV D r v := by
  obtain ⟨_, hf, hc⟩ := hp
  refine (hc C.bare vs (fun _ => rfl) (bare_boxes C M.glob) (fun _ h => h.elim) (fun b h => M.nlt h.2) hv).mono ?_
  · rintro e w' ⟨v, C', rfl, hw, hn, K, hA, hB, W, hr⟩
    refine ⟨v, rfl, back_bare M ?_ ?_⟩
    · have : ((List.range C.bare.bx.length).filterMap fun k => if (fun _ : Nat => false) k then C.bare.bx[k]? else none) = [] := rfl
      rw [this] at W
      exact W
    · intro D d1 d2 d3 d4 d5 d6
      refine rv_back hr hf (d1.trans hw.symm) ?_
      intro b _ hN h
      have h2 : C.N false b := by
        simp only [Ctx.N, d5, d2, d4, d6] at h
        exact h
      exact hN (.inl (.inl (by rw [hn]; exact ⟨rfl, h2⟩)))

theorem pure_call {G : Cfg} {base : Nat} {bx0 : List Nat} {C : Ctx} {m : Mem} (M : MemOK G base bx0 C m) {f : FuncId} {args : List AV} {r : AV} (hp : Pure G.P f (args.map (lend m)) r) (hfree : ∀ a ∈ args, (lend m a).Free (fun _ => True)) {vs : Array Value}
    (hv : RVs C args vs.toList) : Calls G.P f vs C.w fun e w' => ∃ v, e = .returned v ∧ Nxt G base bx0 C w' m fun D => RV D r v := by
  refine pure_callG M hp ⟨by simpa using hv.1, ?_⟩
  intro j c x h1 h2
  rw [List.getElem?_map] at h1
  obtain ⟨a, ha, he⟩ := Option.map_eq_some_iff.1 h1
  subst he
  exact lend_rv M (hv.2 j a x ha h2) (hfree a (List.mem_of_getElem? ha))
/-- As lent, but nil stays nil. -/
def lendN (m : Mem) : AV → AV
  | .nil => .nil
  | a => lend m a
theorem pure_callN {G : Cfg} {base : Nat} {bx0 : List Nat} {C : Ctx} {m : Mem} (M : MemOK G base bx0 C m) {f : FuncId} {args : List AV} {r : AV} (hp : Pure G.P f (args.map (lendN m)) r) (hfree : ∀ a ∈ args, (lend m a).Free (fun _ => True)) {vs : Array Value}
    (hv : RVs C args vs.toList) : Calls G.P f vs C.w fun e w' => ∃ v, e = .returned v ∧ Nxt G base bx0 C w' m fun D => RV D r v := by
  refine pure_callG M hp ⟨by simpa using hv.1, ?_⟩
  intro j c x h1 h2
  rw [List.getElem?_map] at h1
  obtain ⟨a, ha, he⟩ := Option.map_eq_some_iff.1 h1
  subst he
  have h3 := hv.2 j a x ha h2
  cases a with
  | nil => cases h3 with | nil q => exact .nil q
  | _ => exact lend_rv M h3 (hfree _ (List.mem_of_getElem? ha))

def lentBoxes (m : Mem) : List (List AV) := m.boxes.map (·.map (lend1 m))

/-- The context that a callee is given which may read the boxes. -/
def Ctx.lent (C : Ctx) : Ctx := { w := C.w, N0 := fun col b => col = false ∧ C.N false b, bx := C.bx, W := C.W, ver := C.ver, A := fun _ => none }

theorem lent_keeps (C : Ctx) : Keeps C C.lent := by
  refine ⟨Nat.le_refl _, ?_, fun _ _ _ => rfl, fun _ _ h => h, fun _ => Nat.le_refl _, fun i I h _ => (by cases h), rfl, fun _ _ _ => .of_block rfl⟩
  rintro col b _ hn ((⟨rfl, h⟩ | h) | h | ⟨_, _, h, _⟩)
  · exact hn h
  · exact hn (.inl (.inr h))
  · exact hn (.inr (.inl h))
  · cases h

theorem lend1_lent {G : Cfg} {base : Nat} {bx0 : List Nat} {C : Ctx} {m : Mem} (M : MemOK G base bx0 C m) {a : AV} {x : Value} (h : RV C a x) : RV C.lent (lend1 m a) x := by
  cases a with
  | arr i n off len =>
    simp only [lend1]
    split
    · rename_i hk
      obtain ⟨I, xs, hI, hs, z1, z2, z3, z4, z5, z6⟩ := arr_rv M h hk
      refine (sl_of_own (C := C.lent) hs z3 z4 z5 (fun i' j r c y _ hr hc hy => (z6 (off + i') j r c y hr hc hy).keep (lent_keeps C)) true ?_).1
      rintro g hg ((⟨h1, _⟩ | h1) | h1 | ⟨_, _, h1, _⟩)
      · cases h1
      · exact M.wild.own g i I h1 hI hg
      · exact (M.sep i I g hI hg).1 h1
      · cases h1
    · exact .dead _
  | nil => cases h with | nil a => exact .sl0 _ _ _
  | _ => exact h.keep (lent_keeps C)

theorem lend_lent {G : Cfg} {base : Nat} {bx0 : List Nat} {C : Ctx} {m : Mem} (M : MemOK G base bx0 C m) {a : AV} {x : Value} (h : RV C a x) : RV C.lent (lend m a) x := by
  cases a with
  | agg cs =>
    cases h with
    | agg _ vs hl hh =>
      refine .agg _ _ (by simp [hl]) ?_
      intro j c y h1 h2
      rw [List.getElem?_map] at h1
      obtain ⟨d, hd, he⟩ := Option.map_eq_some_iff.1 h1
      subst he
      exact lend1_lent M (hh j d y hd h2)
  | tup cs =>
    cases h with
    | tup _ vs hl hh =>
      refine .tup _ _ (by simp [hl]) ?_
      intro j c y h1 h2
      rw [List.getElem?_map] at h1
      obtain ⟨d, hd, he⟩ := Option.map_eq_some_iff.1 h1
      subst he
      exact lend1_lent M (hh j d y hd h2)
  | _ => exact lend1_lent M h

theorem lent_boxes {G : Cfg} {base : Nat} {bx0 : List Nat} {C : Ctx} {m : Mem} (M : MemOK G base bx0 C m) : BoxOK C.lent (lentBoxes m) := by
  refine ⟨by have := M.bxlen; simp only [lentBoxes, List.length_map]; exact this, M.nodup, fun b hb => M.bxin hb, ?_, M.glob.keep (lent_keeps C)⟩
  intro k b cs h1 h2
  simp only [lentBoxes, List.getElem?_map] at h2
  obtain ⟨ds, hd, he⟩ := Option.map_eq_some_iff.1 h2
  subst he
  obtain ⟨cur, t, hc, hs, hr⟩ := M.box k b ds h1 hd
  refine ⟨cur, t, hc, by simp [hs], ?_⟩
  intro j c x h3 h4
  rw [List.getElem?_map] at h3
  obtain ⟨d, hd', he⟩ := Option.map_eq_some_iff.1 h3
  subst he
  exact lend1_lent M (hr j d x hd' h4)

theorem boxes_call {G : Cfg} {base : Nat} {bx0 : List Nat} {C : Ctx} {m : Mem} (M : MemOK G base bx0 C m) {f : FuncId} {args : List AV} {r : AV} (hp : BCall G.P f (args.map (lend m)) (lentBoxes m) r) {vs : Array Value}
    (hv : RVs C args vs.toList) : Calls G.P f vs C.w fun e w' => ∃ v, e = .returned v ∧ Nxt G base bx0 C w' m fun D => RV D r v := by
  obtain ⟨_, hf, hc⟩ := hp
  refine (hc C.lent vs (fun _ => rfl) (lent_boxes M) (fun b h => ⟨M.wild.soft b h, M.wild.bx b h⟩) (fun b h => M.nlt h.2) ?_).mono ?_
  · refine ⟨by simpa using hv.1, ?_⟩
    intro j c x h1 h2
    rw [List.getElem?_map] at h1
    obtain ⟨a, ha, he⟩ := Option.map_eq_some_iff.1 h1
    subst he
    exact lend_lent M (hv.2 j a x ha h2)
  · rintro e w' ⟨v, C', rfl, hw, hn, K, hA, hB, W, hr⟩
    refine ⟨v, rfl, back_bare M ?_ ?_⟩
    · rw [wr_none] at W
      exact W
    · intro D d1 d2 d3 d4 d5 d6
      refine rv_back hr hf (d1.trans hw.symm) ?_
      intro b _ hN h
      have h2 : C.N false b := by
        simp only [Ctx.N, d5, d2, d4, d6] at h
        exact h
      exact hN (.inl (.inl (by rw [hn]; exact ⟨rfl, h2⟩)))

/-- The same, where nil is handed on as nil. -/
theorem boxes_callN {G : Cfg} {base : Nat} {bx0 : List Nat} {C : Ctx} {m : Mem} (M : MemOK G base bx0 C m) {f : FuncId} {args : List AV} {r : AV} (hp : BCall G.P f (args.map (lendN m)) (lentBoxes m) r) {vs : Array Value}
    (hv : RVs C args vs.toList) : Calls G.P f vs C.w fun e w' => ∃ v, e = .returned v ∧ Nxt G base bx0 C w' m fun D => RV D r v := by
  obtain ⟨_, hf, hc⟩ := hp
  refine (hc C.lent vs (fun _ => rfl) (lent_boxes M) (fun b h => ⟨M.wild.soft b h, M.wild.bx b h⟩) (fun b h => M.nlt h.2) ?_).mono ?_
  · refine ⟨by simpa using hv.1, ?_⟩
    intro j c x h1 h2
    rw [List.getElem?_map] at h1
    obtain ⟨a, ha, he⟩ := Option.map_eq_some_iff.1 h1
    subst he
    have h3 := hv.2 j a x ha h2
    cases a with
    | nil => cases h3 with | nil q => exact .nil q
    | _ => exact lend_lent M h3
  · rintro e w' ⟨v, C', rfl, hw, hn, K, hA, hB, W, hr⟩
    refine ⟨v, rfl, back_bare M ?_ ?_⟩
    · rw [wr_none] at W
      exact W
    · intro D d1 d2 d3 d4 d5 d6
      refine rv_back hr hf (d1.trans hw.symm) ?_
      intro b _ hN h
      have h2 : C.N false b := by
        simp only [Ctx.N, d5, d2, d4, d6] at h
        exact h
      exact hN (.inl (.inl (by rw [hn]; exact ⟨rfl, h2⟩)))

end Go.Proofs.YtokhnmchnfkiiaaDoor.Am
