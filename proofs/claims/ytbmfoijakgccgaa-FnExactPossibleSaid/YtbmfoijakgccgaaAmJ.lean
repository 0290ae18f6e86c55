/- The abstract machine: append, new slices, structs that are built. No conditions. -/
import Derived.Test.YtbmfoijakgccgaaAmI
namespace Go.Proofs.Ytbmfoijakgccgaa.Am
open Go Go.RowKit
set_option linter.unusedSimpArgs false
set_option linter.unusedVariables false

/-- Rows of a slice against the values that the model holds: value f i j at row i, cell j. -/
def Rows' (C : Ctx) (es : List (List AV)) (f : Nat → Nat → Value) : Prop := ∀ (i j : Nat) (r : List AV) (c : AV), es[i]? = some r → r[j]? = some c → RV C c (f i j)

theorem seal_rows {G : Cfg} {base : Nat} {bx0 : List Nat} : ∀ (es : List (List AV)) (f : Nat → Nat → Value) {C : Ctx} {m : Mem}, MemOK G base bx0 C m → Rows' C es f →
    Nxt G base bx0 C C.w (sealRows es m).2 fun C' => Rows' C' (sealRows es m).1 f
  | [], f, C, m, M, h => Nxt.here M (by simp [Rows', sealRows])
  | e :: es, f, C, m, M, h => by
    simp only [sealRows]
    have h0 : RVs C e ((List.range e.length).map (f 0)) := by
      refine ⟨by simp, ?_⟩
      intro j c x hc hx
      have hj := (List.getElem?_eq_some_iff.1 hc).1
      simp [hj] at hx
      subst hx
      exact h 0 j e c rfl hc
    refine (seal_cells e _ M h0).bind ?_
    intro C1 hw _ K M1 hR
    have := seal_rows es (fun i j => f (i + 1) j) M1 (fun i j r c hi hj => (h (i + 1) j r c (by simpa using hi) hj).keep K)
    rw [hw] at this
    refine this.mono ?_
    intro C2 _ K2 hR2 i j r c hi hj
    cases i with
    | zero =>
      simp at hi
      subst hi
      have hj' := (List.getElem?_eq_some_iff.1 hj).1
      have hl := hR.1
      rw [List.length_map, List.length_range] at hl
      have hj2 : j < e.length := by rw [← hl]; exact hj'
      exact (hR.2 j c (f 0 j) hj (by simp [hj2])).keep K2
    | succ i => exact hR2 i j r c (by simpa using hi) hj

theorem sealCells_length (cs : List AV) : ∀ m, (sealCells cs m).1.length = cs.length := by
  induction cs with
  | nil => intro m; rfl
  | cons c cs ih =>
    intro m
    cases c with
    | arr i n off len =>
      simp only [sealCells]
      split <;> simp [ih]
    | _ => simp [sealCells, ih]
theorem sealRows_length (es : List (List AV)) : ∀ m, (sealRows es m).1.length = es.length := by
  induction es with
  | nil => intro m; rfl
  | cons e es ih => intro m; simp [sealRows, ih]
theorem sealRows_row (es : List (List AV)) : ∀ (m : Mem) (z : Nat), (∀ r ∈ es, r.length = z) → ∀ r ∈ (sealRows es m).1, r.length = z := by
  induction es with
  | nil => intro m z _ r h; cases h
  | cons e es ih =>
    intro m z hz r hr
    simp only [sealRows] at hr
    cases hr with
    | head => rw [sealCells_length]; exact hz e (by simp)
    | tail _ hr => exact ih _ z (fun r h => hz r (by simp [h])) r hr

/-- The cells of rows, one behind the other. -/
def flat (n z : Nat) (f : Nat → Nat → Value) : List Value := (List.range (n * z)).map fun q => f (q / z) (q % z)
theorem flat_length (n z : Nat) (f : Nat → Nat → Value) : (flat n z f).length = n * z := by simp [flat]
theorem flat_get {n z : Nat} (f : Nat → Nat → Value) {i j : Nat} (hi : i < n) (hj : j < z) : (flat n z f)[i * z + j]? = some (f i j) := by
  have hlt : i * z + j < n * z := by
    have : (i + 1) * z ≤ n * z := Nat.mul_le_mul_right _ hi
    rw [Nat.add_mul, Nat.one_mul] at this
    omega
  simp only [flat, List.getElem?_map, List.getElem?_range hlt, Option.map_some, Option.some.injEq]
  have h1 : (i * z + j) / z = i := by
    rw [Nat.mul_comm, Nat.mul_add_div (by omega), Nat.div_eq_of_lt hj, Nat.add_zero]
  have h2 : (i * z + j) % z = j := by
    rw [Nat.mul_comm, Nat.mul_add_mod, Nat.mod_eq_of_lt hj]
  rw [h1, h2]
theorem flat_cells {w : World} {n z : Nat} {f : Nat → Nat → Value} {b off : Nat} (h : ∀ i j, i < n → j < z → w.cell? ⟨b, off + i * z + j, none⟩ = some (f i j)) :
    ∀ (q : Nat) (u : Value), (flat n z f)[q]? = some u → w.cell? ((⟨b, off, none⟩ : Addr).add q) = some u := by
  intro q u hq
  have hl := (List.getElem?_eq_some_iff.1 hq).1
  rw [flat_length] at hl
  have hz : 0 < z := by
    rcases Nat.eq_zero_or_pos z with h0 | h0
    · rw [h0, Nat.mul_zero] at hl; omega
    · exact h0
  have e := Nat.div_add_mod q z
  have hi : q / z < n := Nat.div_lt_of_lt_mul (by rw [Nat.mul_comm]; exact hl)
  have hj := Nat.mod_lt q hz
  have hg := flat_get f hi hj
  have e2 : q / z * z + q % z = q := by rw [Nat.mul_comm]; exact e
  rw [e2, hq] at hg
  cases hg
  rw [Addr.add_lit]
  have := h _ _ hi hj
  rw [Nat.add_assoc, e2] at this
  exact this

theorem zerOK_info {G : Cfg} {t : TypeId} (h : G.zerOK t = true) : ∃ i z, G.P.info? t = some i ∧ i.zero = some z ∧ z.cells.size = i.size ∧ ∀ u ∈ z.cells, u.oneCell' = true := by
  unfold Cfg.zerOK at h
  split at h
  · rename_i i hi
    split at h
    · rename_i z hz
      simp only [Bool.and_eq_true, beq_iff_eq, Array.all_eq_true] at h
      refine ⟨i, z, hi, hz, h.1, ?_⟩
      intro u hu
      obtain ⟨k, hk, rfl⟩ := Array.getElem_of_mem hu
      exact h.2 k hk
    · cases h
  · cases h

theorem one_of_rows {C : Ctx} {es : List (List AV)} {f : Nat → Nat → Value} {z : Nat} (h : Rows' C es f) (hl : ∀ r ∈ es, r.length = z) (h1 : es.all (·.all AV.one) = true) : ∀ u ∈ flat es.length z f, u.oneCell' = true := by
  intro u hu
  obtain ⟨q, hq, rfl⟩ := List.mem_map.1 hu
  have hq' : q < es.length * z := by simpa using hq
  have hz : 0 < z := by
    rcases Nat.eq_zero_or_pos z with h0 | h0
    · rw [h0, Nat.mul_zero] at hq'; omega
    · exact h0
  have hi : q / z < es.length := Nat.div_lt_of_lt_mul (by rw [Nat.mul_comm]; exact hq')
  have hj := Nat.mod_lt q hz
  have hr := List.getElem?_eq_getElem hi
  have hrl := hl _ (List.getElem_mem hi)
  have hc : es[q / z][q % z]? = some (es[q / z][q % z]'(by omega)) := List.getElem?_eq_getElem (by omega)
  refine rv_one (h _ _ _ _ hr hc) ?_
  have h2 := List.all_eq_true.1 h1 _ (List.getElem_mem hi)
  exact List.all_eq_true.1 h2 _ (List.getElem_mem (by omega))

theorem bts_info {G : Cfg} {t : TypeId} {n : Nat} (h : G.bts t = some n) {i : TypeInfo} (hi : G.P.info? t = some i) : i.bytes = n := by
  unfold Cfg.bts at h
  simp only [hi, Option.map_some, Option.some.injEq] at h
  exact h

theorem append_nothing {P : Program} (w : World) (t tx ty e : TypeId) (i : TypeInfo) (ht : P.underlying t = some (.slice e)) (hi : P.info? e = some i) (base : Option Addr) (sLen sCap : Nat) (hle : sLen ≤ sCap) (x : Value) (hs : Src P i.size tx x 0 [] w) :
    (Builtin.append_ #[t, tx] ty #[.slice base sLen sCap, x]).run P w = .ok (.slice base sLen sCap) w := by
  rcases hs.kind with ⟨e', hk⟩ | hk <;> cases base <;> simp [Builtin.append_, run_underlying ht, run_underlying hk, sizeOf, typeInfo, hi, hs.len, hle, hs.cells, storeCells]

theorem append_own_src {P : Program} (w : World) (base : Nat) (t tx ty e : TypeId) (i : TypeInfo) (z : Value) (ht : P.underlying t = some (.slice e)) (hi : P.info? e = some i) (hz : i.zero = some z) (hzs : z.cells.size = i.size)
    (v : Value) (n : Nat) (xs : List Value) (hown : w.ownsRow base e i.size v n xs) (x : Value) (m : Nat) (news : List Value) (hs : Src P i.size tx x m news w)
    (h63 : n + m ≤ maxLen) (hbytes : (n + m) * i.bytes ≤ 140737488355328) (hbase : base ≤ w.heap.size) :
    ∃ v' w', (Builtin.append_ #[t, tx] ty #[v, x]).run P w = .ok v' w' ∧ w'.ownsRow base e i.size v' (n + m) (xs ++ news) ∧ w.grownBy w' v.ownBlock ∧ ∀ g, v'.ownBlock = some g → w.heap.size ≤ g ∨ v.ownBlock = some g := by
  have hsmall : n + m ≤ 9223372036854775807 := by simp only [maxLen] at h63; omega
  have hlen : (xs ++ news).length = (n + m) * i.size := by rw [List.length_append, hown.1, hs.newsLen, Nat.add_mul]
  have grown : ∀ (old : Nat) (row : Option Nat),
      (w.drew.alloc (.cells ((xs ++ news).toArray ++ Builtin.zeroCells z.cells (grownCap w (n + m) old e - (n + m))) e)).ownsRow base e i.size
        (.slice (some ⟨w.heap.size, 0, none⟩) (n + m) (grownCap w (n + m) old e)) (n + m) (xs ++ news) ∧
      w.grownBy (w.drew.alloc (.cells ((xs ++ news).toArray ++ Builtin.zeroCells z.cells (grownCap w (n + m) old e - (n + m))) e)) row := by
    intro old row
    have hge := grownCap_ge w (n + m) old e
    have hcm : grownCap w (n + m) old e ≤ maxLen := grownCap_le_maxLen w (n + m) old e h63
    refine ⟨⟨hlen, .inr ⟨w.heap.size, _, _, rfl, hbase, Go.heap_alloc_new w.drew _, hge, hcm, ?_, ?_⟩⟩, ⟨rfl, rfl, rfl, by simp, fun k hk _ => Go.heap_alloc_old w.drew _ hk⟩⟩
    · rw [Array.size_append, List.size_toArray, size_zeroCells, hzs, hlen, ← Nat.add_mul]
      congr 1
      omega
    · simp only [Array.toList_append]
      rw [← hlen]
      exact List.take_left
  rcases hown.2 with ⟨rfl, rfl⟩ | ⟨g, cap, cur, rfl, hbg, hg, hnc, hcm, hcs, htake⟩
  · have hx0 : xs = [] := List.eq_nil_of_length_eq_zero (by simpa using hown.1)
    subst hx0
    by_cases hm : m = 0
    · subst hm
      have hn : news = [] := List.eq_nil_of_length_eq_zero (by simpa using hs.newsLen)
      subst hn
      exact ⟨_, w, append_nothing w t tx ty e i ht hi none 0 0 (Nat.le_refl _) x hs, World.ownsRow_nil w base e i.size, ⟨rfl, rfl, rfl, Nat.le_refl _, fun _ _ _ => rfl⟩, fun g hg => by cases hg⟩
    · have hr := run_append_grow_src (P := P) w t tx ty e i z ht hi hz none 0 0 [] (by simp [Builtin.firstCells]) x m news hs (by omega) (by omega) (by
        rw [Nat.zero_add, nextslicecap_zero (by omega)]; rw [Nat.zero_add] at hbytes; omega)
      have hgr := grown 0 (Value.ownBlock (.slice none 0 0))
      exact ⟨_, _, hr, hgr.1, hgr.2, fun g' hg' => .inl (by cases hg'; exact Nat.le_refl _)⟩
  · by_cases hroom : n + m ≤ cap
    · have hfit : n * i.size + news.length ≤ cur.size := by rw [hs.newsLen, hcs, ← Nat.add_mul]; exact Nat.mul_le_mul_right _ hroom
      have hst := run_storeCells_at P g (n * i.size) e news 0 cur w hg (by simpa using hfit) hs.one
      simp only [Nat.add_zero] at hst
      have hr : (Builtin.append_ #[t, tx] ty #[.slice (some ⟨g, 0, none⟩) n cap, x]).run P w = .ok (.slice (some ⟨g, 0, none⟩) (n + m) cap) (w.setRow g (cur.toList.take (n * i.size) ++ news ++ cur.toList.drop (n * i.size + news.length)).toArray) := by
        rcases hs.kind with ⟨e', hk⟩ | hk <;> simp [Builtin.append_, run_underlying ht, run_underlying hk, sizeOf, typeInfo, hi, hs.len, hroom, hs.cells, Addr.add_lit, hst]
      refine ⟨_, _, hr, ⟨hlen, .inr ⟨g, cap, _, rfl, hbg, setRow_heap w g cur _ e _ hg, hroom, hcm, ?_, ?_⟩⟩, ⟨rfl, rfl, rfl, by simp, fun k _ hk => setRow_other w g k _ (fun e => hk (by simp [Value.ownBlock, e]))⟩, fun g' hg' => .inr hg'⟩
      · simp only [List.size_toArray, List.length_append, List.length_take, List.length_drop, Array.length_toList]
        omega
      · rw [htake, ← hlen]
        exact List.take_left
    · have holds : ∀ j u, xs[j]? = some u → w.cell? ((⟨g, 0, none⟩ : Addr).add j) = some u := hown.cells (g := g) rfl
      have hold : (Builtin.firstCells i.size n (.slice (some ⟨g, 0, none⟩) n cap)).run P w.drew = .ok xs.toArray w.drew := run_firstCells_some w.drew i.size n ⟨g, 0, none⟩ n cap xs hown.1 (by simpa using holds)
      have hr := run_append_grow_src (P := P) w t tx ty e i z ht hi hz (some ⟨g, 0, none⟩) n cap xs hold x m news hs (by omega) (by omega) (growslice_fits (by omega) hbytes)
      have hgr := grown cap (Value.ownBlock (.slice (some ⟨g, 0, none⟩) n cap))
      exact ⟨_, _, hr, hgr.1, hgr.2, fun g' hg' => .inl (by cases hg'; exact Nat.le_refl _)⟩

theorem append_run {G : Cfg} {base : Nat} {bx0 : List Nat} {C : Ctx} {m m' : Mem} (M : MemOK G base bx0 C m) {dst : Option Tmp} {t tx ty : TypeId} {s x y : AV} {vs vx : Value} (hs : RV C s vs) (hx : RV C x vx) (h : aappend G dst t tx m s x = some (y, m')) :
    ∃ u w', (Builtin.append_ #[t, tx] ty #[vs, vx]).run G.P C.w = .ok u w' ∧ Nxt G base bx0 C w' m' fun C' => RV C' y u := by
  unfold aappend at h
  obtain ⟨e, he, h1⟩ := Option.bind_eq_some_iff.1 h
  obtain ⟨z, hz, h3⟩ := Option.bind_eq_some_iff.1 h1
  obtain ⟨by_, hby, h4⟩ := Option.bind_eq_some_iff.1 h3
  obtain ⟨xs, hxs, h5⟩ := Option.bind_eq_some_iff.1 h4
  clear h h1 h3 h4
  by_cases hc : tx = t ∧ 0 < z ∧ 0 < by_ ∧ xs.all (·.length == z) = true ∧ xs.all (·.all AV.one) = true ∧ G.zerOK e = true
  case neg => rw [if_neg hc] at h5; cases h5
  rw [if_pos hc] at h5
  obtain ⟨rfl, hzp, hbp, hall, hone, hzok⟩ := hc
  obtain ⟨i, zv, hi, hzv, hzs, hz1⟩ := zerOK_info hzok
  have hisz : i.size = z := by
    obtain ⟨i', hi', hs'⟩ := csz_info hz
    rw [hi] at hi'
    cases hi'
    exact hs'
  have hib := bts_info hby hi
  have hu := elemT_under he
  obtain ⟨a, cap, f, rfl, hf, hcells⟩ := elems_rv M hx hxs hall
  have hrl : ∀ r ∈ xs, r.length = z := fun r hr => by have := List.all_eq_true.1 hall r hr; simpa using this
  have h1 := one_of_rows hf hrl hone
  subst hisz
  -- what is appended, as the kit has it
  have src : Src G.P i.size tx (.slice a xs.length cap) xs.length (flat xs.length i.size f) C.w := by
    by_cases hne : xs = []
    · subst hne
      have hfl : flat ([] : List (List AV)).length i.size f = [] := by simp [flat]
      rw [hfl]
      cases a with
      | none => exact Src.ofNil C.w hu cap
      | some a => exact Src.ofSlice C.w hu a 0 cap [] (by simp) (by simp) (by simp)
    · obtain ⟨b, off, rfl, hb⟩ := hcells hne
      refine Src.ofSlice C.w hu _ _ cap _ (flat_length _ _ _) (flat_cells ?_) h1
      intro i' j' hi' hj'
      have hr := List.getElem?_eq_getElem hi'
      have := hrl _ (List.getElem_mem hi')
      exact hb i' j' _ _ hr (List.getElem?_eq_getElem (by omega))
  cases s <;> simp only at h5 <;> try (cases h5; done)
  · -- nil
    cases hs with
    | nil a0 =>
      by_cases hbnd : xs.length * by_ ≤ 140737488355328
      case neg => rw [if_neg hbnd] at h5; cases h5
      rw [if_pos hbnd] at h5
      by_cases hne : xs = []
      · rw [if_pos hne] at h5
        cases h5
        subst hne
        refine ⟨.slice a0 0 0, C.w, append_nothing C.w tx tx ty e i hu hi a0 0 0 (Nat.le_refl _) _ ?_, Nxt.here M (.nil _)⟩
        have hfl : flat ([] : List (List AV)).length i.size f = [] := by simp [flat]
        rw [hfl] at src
        exact src
      · rw [if_neg hne] at h5
        obtain ⟨d, rfl, h6⟩ := Option.bind_eq_some_iff.1 h5
        have hlen0 : 0 < xs.length := by
          cases xs with
          | nil => exact absurd rfl hne
          | cons => simp
        have hold : (Builtin.firstCells i.size 0 (.slice a0 0 0)).run G.P C.w.drew = .ok ([] : List Value).toArray C.w.drew := by
          cases a0 <;> simp [Builtin.firstCells, loadCells, loadCellsFrom]
        have hle : xs.length ≤ 140737488355328 := Nat.le_trans (Nat.le_mul_of_pos_right _ hbp) hbnd
        have hr := run_append_grow_src (P := G.P) C.w tx tx ty e i zv hu hi hzv a0 0 0 [] hold _ xs.length _ src (by omega) (by omega) (by
          rw [hib, Nat.zero_add, nextslicecap_zero hlen0]; omega)
        simp only [Nat.zero_add, List.nil_append] at hr
        refine ⟨_, _, hr, ?_⟩
        have hge := grownCap_ge C.w xs.length 0 e
        have hcm : grownCap C.w xs.length 0 e ≤ maxLen := grownCap_le_maxLen C.w xs.length 0 e (by simp only [maxLen]; omega)
        have e6 := Option.some.inj h6
        have ey : y = .arr d (((sealRows xs m).2.arrs d).ver + 1) 0 (sealRows xs m).1.length := (congrArg Prod.fst e6).symm
        have em : m' = { (sealRows xs m).2 with arrs := fun j => if j = d then ⟨((sealRows xs m).2.arrs d).ver + 1, true, e, (sealRows xs m).1⟩ else (sealRows xs m).2.arrs j } := (congrArg Prod.snd e6).symm
        subst ey em
        refine (seal_rows xs f M hf).bind ?_
        intro C1 hw _ K M1 hR
        refine Nxt.setArr M1 d _ none ⟨by rw [hw]; rfl, by rw [hw]; rfl, by rw [hw]; rfl, by rw [hw]; simp, fun k hk _ => by rw [hw] at hk ⊢; exact Go.heap_alloc_old C.w.drew _ hk⟩ (fun _ h => by cases h)
          ⟨i.size, xs.length, .slice (some ⟨C.w.heap.size, 0, none⟩) xs.length (grownCap C.w xs.length 0 e)⟩ (flat xs.length i.size f) e (sealRows xs m).1 hz hzp (sealRows_length _ _).symm (sealRows_row xs m _ hrl) ?_ ?_ ?_ ?_
        · refine ⟨flat_length _ _ _, .inr ⟨C.w.heap.size, _, _, rfl, Nat.zero_le _, Go.heap_alloc_new C.w.drew _, hge, hcm, ?_, ?_⟩⟩
          · rw [Array.size_append, List.size_toArray, size_zeroCells, hzs, flat_length, ← Nat.add_mul]
            congr 1
            omega
          · simp only [Array.toList_append]
            rw [← flat_length xs.length i.size f]
            exact List.take_left
        · intro g hg
          cases hg
          exact .inl (by rw [hw]; exact Nat.le_refl _)
        · intro idx j r c u hi' hj hxu
          have hil : idx < xs.length := by have := (List.getElem?_eq_some_iff.1 hi').1; rw [sealRows_length] at this; exact this
          have hjl : j < i.size := by have := (List.getElem?_eq_some_iff.1 hj).1; rw [sealRows_row xs m _ hrl r (List.mem_of_getElem? hi')] at this; exact this
          rw [flat_get f hil hjl] at hxu
          cases hxu
          exact hR idx j r c hi' hj
        · intro C' K' hw' hbx hA hv
          refine .arr d _ 0 _ _ rfl ?_ ?_
          · rw [hv, M1.ver d]; exact Nat.le_refl _
          · intro J hJ _
            rw [hA] at hJ
            cases hJ
            refine ⟨by rw [sealRows_length]; exact Nat.le_of_eq (Nat.zero_add _), some ⟨C.w.heap.size, 0, none⟩, grownCap C.w xs.length 0 e, some ⟨C.w.heap.size, 0, none⟩, rfl, by rw [sealRows_length]; rfl, fun _ => by simp [Addr.add]⟩
  · -- an array of the call's own
    rename_i q k off len
    by_cases hcond : (sealRows xs m).2.ok q k = true ∧ off = 0 ∧ len = ((sealRows xs m).2.arrs q).es.length ∧ (len + xs.length) * by_ ≤ 140737488355328 ∧ ((sealRows xs m).2.arrs q).elem = e
    case neg => rw [if_neg hcond] at h5; cases h5
    rw [if_pos hcond] at h5
    obtain ⟨hok, rfl, hlen, hbnd, helem⟩ := hcond
    have e6 := Option.some.inj h5
    have ey : y = .arr q (k + 1) 0 (len + xs.length) := (congrArg Prod.fst e6).symm
    have em := (congrArg Prod.snd e6).symm
    subst ey
    simp only at em
    subst em
    have step := seal_rows xs f M hf
    obtain ⟨C1, hw, hn1, K, M1, W1, hR⟩ := step
    obtain ⟨I, ys, hI, hsub, z1, z2, z3, z4, z5, z6⟩ := arr_rv M1 (hs.keep K) hok
    have hlI : len = I.len := by rw [hlen, z3]
    have hval : vs = I.val := by rw [hlI] at hsub; exact hsub.whole
    have hsz : I.size = i.size := by rw [helem, hz] at z1; exact (Option.some.inj z1).symm
    rw [helem, hsz, hw] at z5
    have hle : len + xs.length ≤ 140737488355328 := Nat.le_trans (Nat.le_mul_of_pos_right _ hbp) hbnd
    obtain ⟨u, w', hr, hown', hgrow, hblk⟩ := append_own_src (P := G.P) C.w 0 tx tx ty e i zv hu hi hzv hzs I.val I.len ys z5 _ xs.length _ src (by simp only [maxLen]; omega) (by rw [hib, ← hlI]; exact hbnd) (Nat.zero_le _)
    have n2 : Nxt G base bx0 C1 w' { (sealRows xs m).2 with arrs := fun j => if j = q then ⟨((sealRows xs m).2.arrs q).ver + 1, true, e, ((sealRows xs m).2.arrs q).es ++ (sealRows xs m).1⟩ else (sealRows xs m).2.arrs j }
        (fun C' => RV C' (.arr q (k + 1) 0 (len + xs.length)) u) := by
      have hul : ∃ a' cap', u = .slice a' (I.len + xs.length) cap' := by
        rcases hown'.2 with ⟨e0, e1⟩ | ⟨g', cap', cur, e0, _⟩
        · exact ⟨none, 0, by rw [e0, e1]⟩
        · exact ⟨_, _, e0⟩
      refine Nxt.setArr M1 q w' I.val.ownBlock (by rw [hw]; exact hgrow) (fun g hg => ⟨I, hI, hg⟩) ⟨i.size, I.len + xs.length, u⟩ (ys ++ flat xs.length i.size f) e _ hz hzp (by simp [sealRows_length, z3]) ?_ hown' ?_ ?_ ?_
      · intro r hr
        rcases List.mem_append.1 hr with hr | hr
        · rw [← hsz]; exact z4 r hr
        · exact sealRows_row xs m _ hrl r hr
      · intro g hg
        rw [hw]
        rcases hblk g hg with h | h
        · exact .inl h
        · exact .inr ⟨I, hI, h⟩
      · intro idx j r c x hi' hj hx'
        rw [List.getElem?_append] at hi' hx'
        have hyl : ys.length = I.len * i.size := z5.1
        split at hi'
        · rename_i hlt
          have hrl' := z4 r (List.mem_of_getElem? hi')
          have hjl : j < i.size := by have := (List.getElem?_eq_some_iff.1 hj).1; omega
          have hb : idx * i.size + j < ys.length := by
            have : (idx + 1) * i.size ≤ I.len * i.size := Nat.mul_le_mul_right _ (by omega)
            rw [Nat.add_mul, Nat.one_mul] at this
            omega
          rw [if_pos hb] at hx'
          rw [← hsz] at hx'
          exact z6 idx j r c x hi' hj hx'
        · rename_i hge
          have hil : idx - ((sealRows xs m).2.arrs q).es.length < xs.length := by have := (List.getElem?_eq_some_iff.1 hi').1; rw [sealRows_length] at this; exact this
          have hjl : j < i.size := by have := (List.getElem?_eq_some_iff.1 hj).1; rw [sealRows_row xs m _ hrl r (List.mem_of_getElem? hi')] at this; exact this
          have hge' : I.len ≤ idx := by omega
          have hb : ¬ idx * i.size + j < ys.length := by
            have : I.len * i.size ≤ idx * i.size := Nat.mul_le_mul_right _ hge'
            omega
          rw [if_neg hb, hyl] at hx'
          have e9 : idx * i.size + j - I.len * i.size = (idx - I.len) * i.size + j := by
            rw [Nat.sub_mul]
            have : I.len * i.size ≤ idx * i.size := Nat.mul_le_mul_right _ hge'
            omega
          rw [e9, flat_get f (by omega) hjl] at hx'
          cases hx'
          have := hR (idx - ((sealRows xs m).2.arrs q).es.length) j r c hi' hj
          rw [← z3] at this
          exact this
      · intro C' K' hw' hbx hA hv
        have hver : ((sealRows xs m).2.arrs q).ver = k := (ok_parts hok).2
        obtain ⟨a', cap', hu'⟩ := hul
        refine .arr q (k + 1) 0 _ _ (by rw [hu']; rfl) ?_ ?_
        · rw [hv, M1.ver q, hver]; exact Nat.le_refl _
        · intro J hJ _
          rw [hA] at hJ
          cases hJ
          exact ⟨by rw [hlI]; exact Nat.le_of_eq (Nat.zero_add _), a', cap', a', hu', by rw [hu', hlI]; rfl, fun _ => by cases a' <;> simp [Addr.add]⟩
    obtain ⟨C2, hw2, hn2, K2, M2, W2, hR2⟩ := n2
    exact ⟨u, w', by rw [hval]; exact hr, C2, hw2, hn2.trans hn1, K.trans K2, M2, W1.trans (hw ▸ W2), hR2⟩

end Go.Proofs.Ytbmfoijakgccgaa.Am
