/- The abstract machine: append, new slices, structs that are built. No conditions. -/
import Derived.Test.YtokhnmchnfkiiaaDoorAmI
import Derived.Great.BuildSlice
import Derived.Laws.MakeOwn
namespace Go.Proofs.YtokhnmchnfkiiaaDoor.Am
open Go Go.RowKit
set_option linter.unusedSimpArgs false
set_option linter.unusedVariables false

/-- Rows of a slice against the values that the model holds: value f i j at row i, cell j. -/
def Rows' (C : Ctx) (es : List (List AV)) (f : Nat → Nat → Value) : Prop := ∀ (i j : Nat) (r : List AV) (c : AV), es[i]? = some r → r[j]? = some c → RV C c (f i j)

theorem seal_rows {G : Cfg} {base : Nat} {bx0 : List Nat} : ∀ (es : List (List AV)) (f : Nat → Nat → Value) {C : Ctx} {m : Mem}, MemOK G base bx0 C m → Rows' C es f →
    Nxt G base bx0 C C.w (sealRows es m).2 fun C' => Rows' C' (sealRows es m).1 f
  | [], f, C, m, M, h => Nxt.here M (by simp [Rows', sealRows])
  | e :: es, f, C, m, M, h => by
    simp only [sealRows]
    have h0 : RVs C e ((List.range e.length).map (f 0)) := by
      refine ⟨by simp, ?_⟩
      intro j c x hc hx
      have hj := (List.getElem?_eq_some_iff.1 hc).1
      simp [hj] at hx
      subst hx
      exact h 0 j e c rfl hc
    refine (seal_cells e _ M h0).bind ?_
    intro C1 hw _ K M1 hR
    have := seal_rows es (fun i j => f (i + 1) j) M1 (fun i j r c hi hj => (h (i + 1) j r c (by simpa using hi) hj).keep K)
    rw [hw] at this
    refine this.mono ?_
    intro C2 _ K2 hR2 i j r c hi hj
    cases i with
    | zero =>
      simp at hi
      subst hi
      have hj' := (List.getElem?_eq_some_iff.1 hj).1
      have hl := hR.1
      rw [List.length_map, List.length_range] at hl
      have hj2 : j < e.length := by rw [← hl]; exact hj'
      exact (hR.2 j c (f 0 j) hj (by simp [hj2])).keep K2
    | succ i => exact hR2 i j r c (by simpa using hi) hj

theorem sealCells_length (cs : List AV) : ∀ m, (sealCells cs m).1.length = cs.length := by
  induction cs with
  | nil => intro m; rfl
  | cons c cs ih =>
    intro m
    cases c with
    | arr i n off len =>
      simp only [sealCells]
      split <;> simp [ih]
    | _ => simp [sealCells, ih]
theorem sealRows_length (es : List (List AV)) : ∀ m, (sealRows es m).1.length = es.length := by
  induction es with
  | nil => intro m; rfl
  | cons e es ih => intro m; simp [sealRows, ih]
theorem sealRows_row (es : List (List AV)) : ∀ (m : Mem) (z : Nat), (∀ r ∈ es, r.length = z) → ∀ r ∈ (sealRows es m).1, r.length = z := by
  induction es with
  | nil => intro m z _ r h; cases h
  | cons e es ih =>
    intro m z hz r hr
    simp only [sealRows] at hr
    cases hr with
    | head => rw [sealCells_length]; exact hz e (by simp)
    | tail _ hr => exact ih _ z (fun r h => hz r (by simp [h])) r hr

/-- The cells of rows, one behind the other. -/
def flat (n z : Nat) (f : Nat → Nat → Value) : List Value := (List.range (n * z)).map fun q => f (q / z) (q % z)
theorem flat_length (n z : Nat) (f : Nat → Nat → Value) : (flat n z f).length = n * z := by simp [flat]
theorem flat_get {n z : Nat} (f : Nat → Nat → Value) {i j : Nat} (hi : i < n) (hj : j < z) : (flat n z f)[i * z + j]? = some (f i j) := by
  have hlt : i * z + j < n * z := by
    have : (i + 1) * z ≤ n * z := Nat.mul_le_mul_right _ hi
    rw [Nat.add_mul, Nat.one_mul] at this
    omega
  simp only [flat, List.getElem?_map, List.getElem?_range hlt, Option.map_some, Option.some.injEq]
  have h1 : (i * z + j) / z = i := by
    rw [Nat.mul_comm, Nat.mul_add_div (by omega), Nat.div_eq_of_lt hj, Nat.add_zero]
  have h2 : (i * z + j) % z = j := by
    rw [Nat.mul_comm, Nat.mul_add_mod, Nat.mod_eq_of_lt hj]
  rw [h1, h2]
theorem flat_cells {w : World} {n z : Nat} {f : Nat → Nat → Value} {b off : Nat} (h : ∀ i j, i < n → j < z → w.cell? ⟨b, off + i * z + j, none⟩ = some (f i j)) :
    ∀ (q : Nat) (u : Value), (flat n z f)[q]? = some u → w.cell? ((⟨b, off, none⟩ : Addr).add q) = some u := by
  intro q u hq
  have hl := (List.getElem?_eq_some_iff.1 hq).1
  rw [flat_length] at hl
  have hz : 0 < z := by
    rcases Nat.eq_zero_or_pos z with h0 | h0
    · rw [h0, Nat.mul_zero] at hl; omega
    · exact h0
  have e := Nat.div_add_mod q z
  have hi : q / z < n := Nat.div_lt_of_lt_mul (by rw [Nat.mul_comm]; exact hl)
  have hj := Nat.mod_lt q hz
  have hg := flat_get f hi hj
  have e2 : q / z * z + q % z = q := by rw [Nat.mul_comm]; exact e
  rw [e2, hq] at hg
  cases hg
  rw [Addr.add_lit]
  have := h _ _ hi hj
  rw [Nat.add_assoc, e2] at this
  exact this

theorem zerOK_info {G : Cfg} {t : TypeId} (h : G.zerOK t = true) : ∃ i z, G.P.info? t = some i ∧ i.zero = some z ∧ z.cells.size = i.size ∧ ∀ u ∈ z.cells, u.oneCell' = true := by
  unfold Cfg.zerOK at h
  split at h
  · rename_i i hi
    split at h
    · rename_i z hz
      simp only [Bool.and_eq_true, beq_iff_eq, Array.all_eq_true] at h
      refine ⟨i, z, hi, hz, h.1, ?_⟩
      intro u hu
      obtain ⟨k, hk, rfl⟩ := Array.getElem_of_mem hu
      exact h.2 k hk
    · cases h
  · cases h

theorem one_of_rows {C : Ctx} {es : List (List AV)} {f : Nat → Nat → Value} {z : Nat} (h : Rows' C es f) (hl : ∀ r ∈ es, r.length = z) (h1 : es.all (·.all AV.one) = true) : ∀ u ∈ flat es.length z f, u.oneCell' = true := by
  intro u hu
  obtain ⟨q, hq, rfl⟩ := List.mem_map.1 hu
  have hq' : q < es.length * z := by simpa using hq
  have hz : 0 < z := by
    rcases Nat.eq_zero_or_pos z with h0 | h0
    · rw [h0, Nat.mul_zero] at hq'; omega
    · exact h0
  have hi : q / z < es.length := Nat.div_lt_of_lt_mul (by rw [Nat.mul_comm]; exact hq')
  have hj := Nat.mod_lt q hz
  have hr := List.getElem?_eq_getElem hi
  have hrl := hl _ (List.getElem_mem hi)
  have hc : es[q / z][q % z]? = some (es[q / z][q % z]'(by omega)) := List.getElem?_eq_getElem (by omega)
  refine rv_one (h _ _ _ _ hr hc) ?_
  have h2 := List.all_eq_true.1 h1 _ (List.getElem_mem hi)
  exact List.all_eq_true.1 h2 _ (List.getElem_mem (by omega))

theorem bts_info {G : Cfg} {t : TypeId} {n : Nat} (h : G.bts t = some n) {i : TypeInfo} (hi : G.P.info? t = some i) : i.bytes = n := by
  unfold Cfg.bts at h
  simp only [hi, Option.map_some, Option.some.injEq] at h
  exact h

theorem append_nothing {P : Program} (w : World) (t tx ty e : TypeId) (i : TypeInfo) (ht : P.underlying t = some (.slice e)) (hi : P.info? e = some i) (base : Option Addr) (sLen sCap : Nat) (hle : sLen ≤ sCap) (x : Value) (hs : Src P i.size tx x 0 [] w) :
    (Builtin.append_ #[t, tx] ty #[.slice base sLen sCap, x]).run P w = .ok (.slice base sLen sCap) w := by
  rcases hs.kind with ⟨e', hk⟩ | hk <;> cases base <;> simp [Builtin.append_, run_underlying ht, run_underlying hk, sizeOf, typeInfo, hi, hs.len, hle, hs.cells, storeCells]

theorem append_own_src {P : Program} (w : World) (base : Nat) (t tx ty e : TypeId) (i : TypeInfo) (z : Value) (ht : P.underlying t = some (.slice e)) (hi : P.info? e = some i) (hz : i.zero = some z) (hzs : z.cells.size = i.size)
    (v : Value) (n : Nat) (xs : List Value) (hown : w.ownsRow base e i.size v n xs) (x : Value) (m : Nat) (news : List Value) (hs : Src P i.size tx x m news w)
    (h63 : n + m ≤ maxLen) (hbytes : (n + m) * i.bytes ≤ 140737488355328) (hbase : base ≤ w.heap.size) :
    ∃ v' w', (Builtin.append_ #[t, tx] ty #[v, x]).run P w = .ok v' w' ∧ w'.ownsRow base e i.size v' (n + m) (xs ++ news) ∧ w.grownBy w' v.ownBlock ∧ ∀ g, v'.ownBlock = some g → w.heap.size ≤ g ∨ v.ownBlock = some g := by
  have hsmall : n + m ≤ 9223372036854775807 := by simp only [maxLen] at h63; omega
  have hlen : (xs ++ news).length = (n + m) * i.size := by rw [List.length_append, hown.1, hs.newsLen, Nat.add_mul]
  have grown : ∀ (old : Nat) (row : Option Nat),
      (w.drew.alloc (.cells ((xs ++ news).toArray ++ Builtin.zeroCells z.cells (grownCap w (n + m) old e - (n + m))) e)).ownsRow base e i.size
        (.slice (some ⟨w.heap.size, 0, none⟩) (n + m) (grownCap w (n + m) old e)) (n + m) (xs ++ news) ∧
      w.grownBy (w.drew.alloc (.cells ((xs ++ news).toArray ++ Builtin.zeroCells z.cells (grownCap w (n + m) old e - (n + m))) e)) row := by
    intro old row
    have hge := grownCap_ge w (n + m) old e
    have hcm : grownCap w (n + m) old e ≤ maxLen := grownCap_le_maxLen w (n + m) old e h63
    refine ⟨⟨hlen, .inr ⟨w.heap.size, _, _, rfl, hbase, Go.heap_alloc_new w.drew _, hge, hcm, ?_, ?_⟩⟩, ⟨rfl, rfl, rfl, by simp, fun k hk _ => Go.heap_alloc_old w.drew _ hk⟩⟩
    · rw [Array.size_append, List.size_toArray, size_zeroCells, hzs, hlen, ← Nat.add_mul]
      congr 1
      omega
    · simp only [Array.toList_append]
      rw [← hlen]
      exact List.take_left
  rcases hown.2 with ⟨rfl, rfl⟩ | ⟨g, cap, cur, rfl, hbg, hg, hnc, hcm, hcs, htake⟩
  · have hx0 : xs = [] := List.eq_nil_of_length_eq_zero (by simpa using hown.1)
    subst hx0
    by_cases hm : m = 0
    · subst hm
      have hn : news = [] := List.eq_nil_of_length_eq_zero (by simpa using hs.newsLen)
      subst hn
      exact ⟨_, w, append_nothing w t tx ty e i ht hi none 0 0 (Nat.le_refl _) x hs, World.ownsRow_nil w base e i.size, ⟨rfl, rfl, rfl, Nat.le_refl _, fun _ _ _ => rfl⟩, fun g hg => by cases hg⟩
    · have hr := run_append_grow_src (P := P) w t tx ty e i z ht hi hz none 0 0 [] (by simp [Builtin.firstCells]) x m news hs (by omega) (by omega) (by
        rw [Nat.zero_add, nextslicecap_zero (by omega)]; rw [Nat.zero_add] at hbytes; omega)
      have hgr := grown 0 (Value.ownBlock (.slice none 0 0))
      exact ⟨_, _, hr, hgr.1, hgr.2, fun g' hg' => .inl (by cases hg'; exact Nat.le_refl _)⟩
  · by_cases hroom : n + m ≤ cap
    · have hfit : n * i.size + news.length ≤ cur.size := by rw [hs.newsLen, hcs, ← Nat.add_mul]; exact Nat.mul_le_mul_right _ hroom
      have hst := run_storeCells_at P g (n * i.size) e news 0 cur w hg (by simpa using hfit) hs.one
      simp only [Nat.add_zero] at hst
      have hr : (Builtin.append_ #[t, tx] ty #[.slice (some ⟨g, 0, none⟩) n cap, x]).run P w = .ok (.slice (some ⟨g, 0, none⟩) (n + m) cap) (w.setRow g (cur.toList.take (n * i.size) ++ news ++ cur.toList.drop (n * i.size + news.length)).toArray) := by
        rcases hs.kind with ⟨e', hk⟩ | hk <;> simp [Builtin.append_, run_underlying ht, run_underlying hk, sizeOf, typeInfo, hi, hs.len, hroom, hs.cells, Addr.add_lit, hst]
      refine ⟨_, _, hr, ⟨hlen, .inr ⟨g, cap, _, rfl, hbg, setRow_heap w g cur _ e _ hg, hroom, hcm, ?_, ?_⟩⟩, ⟨rfl, rfl, rfl, by simp, fun k _ hk => setRow_other w g k _ (fun e => hk (by simp [Value.ownBlock, e]))⟩, fun g' hg' => .inr hg'⟩
      · simp only [List.size_toArray, List.length_append, List.length_take, List.length_drop, Array.length_toList]
        omega
      · rw [htake, ← hlen]
        exact List.take_left
    · have holds : ∀ j u, xs[j]? = some u → w.cell? ((⟨g, 0, none⟩ : Addr).add j) = some u := hown.cells (g := g) rfl
      have hold : (Builtin.firstCells i.size n (.slice (some ⟨g, 0, none⟩) n cap)).run P w.drew = .ok xs.toArray w.drew := run_firstCells_some w.drew i.size n ⟨g, 0, none⟩ n cap xs hown.1 (by simpa using holds)
      have hr := run_append_grow_src (P := P) w t tx ty e i z ht hi hz (some ⟨g, 0, none⟩) n cap xs hold x m news hs (by omega) (by omega) (growslice_fits (by omega) hbytes)
      have hgr := grown cap (Value.ownBlock (.slice (some ⟨g, 0, none⟩) n cap))
      exact ⟨_, _, hr, hgr.1, hgr.2, fun g' hg' => .inl (by cases hg'; exact Nat.le_refl _)⟩

theorem append_run {G : Cfg} {base : Nat} {bx0 : List Nat} {C : Ctx} {m m' : Mem} (M : MemOK G base bx0 C m) {dst : Option Tmp} {t tx ty : TypeId} {s x y : AV} {vs vx : Value} (hs : RV C s vs) (hx : RV C x vx) (h : aappend G dst t tx m s x = some (y, m')) :
    ∃ u w', (Builtin.append_ #[t, tx] ty #[vs, vx]).run G.P C.w = .ok u w' ∧ Nxt G base bx0 C w' m' fun C' => RV C' y u := by
  unfold aappend at h
  obtain ⟨e, he, h1⟩ := Option.bind_eq_some_iff.1 h
  obtain ⟨z, hz, h3⟩ := Option.bind_eq_some_iff.1 h1
  obtain ⟨by_, hby, h4⟩ := Option.bind_eq_some_iff.1 h3
  obtain ⟨xs, hxs, h5⟩ := Option.bind_eq_some_iff.1 h4
  clear h h1 h3 h4
  by_cases hc : tx = t ∧ 0 < z ∧ 0 < by_ ∧ xs.all (·.length == z) = true ∧ xs.all (·.all AV.one) = true ∧ G.zerOK e = true
  case neg => rw [if_neg hc] at h5; cases h5
  rw [if_pos hc] at h5
  obtain ⟨rfl, hzp, hbp, hall, hone, hzok⟩ := hc
  obtain ⟨i, zv, hi, hzv, hzs, hz1⟩ := zerOK_info hzok
  have hisz : i.size = z := by
    obtain ⟨i', hi', hs'⟩ := csz_info hz
    rw [hi] at hi'
    cases hi'
    exact hs'
  have hib := bts_info hby hi
  have hu := elemT_under he
  obtain ⟨a, cap, f, rfl, hf, hcells⟩ := elems_rv M hx hxs hall
  have hrl : ∀ r ∈ xs, r.length = z := fun r hr => by have := List.all_eq_true.1 hall r hr; simpa using this
  have h1 := one_of_rows hf hrl hone
  subst hisz
  -- what is appended, as the kit has it
  have src : Src G.P i.size tx (.slice a xs.length cap) xs.length (flat xs.length i.size f) C.w := by
    by_cases hne : xs = []
    · subst hne
      have hfl : flat ([] : List (List AV)).length i.size f = [] := by simp [flat]
      rw [hfl]
      cases a with
      | none => exact Src.ofNil C.w hu cap
      | some a => exact Src.ofSlice C.w hu a 0 cap [] (by simp) (by simp) (by simp)
    · obtain ⟨b, off, rfl, hb⟩ := hcells hne
      refine Src.ofSlice C.w hu _ _ cap _ (flat_length _ _ _) (flat_cells ?_) h1
      intro i' j' hi' hj'
      have hr := List.getElem?_eq_getElem hi'
      have := hrl _ (List.getElem_mem hi')
      exact hb i' j' _ _ hr (List.getElem?_eq_getElem (by omega))
  cases s <;> simp only at h5 <;> try (cases h5; done)
  · -- nil
    cases hs with
    | nil a0 =>
      by_cases hbnd : xs.length * by_ ≤ 140737488355328
      case neg => rw [if_neg hbnd] at h5; cases h5
      rw [if_pos hbnd] at h5
      by_cases hne : xs = []
      · rw [if_pos hne] at h5
        cases h5
        subst hne
        refine ⟨.slice a0 0 0, C.w, append_nothing C.w tx tx ty e i hu hi a0 0 0 (Nat.le_refl _) _ ?_, Nxt.here M (.nil _)⟩
        have hfl : flat ([] : List (List AV)).length i.size f = [] := by simp [flat]
        rw [hfl] at src
        exact src
      · rw [if_neg hne] at h5
        obtain ⟨d, rfl, h6⟩ := Option.bind_eq_some_iff.1 h5
        have hlen0 : 0 < xs.length := by
          cases xs with
          | nil => exact absurd rfl hne
          | cons => simp
        have hold : (Builtin.firstCells i.size 0 (.slice a0 0 0)).run G.P C.w.drew = .ok ([] : List Value).toArray C.w.drew := by
          cases a0 <;> simp [Builtin.firstCells, loadCells, loadCellsFrom]
        have hle : xs.length ≤ 140737488355328 := Nat.le_trans (Nat.le_mul_of_pos_right _ hbp) hbnd
        have hr := run_append_grow_src (P := G.P) C.w tx tx ty e i zv hu hi hzv a0 0 0 [] hold _ xs.length _ src (by omega) (by omega) (by
          rw [hib, Nat.zero_add, nextslicecap_zero hlen0]; omega)
        simp only [Nat.zero_add, List.nil_append] at hr
        refine ⟨_, _, hr, ?_⟩
        have hge := grownCap_ge C.w xs.length 0 e
        have hcm : grownCap C.w xs.length 0 e ≤ maxLen := grownCap_le_maxLen C.w xs.length 0 e (by simp only [maxLen]; omega)
        have e6 := Option.some.inj h6
        have ey : y = .arr d (((sealRows xs m).2.arrs d).ver + 1) 0 (sealRows xs m).1.length := (congrArg Prod.fst e6).symm
        have em : m' = { (sealRows xs m).2 with arrs := fun j => if j = d then ⟨((sealRows xs m).2.arrs d).ver + 1, true, e, (sealRows xs m).1⟩ else (sealRows xs m).2.arrs j } := (congrArg Prod.snd e6).symm
        subst ey em
        refine (seal_rows xs f M hf).bind ?_
        intro C1 hw _ K M1 hR
        refine Nxt.setArr M1 d _ none ⟨by rw [hw]; rfl, by rw [hw]; rfl, by rw [hw]; rfl, by rw [hw]; simp, fun k hk _ => by rw [hw] at hk ⊢; exact Go.heap_alloc_old C.w.drew _ hk⟩ (fun _ h => by cases h)
          ⟨i.size, xs.length, .slice (some ⟨C.w.heap.size, 0, none⟩) xs.length (grownCap C.w xs.length 0 e)⟩ (flat xs.length i.size f) e (sealRows xs m).1 hz hzp (sealRows_length _ _).symm (sealRows_row xs m _ hrl) ?_ ?_ ?_ ?_
        · refine ⟨flat_length _ _ _, .inr ⟨C.w.heap.size, _, _, rfl, Nat.zero_le _, Go.heap_alloc_new C.w.drew _, hge, hcm, ?_, ?_⟩⟩
          · rw [Array.size_append, List.size_toArray, size_zeroCells, hzs, flat_length, ← Nat.add_mul]
            congr 1
            omega
          · simp only [Array.toList_append]
            rw [← flat_length xs.length i.size f]
            exact List.take_left
        · intro g hg
          cases hg
          exact .inl (by rw [hw]; exact Nat.le_refl _)
        · intro idx j r c u hi' hj hxu
          have hil : idx < xs.length := by have := (List.getElem?_eq_some_iff.1 hi').1; rw [sealRows_length] at this; exact this
          have hjl : j < i.size := by have := (List.getElem?_eq_some_iff.1 hj).1; rw [sealRows_row xs m _ hrl r (List.mem_of_getElem? hi')] at this; exact this
          rw [flat_get f hil hjl] at hxu
          cases hxu
          exact hR idx j r c hi' hj
        · intro C' K' hw' hbx hA hv
          refine .arr d _ 0 _ _ rfl ?_ ?_
          · rw [hv, M1.ver d]; exact Nat.le_refl _
          · intro J hJ _
            rw [hA] at hJ
            cases hJ
            refine ⟨by rw [sealRows_length]; exact Nat.le_of_eq (Nat.zero_add _), some ⟨C.w.heap.size, 0, none⟩, grownCap C.w xs.length 0 e, some ⟨C.w.heap.size, 0, none⟩, rfl, by rw [sealRows_length]; rfl, fun _ => by simp [Addr.add]⟩
  · -- an array of the call's own
    rename_i q k off len
    by_cases hcond : (sealRows xs m).2.ok q k = true ∧ off = 0 ∧ len = ((sealRows xs m).2.arrs q).es.length ∧ (len + xs.length) * by_ ≤ 140737488355328 ∧ ((sealRows xs m).2.arrs q).elem = e
    case neg => rw [if_neg hcond] at h5; cases h5
    rw [if_pos hcond] at h5
    obtain ⟨hok, rfl, hlen, hbnd, helem⟩ := hcond
    have e6 := Option.some.inj h5
    have ey : y = .arr q (k + 1) 0 (len + xs.length) := (congrArg Prod.fst e6).symm
    have em := (congrArg Prod.snd e6).symm
    subst ey
    simp only at em
    subst em
    have step := seal_rows xs f M hf
    obtain ⟨C1, hw, hn1, K, M1, W1, hR⟩ := step
    obtain ⟨I, ys, hI, hsub, z1, z2, z3, z4, z5, z6⟩ := arr_rv M1 (hs.keep K) hok
    have hlI : len = I.len := by rw [hlen, z3]
    have hval : vs = I.val := by rw [hlI] at hsub; exact hsub.whole
    have hsz : I.size = i.size := by rw [helem, hz] at z1; exact (Option.some.inj z1).symm
    rw [helem, hsz, hw] at z5
    have hle : len + xs.length ≤ 140737488355328 := Nat.le_trans (Nat.le_mul_of_pos_right _ hbp) hbnd
    obtain ⟨u, w', hr, hown', hgrow, hblk⟩ := append_own_src (P := G.P) C.w 0 tx tx ty e i zv hu hi hzv hzs I.val I.len ys z5 _ xs.length _ src (by simp only [maxLen]; omega) (by rw [hib, ← hlI]; exact hbnd) (Nat.zero_le _)
    have n2 : Nxt G base bx0 C1 w' { (sealRows xs m).2 with arrs := fun j => if j = q then ⟨((sealRows xs m).2.arrs q).ver + 1, true, e, ((sealRows xs m).2.arrs q).es ++ (sealRows xs m).1⟩ else (sealRows xs m).2.arrs j }
        (fun C' => RV C' (.arr q (k + 1) 0 (len + xs.length)) u) := by
      have hul : ∃ a' cap', u = .slice a' (I.len + xs.length) cap' := by
        rcases hown'.2 with ⟨e0, e1⟩ | ⟨g', cap', cur, e0, _⟩
        · exact ⟨none, 0, by rw [e0, e1]⟩
        · exact ⟨_, _, e0⟩
      refine Nxt.setArr M1 q w' I.val.ownBlock (by rw [hw]; exact hgrow) (fun g hg => ⟨I, hI, hg⟩) ⟨i.size, I.len + xs.length, u⟩ (ys ++ flat xs.length i.size f) e _ hz hzp (by simp [sealRows_length, z3]) ?_ hown' ?_ ?_ ?_
      · intro r hr
        rcases List.mem_append.1 hr with hr | hr
        · rw [← hsz]; exact z4 r hr
        · exact sealRows_row xs m _ hrl r hr
      · intro g hg
        rw [hw]
        rcases hblk g hg with h | h
        · exact .inl h
        · exact .inr ⟨I, hI, h⟩
      · intro idx j r c x hi' hj hx'
        rw [List.getElem?_append] at hi' hx'
        have hyl : ys.length = I.len * i.size := z5.1
        split at hi'
        · rename_i hlt
          have hrl' := z4 r (List.mem_of_getElem? hi')
          have hjl : j < i.size := by have := (List.getElem?_eq_some_iff.1 hj).1; omega
          have hb : idx * i.size + j < ys.length := by
            have : (idx + 1) * i.size ≤ I.len * i.size := Nat.mul_le_mul_right _ (by omega)
            rw [Nat.add_mul, Nat.one_mul] at this
            omega
          rw [if_pos hb] at hx'
          rw [← hsz] at hx'
          exact z6 idx j r c x hi' hj hx'
        · rename_i hge
          have hil : idx - ((sealRows xs m).2.arrs q).es.length < xs.length := by have := (List.getElem?_eq_some_iff.1 hi').1; rw [sealRows_length] at this; exact this
          have hjl : j < i.size := by have := (List.getElem?_eq_some_iff.1 hj).1; rw [sealRows_row xs m _ hrl r (List.mem_of_getElem? hi')] at this; exact this
          have hge' : I.len ≤ idx := by omega
          have hb : ¬ idx * i.size + j < ys.length := by
            have : I.len * i.size ≤ idx * i.size := Nat.mul_le_mul_right _ hge'
            omega
          rw [if_neg hb, hyl] at hx'
          have e9 : idx * i.size + j - I.len * i.size = (idx - I.len) * i.size + j := by
            rw [Nat.sub_mul]
            have : I.len * i.size ≤ idx * i.size := Nat.mul_le_mul_right _ hge'
            omega
          rw [e9, flat_get f (by omega) hjl] at hx'
          cases hx'
          have := hR (idx - ((sealRows xs m).2.arrs q).es.length) j r c hi' hj
          rw [← z3] at this
          exact this
      · intro C' K' hw' hbx hA hv
        have hver : ((sealRows xs m).2.arrs q).ver = k := (ok_parts hok).2
        obtain ⟨a', cap', hu'⟩ := hul
        refine .arr q (k + 1) 0 _ _ (by rw [hu']; rfl) ?_ ?_
        · rw [hv, M1.ver q, hver]; exact Nat.le_refl _
        · intro J hJ _
          rw [hA] at hJ
          cases hJ
          exact ⟨by rw [hlI]; exact Nat.le_of_eq (Nat.zero_add _), a', cap', a', hu', by rw [hu', hlI]; rfl, fun _ => by cases a' <;> simp [Addr.add]⟩
    obtain ⟨C2, hw2, hn2, K2, M2, W2, hR2⟩ := n2
    exact ⟨u, w', by rw [hval]; exact hr, C2, hw2, hn2.trans hn1, K.trans K2, M2, W1.trans (hw ▸ W2), hR2⟩

end Go.Proofs.YtokhnmchnfkiiaaDoor.Am

/- The abstract machine: new slices, structs that are built, and all operations that call no Go function. No conditions. -/
namespace Go.Proofs.YtokhnmchnfkiiaaDoor.Am
open Go Go.RowKit
set_option linter.unusedSimpArgs false
set_option linter.unusedVariables false

theorem zer_rv {G : Cfg} {t : TypeId} {cs : List AV} (hz : G.zer t = some cs) (C : Ctx) : ∃ i z, G.P.info? t = some i ∧ i.zero = some z ∧ RVs C cs z.cells.toList := by
  unfold Cfg.zer at hz
  obtain ⟨i, hi, h1⟩ := Option.bind_eq_some_iff.1 hz
  obtain ⟨z, hz', h2⟩ := Option.map_eq_some_iff.1 h1
  subst h2
  refine ⟨i, z, hi, hz', by simp, ?_⟩
  intro j c x h1 h2
  rw [List.getElem?_map, h2] at h1
  cases h1
  exact rv_ofCell C x

theorem fold_set (off : Nat) : ∀ (l : List Value) (k : Nat) (cs : Array Value), off + k + l.length ≤ cs.size →
    ((l.zipIdx k).foldl (fun cs x => cs.setIfInBounds (off + x.2) x.1) cs).size = cs.size ∧
    ∀ q, ((l.zipIdx k).foldl (fun cs x => cs.setIfInBounds (off + x.2) x.1) cs)[q]? = if off + k ≤ q ∧ q < off + k + l.length then l[q - (off + k)]? else cs[q]?
  | [], k, cs, _ => by simp; omega
  | v :: l, k, cs, h => by
    simp only [List.length_cons] at h
    have ih := fold_set off l (k + 1) (cs.setIfInBounds (off + k) v) (by simp; omega)
    simp only [List.zipIdx_cons, List.foldl_cons]
    refine ⟨by rw [ih.1]; simp, ?_⟩
    intro q
    rw [ih.2 q]
    simp only [List.length_cons]
    by_cases h1 : off + (k + 1) ≤ q ∧ q < off + (k + 1) + l.length
    · rw [if_pos h1, if_pos (by omega)]
      obtain ⟨n, rfl⟩ : ∃ n, q = off + k + 1 + n := ⟨q - (off + k + 1), by omega⟩
      rw [show off + k + 1 + n - (off + (k + 1)) = n by omega, show off + k + 1 + n - (off + k) = n + 1 by omega]
      rfl
    · rw [if_neg h1, Array.getElem?_setIfInBounds]
      by_cases h2 : off + k = q
      · rw [if_pos h2, if_pos (by omega), if_pos (by omega)]
        rw [show q - (off + k) = 0 by omega]
        rfl
      · rw [if_neg h2, if_neg (by omega)]

theorem fill_rv {C : Ctx} (place : Nat → Option (Nat × Nat)) : ∀ (ps : List (Nat × AV)) (qs : List (Nat × Value)) (cs cs' : List AV) (vs : Array Value),
    ps.length = qs.length → (∀ (j : Nat) (p : Nat × AV) (q : Nat × Value), ps[j]? = some p → qs[j]? = some q → p.1 = q.1 ∧ RV C p.2 q.2) → RVs C cs vs.toList → fillAV place cs ps = some cs' →
    ∃ vs', Instr.fill place vs qs = some vs' ∧ RVs C cs' vs'.toList
  | [], qs, cs, cs', vs, hl, _, h0, h => by
    cases qs with
    | nil => cases h; exact ⟨vs, rfl, h0⟩
    | cons => simp at hl
  | (i, a) :: ps, qs, cs, cs', vs, hl, hp, h0, h => by
    cases qs with
    | nil => simp at hl
    | cons q qs =>
      obtain ⟨i', v⟩ := q
      obtain ⟨e1, hr⟩ := hp 0 _ _ rfl rfl
      simp only at e1 hr
      subst e1
      simp only [fillAV] at h
      cases hpl : place i with
      | none => simp [hpl] at h
      | some os =>
        obtain ⟨off, size⟩ := os
        simp only [hpl] at h
        split at h
        · rename_i hc
          obtain ⟨c1, c2, c3⟩ := hc
          obtain ⟨z1, z2, z3⟩ := cells_rv hr c3
          have hcv : cs.length = vs.size := by rw [h0.1]; simp
          have hfold := fold_set off v.cells.toList 0 vs (by simp; omega)
          have hnew : RVs C (splice cs a.cells off) (((v.cells.toList.zipIdx 0).foldl (fun cs x => cs.setIfInBounds (off + x.2) x.1) vs)).toList := by
            refine ⟨by have e1 := hfold.1; have e2 := splice_length c2; simp only [Array.length_toList]; omega, ?_⟩
            intro j c x hj hx
            rw [splice_get c2] at hj
            rw [Array.getElem?_toList, hfold.2 j] at hx
            simp only [Nat.add_zero, Array.length_toList, z1] at hx
            split at hj
            · rename_i hin
              rw [if_pos hin, Array.getElem?_toList] at hx
              exact z3 _ c x hj hx
            · rename_i hout
              rw [if_neg hout] at hx
              exact h0.2 j c x hj (by rw [Array.getElem?_toList]; exact hx)
          obtain ⟨vs', hf, hr'⟩ := fill_rv place ps qs _ cs' _ (by simpa using hl) (fun j p q h1 h2 => hp (j + 1) p q (by simpa using h1) (by simpa using h2)) hnew h
          refine ⟨vs', ?_, hr'⟩
          simp only [Instr.fill, hpl]
          have g1 : ¬ (v.cells.size ≠ size || decide (off + v.cells.size > vs.size)) = true := by
            simp only [Bool.or_eq_true, decide_eq_true_eq, not_or]
            omega
          rw [if_neg g1]
          have e5 : v.cells.zipIdx.foldl (fun cs (x : Value × Nat) => cs.setIfInBounds (off + x.2) x.1) vs = (v.cells.toList.zipIdx 0).foldl (fun cs x => cs.setIfInBounds (off + x.2) x.1) vs := by
            rw [← Array.foldl_toList, Array.toList_zipIdx]
          rw [← e5] at hf
          exact hf
        · cases h


theorem made_get (z : Array Value) (n s : Nat) (hs : z.size = s) {i j : Nat} (hi : i < n) (hj : j < s) : (madeCells z (n * s)).toList[i * s + j]? = z.toList[j]? := by
  have hlt : i * s + j < n * s := by
    have : (i + 1) * s ≤ n * s := Nat.mul_le_mul_right _ hi
    rw [Nat.add_mul, Nat.one_mul] at this
    omega
  have hm : (i * s + j) % s = j := by rw [Nat.mul_comm, Nat.mul_add_mod, Nat.mod_eq_of_lt hj]
  have hzj : j < z.size := by omega
  simp only [madeCells, Array.toList_map, Array.toList_range, List.getElem?_map, List.getElem?_range hlt, Option.map_some, hs, hm]
  rw [Array.getElem?_toList, Array.getElem?_eq_getElem hzj]
  simp [hzj]

theorem makeSlice_run {G : Cfg} {base : Nat} {bx0 : List Nat} {C : Ctx} {m : Mem} (M : MemOK G base bx0 C m) {t e : TypeId} (he : G.elemT t = some e) {z by_ : Nat} (hz : G.csz e = some z) (hby : G.bts e = some by_) {zs : List AV} (hzs : G.zer e = some zs) (hok : G.zerOK e = true) (d : Nat) {n : Int}
    (h0 : 0 ≤ n) (hb : n * by_ ≤ 140737488355328) (hp : 0 < z) (hn : n ≤ 140737488355328) :
    ∃ u w', (Instr.makeSlice t (.int .i64 n) (.int .i64 n)).run G.P C.w = .ok u w' ∧ Nxt G base bx0 C w' (m.made d e (List.replicate n.toNat zs)).2 fun C' => RV C' (m.made d e (List.replicate n.toNat zs)).1 u := by
  obtain ⟨i, zv, hi, hzv, hsz, h1⟩ := zerOK_info hok
  obtain ⟨i', zv', hi', hzv', hrv⟩ := zer_rv hzs C
  rw [hi] at hi'
  cases hi'
  rw [hzv] at hzv'
  cases hzv'
  have hisz : i.size = z := by
    obtain ⟨i'', hi'', hs'⟩ := csz_info hz
    rw [hi] at hi''
    cases hi''
    exact hs'
  have hib := bts_info hby hi
  have hu := elemT_under he
  have hr := run_make (P := G.P) C.w t e i zv hu hi hzv .i64 .i64 n n h0 (Int.le_refl _) (by rw [hib, Int.mul_comm]; omega) (by omega)
  refine ⟨_, _, hr, ?_⟩
  subst hisz
  refine Nxt.setArr M d _ none (World.grownBy_alloc _ _ _) (fun _ h => by cases h) ⟨i.size, n.toNat, .slice (some ⟨C.w.heap.size, 0, none⟩) n.toNat n.toNat⟩ (madeCells zv.cells (n.toNat * i.size)).toList e (List.replicate n.toNat zs) hz hp (by simp) ?_ ?_ ?_ ?_ ?_
  · intro r hr'
    have := List.eq_of_mem_replicate hr'
    subst this
    have h2 := hrv.1
    simp only [Array.length_toList] at h2
    exact h2.trans hsz
  · exact World.ownsRow_lit C.w _ n.toNat (Nat.zero_le _) (by simp only [maxLen]; omega) (size_madeCells _ _)
  · intro g hg
    cases hg
    exact .inl (Nat.le_refl _)
  · intro idx j r c x hir hj hx
    have hil : idx < n.toNat := by have := (List.getElem?_eq_some_iff.1 hir).1; simpa using this
    have hre := List.eq_of_mem_replicate (List.mem_of_getElem? hir)
    subst hre
    have hjl : j < i.size := by have := (List.getElem?_eq_some_iff.1 hj).1; have h2 := hrv.1; simp at h2; omega
    rw [made_get zv.cells n.toNat i.size hsz hil hjl] at hx
    exact hrv.2 j c x hj hx
  · intro C' K hw hbx hA hv
    refine .arr d _ 0 _ _ rfl ?_ ?_
    · rw [hv, M.ver d]; exact Nat.le_refl _
    · intro J hJ _
      rw [hA] at hJ
      cases hJ
      exact ⟨by simp, some ⟨C.w.heap.size, 0, none⟩, n.toNat, some ⟨C.w.heap.size, 0, none⟩, rfl, by simp, fun _ => by simp [Addr.add]⟩

theorem alloc_run {G : Cfg} {base : Nat} {bx0 : List Nat} {C : Ctx} {m : Mem} (M : MemOK G base bx0 C m) {t : TypeId} {cs : List AV} (hzs : G.zer t = some cs) :
    ∃ u w', (Instr.alloc t true (.tuple #[])).run G.P C.w = .ok u w' ∧ Nxt G base bx0 C w' { m with boxes := m.boxes ++ [cs] } fun C' => RV C' (.box m.boxes.length 0) u := by
  obtain ⟨i, zv, hi, hzv, hrv⟩ := zer_rv hzs C
  refine ⟨.pointer (some ⟨C.w.heap.size, 0, none⟩), C.w.alloc (.cells zv.cells t), by simp [Instr.alloc, zeroValue, typeInfo, hi, hzv, newVar, newRow], ?_⟩
  refine Nxt.newBox M zv.cells t cs (by have := hrv.1; simp at this; omega) (fun j c x a b => hrv.2 j c x a (by rw [Array.getElem?_toList]; exact b)) ?_
  intro C' K hw hbx
  refine .box _ 0 _ ?_
  rw [hbx, ← M.bxlen]
  simp

theorem box_run {G : Cfg} {base : Nat} {bx0 : List Nat} {C : Ctx} {m : Mem} (M : MemOK G base bx0 C m) {t : TypeId} {x : AV} {v : Value} (hx : RV C x v) (h1 : x.cells.all AV.one = true) :
    ∃ u w', (Instr.box t v).run G.P C.w = .ok u w' ∧ Nxt G base bx0 C w' { m with boxes := m.boxes ++ [x.cells] } fun C' => RV C' (.box m.boxes.length 0) u := by
  obtain ⟨z1, z2, z3⟩ := cells_rv hx h1
  refine ⟨.pointer (some ⟨C.w.heap.size, 0, none⟩), C.w.alloc (.cells v.cells t), by simp [Instr.box, newVar, newRow], ?_⟩
  refine Nxt.newBox M v.cells t x.cells z1 z3 ?_
  intro C' K hw hbx
  refine .box _ 0 _ ?_
  rw [hbx, ← M.bxlen]
  simp

theorem build_run {G : Cfg} {C : Ctx} {t : TypeId} {places : List (Nat × Nat)} (hf : G.flds t = some places) {zs : List AV} (hzs : G.zer t = some zs) {ps : List (Nat × AV)} {qs : Array (Nat × Value)} (hl : ps.length = qs.size)
    (hp : ∀ (j : Nat) (p : Nat × AV) (q : Nat × Value), ps[j]? = some p → qs[j]? = some q → p.1 = q.1 ∧ RV C p.2 q.2) {cs : List AV} (h : fillAV (places[·]?) zs ps = some cs) (w : World) :
    ∃ u, (Instr.build t qs).run G.P w = .ok u w ∧ RV C (.agg cs) u := by
  obtain ⟨i, zv, hi, hzv, hrv⟩ := zer_rv hzs C
  obtain ⟨vs', h1, h2⟩ := fill_rv (C := C) (places[·]?) ps qs.toList zs cs zv.cells (by simpa using hl) (fun j p q a b => hp j p q a (by simpa using b)) hrv h
  refine ⟨.agg vs', run_build w t qs vs' ?_, .agg _ _ (by have := h2.1; simpa using this) (fun j c x a b => h2.2 j c x a (by simpa using b))⟩
  unfold Cfg.flds at hf
  split at hf
  · rename_i fs hu
    unfold Program.built
    simp only [hi, hu, hzv, hf]
    rw [← h1]
    congr 1
    funext x
    simp
  · rename_i n e hu
    split at hf
    · rename_i he
      have hpl : places = [] := (Option.some.inj hf).symm
      subst hpl
      obtain ⟨ie, hie⟩ := Option.isSome_iff_exists.1 he
      have hps : ps = [] := by
        cases ps with
        | nil => rfl
        | cons q r => obtain ⟨a, b⟩ := q; simp [fillAV] at h
      subst hps
      have hqs : qs.toList = [] := List.eq_nil_of_length_eq_zero (by simpa using hl.symm)
      unfold Program.built
      simp only [hi, hu, hzv, hie]
      rw [hqs] at h1 ⊢
      rw [← h1]
      rfl
    · cases hf
  · cases hf

theorem fill_dense (z : Nat) : ∀ (qs : List (Nat × Value)) (k : Nat) (cells : Array Value), qs.map (·.1) = List.range' k qs.length → (∀ q ∈ qs, q.2.cells.size = z) → (k + qs.length) * z ≤ cells.size →
    ∃ cells', Instr.fill (fun i => some (i * z, z)) cells qs = some cells' ∧ cells'.size = cells.size ∧ ∀ i j, j < z → cells'[i * z + j]? = if k ≤ i ∧ i < k + qs.length then ((qs[i - k]?).bind fun q => q.2.cells[j]?) else cells[i * z + j]?
  | [], k, cells, _, _, _ => ⟨cells, rfl, rfl, fun i j _ => by simp; omega⟩
  | (p, v) :: qs, k, cells, h1, h2, h3 => by
    simp only [List.map_cons, List.length_cons, List.range'_succ, List.cons.injEq] at h1
    obtain ⟨rfl, h1⟩ := h1
    have hv : v.cells.size = z := h2 (p, v) (List.mem_cons_self ..)
    simp only [List.length_cons] at h3
    have hroom : p * z + z ≤ cells.size := by
      have : (p + 1) * z ≤ (p + (qs.length + 1)) * z := Nat.mul_le_mul_right _ (by omega)
      rw [Nat.add_mul, Nat.one_mul] at this
      omega
    have hfold := fold_set (p * z) v.cells.toList 0 cells (by simp; omega)
    have hsz3 : (p + 1 + qs.length) * z ≤ ((v.cells.toList.zipIdx 0).foldl (fun cs x => cs.setIfInBounds (p * z + x.2) x.1) cells).size := by
      rw [hfold.1]
      have e : p + 1 + qs.length = p + (qs.length + 1) := by omega
      rw [e]; exact h3
    obtain ⟨cells', f1, f2, f3⟩ := fill_dense z qs (p + 1) ((v.cells.toList.zipIdx 0).foldl (fun cs x => cs.setIfInBounds (p * z + x.2) x.1) cells) h1 (fun q hq => h2 q (List.mem_cons_of_mem _ hq)) hsz3
    refine ⟨cells', ?_, f2.trans hfold.1, ?_⟩
    · simp only [Instr.fill]
      have g1 : ¬ (v.cells.size ≠ z || decide (p * z + v.cells.size > cells.size)) = true := by
        simp only [Bool.or_eq_true, decide_eq_true_eq, not_or]
        omega
      rw [if_neg g1]
      have e5 : v.cells.zipIdx.foldl (fun cs (x : Value × Nat) => cs.setIfInBounds (p * z + x.2) x.1) cells = (v.cells.toList.zipIdx 0).foldl (fun cs x => cs.setIfInBounds (p * z + x.2) x.1) cells := by
        rw [← Array.foldl_toList, Array.toList_zipIdx]
      rw [← e5] at f1
      exact f1
    · intro i j hj
      rw [f3 i j hj]
      simp only [List.length_cons]
      by_cases c1 : p + 1 ≤ i ∧ i < p + 1 + qs.length
      · rw [if_pos c1, if_pos (by omega)]
        obtain ⟨n, rfl⟩ : ∃ n, i = p + 1 + n := ⟨i - (p + 1), by omega⟩
        rw [show p + 1 + n - (p + 1) = n by omega, show p + 1 + n - p = n + 1 by omega]
        rfl
      · rw [if_neg c1, hfold.2]
        simp only [Nat.add_zero, Array.length_toList, hv]
        by_cases c2 : i = p
        · subst c2
          rw [if_pos (by omega), if_pos (by omega), show i * z + j - i * z = j by omega, Nat.sub_self]
          simp
        · have hout : ¬ (p * z ≤ i * z + j ∧ i * z + j < p * z + z) := by
            rintro ⟨q1, q2⟩
            rcases Nat.lt_or_gt_of_ne c2 with hlt | hlt
            · have : (i + 1) * z ≤ p * z := Nat.mul_le_mul_right _ hlt
              rw [Nat.add_mul, Nat.one_mul] at this
              omega
            · have : (p + 1) * z ≤ i * z := Nat.mul_le_mul_right _ hlt
              rw [Nat.add_mul, Nat.one_mul] at this
              omega
          rw [if_neg hout, if_neg (by omega)]

theorem buildSlice_run {G : Cfg} {C : Ctx} {t e : TypeId} (he : G.elemT t = some e) {z : Nat} (hz : G.csz e = some z) (hok : G.zerOK e = true) (len : Nat) {xs : List AV} {qs : Array (Nat × Value)}
    (hq1 : qs.toList.map (·.1) = List.range len) (hl : xs.length = qs.size) (hx : ∀ (j : Nat) (x : AV) (q : Nat × Value), xs[j]? = some x → qs[j]? = some q → RV C x q.2) (hrow : (xs.map AV.cells).all (·.length == z) = true) (hone : (xs.map AV.cells).all (·.all AV.one) = true)
    (hp : 0 < z) (hsm : len * z ≤ 1000) :
    ∃ (cells : Array Value) (f : Nat → Nat → Value), (Instr.buildSlice t len qs).run G.P C.w = .ok (.slice (some ⟨C.w.heap.size, 0, none⟩) len len) (C.w.alloc (.cells cells e)) ∧ cells.size = len * z ∧ Rows' C (xs.map AV.cells) f ∧
      xs.length = len ∧ ∀ i j, i < len → j < z → cells[i * z + j]? = some (f i j) := by
  have hlen : qs.toList.length = len := by have := congrArg List.length hq1; simpa using this
  have hxl : xs.length = len := by rw [hl]; simpa using hlen
  obtain ⟨ie, zv, hi, hzv, hsz, h1⟩ := zerOK_info hok
  have hisz : ie.size = z := by
    obtain ⟨i', hi', hs'⟩ := csz_info hz
    rw [hi] at hi'
    cases hi'
    exact hs'
  subst hisz
  have hu := elemT_under he
  have cellsOf : ∀ (j : Nat) (x : AV), xs[j]? = some x → ∃ q : Nat × Value, qs[j]? = some q ∧ q.2.cells.size = x.cells.length ∧ x.cells.length = ie.size ∧ ∀ (i : Nat) (c : AV) (u : Value), x.cells[i]? = some c → q.2.cells[i]? = some u → RV C c u := by
    intro j x hj
    have hjl : j < xs.length := (List.getElem?_eq_some_iff.1 hj).1
    have hq : qs[j]? = some (qs[j]'(by omega)) := Array.getElem?_eq_getElem (by omega)
    have hmem : x.cells ∈ xs.map AV.cells := List.mem_map.2 ⟨x, List.mem_of_getElem? hj, rfl⟩
    have a1 := List.all_eq_true.1 hrow _ hmem
    have a2 := List.all_eq_true.1 hone _ hmem
    obtain ⟨z1, z2, z3⟩ := cells_rv (hx j x _ hj hq) a2
    exact ⟨_, hq, z1, by simpa using a1, z3⟩
  have hsize : ∀ q ∈ qs.toList, q.2.cells.size = ie.size := by
    intro q hq
    obtain ⟨j, hj, rfl⟩ := List.getElem_of_mem hq
    have hj' : j < xs.length := by simp at hj; omega
    obtain ⟨q', hq', s1, s2, _⟩ := cellsOf j _ (List.getElem?_eq_getElem hj')
    have : q' = qs.toList[j] := by
      rw [Array.getElem?_eq_getElem (by simpa using hj)] at hq'
      cases hq'
      simp
    rw [← this, s1, s2]
  obtain ⟨cells, f1, f2, f3⟩ := fill_dense ie.size qs.toList 0 ((Array.range (len * ie.size)).map (zv.cells[· % zv.cells.size]!)) (by rw [hq1, hlen, List.range_eq_range']) hsize (by simp [hlen])
  have hcs : cells.size = len * ie.size := by rw [f2]; simp
  refine ⟨cells, fun i j => cells.getD (i * ie.size + j) undef, ?_, hcs, ?_, hxl, ?_⟩
  · by_cases h0 : len = 0
    · subst h0
      have hqe : qs = #[] := by
        apply Array.eq_empty_of_size_eq_zero
        simpa using hlen
      subst hqe
      simp [Instr.fill] at f1
      subst f1
      have er : Array.range 0 = #[] := rfl
      simp [Instr.buildSlice, run_underlying hu, sizeOf, typeInfo, hi, Instr.fill, newRow, er]
    · refine run_buildSlice C.w t e len qs cells ie zv hu hi hzv (by omega) (by have := Nat.mul_pos (Nat.pos_of_ne_zero h0) hp; omega) f1
  · intro i j r c hir hjc
    rw [List.getElem?_map] at hir
    obtain ⟨x, hx', hxe⟩ := Option.map_eq_some_iff.1 hir
    subst hxe
    obtain ⟨q, hq, s1, s2, s3⟩ := cellsOf i x hx'
    have hil : i < len := by have := (List.getElem?_eq_some_iff.1 hx').1; omega
    have hjl : j < ie.size := by have := (List.getElem?_eq_some_iff.1 hjc).1; omega
    have := f3 i j hjl
    rw [if_pos (by omega)] at this
    simp only [Nat.sub_zero, Array.getElem?_toList, hq, Option.bind_some] at this
    have hjq : j < q.2.cells.size := by omega
    rw [Array.getElem?_eq_getElem hjq] at this
    refine s3 j c _ hjc ?_
    simp only [Array.getD_eq_getD_getElem?, this, Option.getD_some]
    exact Array.getElem?_eq_getElem hjq
  · intro i j hi' hj
    have hlt : i * ie.size + j < cells.size := by
      have : (i + 1) * ie.size ≤ len * ie.size := Nat.mul_le_mul_right _ hi'
      rw [Nat.add_mul, Nat.one_mul] at this
      omega
    simp [hlt]

end Go.Proofs.YtokhnmchnfkiiaaDoor.Am
