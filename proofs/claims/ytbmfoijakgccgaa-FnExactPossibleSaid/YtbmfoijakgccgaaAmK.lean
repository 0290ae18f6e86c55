/- The abstract machine: new slices, structs that are built, and all operations that call no Go function. No conditions. -/
import Derived.Test.YtbmfoijakgccgaaAmJ
import Derived.Great.BuildSlice
import Derived.Laws.MakeOwn
namespace Go.Proofs.Ytbmfoijakgccgaa.Am
open Go Go.RowKit
set_option linter.unusedSimpArgs false
set_option linter.unusedVariables false

theorem zer_rv {G : Cfg} {t : TypeId} {cs : List AV} (hz : G.zer t = some cs) (C : Ctx) : ∃ i z, G.P.info? t = some i ∧ i.zero = some z ∧ RVs C cs z.cells.toList := by
  unfold Cfg.zer at hz
  obtain ⟨i, hi, h1⟩ := Option.bind_eq_some_iff.1 hz
  obtain ⟨z, hz', h2⟩ := Option.map_eq_some_iff.1 h1
  subst h2
  refine ⟨i, z, hi, hz', by simp, ?_⟩
  intro j c x h1 h2
  rw [List.getElem?_map, h2] at h1
  cases h1
  exact rv_ofCell C x

theorem fold_set (off : Nat) : ∀ (l : List Value) (k : Nat) (cs : Array Value), off + k + l.length ≤ cs.size →
    ((l.zipIdx k).foldl (fun cs x => cs.setIfInBounds (off + x.2) x.1) cs).size = cs.size ∧
    ∀ q, ((l.zipIdx k).foldl (fun cs x => cs.setIfInBounds (off + x.2) x.1) cs)[q]? = if off + k ≤ q ∧ q < off + k + l.length then l[q - (off + k)]? else cs[q]?
  | [], k, cs, _ => by simp; omega
  | v :: l, k, cs, h => by
    simp only [List.length_cons] at h
    have ih := fold_set off l (k + 1) (cs.setIfInBounds (off + k) v) (by simp; omega)
    simp only [List.zipIdx_cons, List.foldl_cons]
    refine ⟨by rw [ih.1]; simp, ?_⟩
    intro q
    rw [ih.2 q]
    simp only [List.length_cons]
    by_cases h1 : off + (k + 1) ≤ q ∧ q < off + (k + 1) + l.length
    · rw [if_pos h1, if_pos (by omega)]
      obtain ⟨n, rfl⟩ : ∃ n, q = off + k + 1 + n := ⟨q - (off + k + 1), by omega⟩
      rw [show off + k + 1 + n - (off + (k + 1)) = n by omega, show off + k + 1 + n - (off + k) = n + 1 by omega]
      rfl
    · rw [if_neg h1, Array.getElem?_setIfInBounds]
      by_cases h2 : off + k = q
      · rw [if_pos h2, if_pos (by omega), if_pos (by omega)]
        rw [show q - (off + k) = 0 by omega]
        rfl
      · rw [if_neg h2, if_neg (by omega)]

theorem fill_rv {C : Ctx} (place : Nat → Option (Nat × Nat)) : ∀ (ps : List (Nat × AV)) (qs : List (Nat × Value)) (cs cs' : List AV) (vs : Array Value),
    ps.length = qs.length → (∀ (j : Nat) (p : Nat × AV) (q : Nat × Value), ps[j]? = some p → qs[j]? = some q → p.1 = q.1 ∧ RV C p.2 q.2) → RVs C cs vs.toList → fillAV place cs ps = some cs' →
    ∃ vs', Instr.fill place vs qs = some vs' ∧ RVs C cs' vs'.toList
  | [], qs, cs, cs', vs, hl, _, h0, h => by
    cases qs with
    | nil => cases h; exact ⟨vs, rfl, h0⟩
    | cons => simp at hl
  | (i, a) :: ps, qs, cs, cs', vs, hl, hp, h0, h => by
    cases qs with
    | nil => simp at hl
    | cons q qs =>
      obtain ⟨i', v⟩ := q
      obtain ⟨e1, hr⟩ := hp 0 _ _ rfl rfl
      simp only at e1 hr
      subst e1
      simp only [fillAV] at h
      cases hpl : place i with
      | none => simp [hpl] at h
      | some os =>
        obtain ⟨off, size⟩ := os
        simp only [hpl] at h
        split at h
        · rename_i hc
          obtain ⟨c1, c2, c3⟩ := hc
          obtain ⟨z1, z2, z3⟩ := cells_rv hr c3
          have hcv : cs.length = vs.size := by rw [h0.1]; simp
          have hfold := fold_set off v.cells.toList 0 vs (by simp; omega)
          have hnew : RVs C (splice cs a.cells off) (((v.cells.toList.zipIdx 0).foldl (fun cs x => cs.setIfInBounds (off + x.2) x.1) vs)).toList := by
            refine ⟨by have e1 := hfold.1; have e2 := splice_length c2; simp only [Array.length_toList]; omega, ?_⟩
            intro j c x hj hx
            rw [splice_get c2] at hj
            rw [Array.getElem?_toList, hfold.2 j] at hx
            simp only [Nat.add_zero, Array.length_toList, z1] at hx
            split at hj
            · rename_i hin
              rw [if_pos hin, Array.getElem?_toList] at hx
              exact z3 _ c x hj hx
            · rename_i hout
              rw [if_neg hout] at hx
              exact h0.2 j c x hj (by rw [Array.getElem?_toList]; exact hx)
          obtain ⟨vs', hf, hr'⟩ := fill_rv place ps qs _ cs' _ (by simpa using hl) (fun j p q h1 h2 => hp (j + 1) p q (by simpa using h1) (by simpa using h2)) hnew h
          refine ⟨vs', ?_, hr'⟩
          simp only [Instr.fill, hpl]
          have g1 : ¬ (v.cells.size ≠ size || decide (off + v.cells.size > vs.size)) = true := by
            simp only [Bool.or_eq_true, decide_eq_true_eq, not_or]
            omega
          rw [if_neg g1]
          have e5 : v.cells.zipIdx.foldl (fun cs (x : Value × Nat) => cs.setIfInBounds (off + x.2) x.1) vs = (v.cells.toList.zipIdx 0).foldl (fun cs x => cs.setIfInBounds (off + x.2) x.1) vs := by
            rw [← Array.foldl_toList, Array.toList_zipIdx]
          rw [← e5] at hf
          exact hf
        · cases h


theorem made_get (z : Array Value) (n s : Nat) (hs : z.size = s) {i j : Nat} (hi : i < n) (hj : j < s) : (madeCells z (n * s)).toList[i * s + j]? = z.toList[j]? := by
  have hlt : i * s + j < n * s := by
    have : (i + 1) * s ≤ n * s := Nat.mul_le_mul_right _ hi
    rw [Nat.add_mul, Nat.one_mul] at this
    omega
  have hm : (i * s + j) % s = j := by rw [Nat.mul_comm, Nat.mul_add_mod, Nat.mod_eq_of_lt hj]
  have hzj : j < z.size := by omega
  simp only [madeCells, Array.toList_map, Array.toList_range, List.getElem?_map, List.getElem?_range hlt, Option.map_some, hs, hm]
  rw [Array.getElem?_toList, Array.getElem?_eq_getElem hzj]
  simp [hzj]

theorem makeSlice_run {G : Cfg} {base : Nat} {bx0 : List Nat} {C : Ctx} {m : Mem} (M : MemOK G base bx0 C m) {t e : TypeId} (he : G.elemT t = some e) {z by_ : Nat} (hz : G.csz e = some z) (hby : G.bts e = some by_) {zs : List AV} (hzs : G.zer e = some zs) (hok : G.zerOK e = true) (d : Nat) {n : Int}
    (h0 : 0 ≤ n) (hb : n * by_ ≤ 140737488355328) (hp : 0 < z) (hn : n ≤ 140737488355328) :
    ∃ u w', (Instr.makeSlice t (.int .i64 n) (.int .i64 n)).run G.P C.w = .ok u w' ∧ Nxt G base bx0 C w' (m.made d e (List.replicate n.toNat zs)).2 fun C' => RV C' (m.made d e (List.replicate n.toNat zs)).1 u := by
  obtain ⟨i, zv, hi, hzv, hsz, h1⟩ := zerOK_info hok
  obtain ⟨i', zv', hi', hzv', hrv⟩ := zer_rv hzs C
  rw [hi] at hi'
  cases hi'
  rw [hzv] at hzv'
  cases hzv'
  have hisz : i.size = z := by
    obtain ⟨i'', hi'', hs'⟩ := csz_info hz
    rw [hi] at hi''
    cases hi''
    exact hs'
  have hib := bts_info hby hi
  have hu := elemT_under he
  have hr := run_make (P := G.P) C.w t e i zv hu hi hzv .i64 .i64 n n h0 (Int.le_refl _) (by rw [hib, Int.mul_comm]; omega) (by omega)
  refine ⟨_, _, hr, ?_⟩
  subst hisz
  refine Nxt.setArr M d _ none (World.grownBy_alloc _ _ _) (fun _ h => by cases h) ⟨i.size, n.toNat, .slice (some ⟨C.w.heap.size, 0, none⟩) n.toNat n.toNat⟩ (madeCells zv.cells (n.toNat * i.size)).toList e (List.replicate n.toNat zs) hz hp (by simp) ?_ ?_ ?_ ?_ ?_
  · intro r hr'
    have := List.eq_of_mem_replicate hr'
    subst this
    have h2 := hrv.1
    simp only [Array.length_toList] at h2
    exact h2.trans hsz
  · exact World.ownsRow_lit C.w _ n.toNat (Nat.zero_le _) (by simp only [maxLen]; omega) (size_madeCells _ _)
  · intro g hg
    cases hg
    exact .inl (Nat.le_refl _)
  · intro idx j r c x hir hj hx
    have hil : idx < n.toNat := by have := (List.getElem?_eq_some_iff.1 hir).1; simpa using this
    have hre := List.eq_of_mem_replicate (List.mem_of_getElem? hir)
    subst hre
    have hjl : j < i.size := by have := (List.getElem?_eq_some_iff.1 hj).1; have h2 := hrv.1; simp at h2; omega
    rw [made_get zv.cells n.toNat i.size hsz hil hjl] at hx
    exact hrv.2 j c x hj hx
  · intro C' K hw hbx hA hv
    refine .arr d _ 0 _ _ rfl ?_ ?_
    · rw [hv, M.ver d]; exact Nat.le_refl _
    · intro J hJ _
      rw [hA] at hJ
      cases hJ
      exact ⟨by simp, some ⟨C.w.heap.size, 0, none⟩, n.toNat, some ⟨C.w.heap.size, 0, none⟩, rfl, by simp, fun _ => by simp [Addr.add]⟩

theorem alloc_run {G : Cfg} {base : Nat} {bx0 : List Nat} {C : Ctx} {m : Mem} (M : MemOK G base bx0 C m) {t : TypeId} {cs : List AV} (hzs : G.zer t = some cs) :
    ∃ u w', (Instr.alloc t true (.tuple #[])).run G.P C.w = .ok u w' ∧ Nxt G base bx0 C w' { m with boxes := m.boxes ++ [cs] } fun C' => RV C' (.box m.boxes.length 0) u := by
  obtain ⟨i, zv, hi, hzv, hrv⟩ := zer_rv hzs C
  refine ⟨.pointer (some ⟨C.w.heap.size, 0, none⟩), C.w.alloc (.cells zv.cells t), by simp [Instr.alloc, zeroValue, typeInfo, hi, hzv, newVar, newRow], ?_⟩
  refine Nxt.newBox M zv.cells t cs (by have := hrv.1; simp at this; omega) (fun j c x a b => hrv.2 j c x a (by rw [Array.getElem?_toList]; exact b)) ?_
  intro C' K hw hbx
  refine .box _ 0 _ ?_
  rw [hbx, ← M.bxlen]
  simp

theorem box_run {G : Cfg} {base : Nat} {bx0 : List Nat} {C : Ctx} {m : Mem} (M : MemOK G base bx0 C m) {t : TypeId} {x : AV} {v : Value} (hx : RV C x v) (h1 : x.cells.all AV.one = true) :
    ∃ u w', (Instr.box t v).run G.P C.w = .ok u w' ∧ Nxt G base bx0 C w' { m with boxes := m.boxes ++ [x.cells] } fun C' => RV C' (.box m.boxes.length 0) u := by
  obtain ⟨z1, z2, z3⟩ := cells_rv hx h1
  refine ⟨.pointer (some ⟨C.w.heap.size, 0, none⟩), C.w.alloc (.cells v.cells t), by simp [Instr.box, newVar, newRow], ?_⟩
  refine Nxt.newBox M v.cells t x.cells z1 z3 ?_
  intro C' K hw hbx
  refine .box _ 0 _ ?_
  rw [hbx, ← M.bxlen]
  simp

theorem build_run {G : Cfg} {C : Ctx} {t : TypeId} {places : List (Nat × Nat)} (hf : G.flds t = some places) {zs : List AV} (hzs : G.zer t = some zs) {ps : List (Nat × AV)} {qs : Array (Nat × Value)} (hl : ps.length = qs.size)
    (hp : ∀ (j : Nat) (p : Nat × AV) (q : Nat × Value), ps[j]? = some p → qs[j]? = some q → p.1 = q.1 ∧ RV C p.2 q.2) {cs : List AV} (h : fillAV (places[·]?) zs ps = some cs) (w : World) :
    ∃ u, (Instr.build t qs).run G.P w = .ok u w ∧ RV C (.agg cs) u := by
  obtain ⟨i, zv, hi, hzv, hrv⟩ := zer_rv hzs C
  obtain ⟨vs', h1, h2⟩ := fill_rv (C := C) (places[·]?) ps qs.toList zs cs zv.cells (by simpa using hl) (fun j p q a b => hp j p q a (by simpa using b)) hrv h
  refine ⟨.agg vs', run_build w t qs vs' ?_, .agg _ _ (by have := h2.1; simpa using this) (fun j c x a b => h2.2 j c x a (by simpa using b))⟩
  unfold Cfg.flds at hf
  split at hf
  · rename_i fs hu
    unfold Program.built
    simp only [hi, hu, hzv, hf]
    rw [← h1]
    congr 1
    funext x
    simp
  · cases hf

theorem fill_dense (z : Nat) : ∀ (qs : List (Nat × Value)) (k : Nat) (cells : Array Value), qs.map (·.1) = List.range' k qs.length → (∀ q ∈ qs, q.2.cells.size = z) → (k + qs.length) * z ≤ cells.size →
    ∃ cells', Instr.fill (fun i => some (i * z, z)) cells qs = some cells' ∧ cells'.size = cells.size ∧ ∀ i j, j < z → cells'[i * z + j]? = if k ≤ i ∧ i < k + qs.length then ((qs[i - k]?).bind fun q => q.2.cells[j]?) else cells[i * z + j]?
  | [], k, cells, _, _, _ => ⟨cells, rfl, rfl, fun i j _ => by simp; omega⟩
  | (p, v) :: qs, k, cells, h1, h2, h3 => by
    simp only [List.map_cons, List.length_cons, List.range'_succ, List.cons.injEq] at h1
    obtain ⟨rfl, h1⟩ := h1
    have hv : v.cells.size = z := h2 (p, v) (List.mem_cons_self ..)
    simp only [List.length_cons] at h3
    have hroom : p * z + z ≤ cells.size := by
      have : (p + 1) * z ≤ (p + (qs.length + 1)) * z := Nat.mul_le_mul_right _ (by omega)
      rw [Nat.add_mul, Nat.one_mul] at this
      omega
    have hfold := fold_set (p * z) v.cells.toList 0 cells (by simp; omega)
    have hsz3 : (p + 1 + qs.length) * z ≤ ((v.cells.toList.zipIdx 0).foldl (fun cs x => cs.setIfInBounds (p * z + x.2) x.1) cells).size := by
      rw [hfold.1]
      have e : p + 1 + qs.length = p + (qs.length + 1) := by omega
      rw [e]; exact h3
    obtain ⟨cells', f1, f2, f3⟩ := fill_dense z qs (p + 1) ((v.cells.toList.zipIdx 0).foldl (fun cs x => cs.setIfInBounds (p * z + x.2) x.1) cells) h1 (fun q hq => h2 q (List.mem_cons_of_mem _ hq)) hsz3
    refine ⟨cells', ?_, f2.trans hfold.1, ?_⟩
    · simp only [Instr.fill]
      have g1 : ¬ (v.cells.size ≠ z || decide (p * z + v.cells.size > cells.size)) = true := by
        simp only [Bool.or_eq_true, decide_eq_true_eq, not_or]
        omega
      rw [if_neg g1]
      have e5 : v.cells.zipIdx.foldl (fun cs (x : Value × Nat) => cs.setIfInBounds (p * z + x.2) x.1) cells = (v.cells.toList.zipIdx 0).foldl (fun cs x => cs.setIfInBounds (p * z + x.2) x.1) cells := by
        rw [← Array.foldl_toList, Array.toList_zipIdx]
      rw [← e5] at f1
      exact f1
    · intro i j hj
      rw [f3 i j hj]
      simp only [List.length_cons]
      by_cases c1 : p + 1 ≤ i ∧ i < p + 1 + qs.length
      · rw [if_pos c1, if_pos (by omega)]
        obtain ⟨n, rfl⟩ : ∃ n, i = p + 1 + n := ⟨i - (p + 1), by omega⟩
        rw [show p + 1 + n - (p + 1) = n by omega, show p + 1 + n - p = n + 1 by omega]
        rfl
      · rw [if_neg c1, hfold.2]
        simp only [Nat.add_zero, Array.length_toList, hv]
        by_cases c2 : i = p
        · subst c2
          rw [if_pos (by omega), if_pos (by omega), show i * z + j - i * z = j by omega, Nat.sub_self]
          simp
        · have hout : ¬ (p * z ≤ i * z + j ∧ i * z + j < p * z + z) := by
            rintro ⟨q1, q2⟩
            rcases Nat.lt_or_gt_of_ne c2 with hlt | hlt
            · have : (i + 1) * z ≤ p * z := Nat.mul_le_mul_right _ hlt
              rw [Nat.add_mul, Nat.one_mul] at this
              omega
            · have : (p + 1) * z ≤ i * z := Nat.mul_le_mul_right _ hlt
              rw [Nat.add_mul, Nat.one_mul] at this
              omega
          rw [if_neg hout, if_neg (by omega)]

theorem buildSlice_run {G : Cfg} {C : Ctx} {t e : TypeId} (he : G.elemT t = some e) {z : Nat} (hz : G.csz e = some z) (hok : G.zerOK e = true) (len : Nat) {xs : List AV} {qs : Array (Nat × Value)}
    (hq1 : qs.toList.map (·.1) = List.range len) (hl : xs.length = qs.size) (hx : ∀ (j : Nat) (x : AV) (q : Nat × Value), xs[j]? = some x → qs[j]? = some q → RV C x q.2) (hrow : (xs.map AV.cells).all (·.length == z) = true) (hone : (xs.map AV.cells).all (·.all AV.one) = true)
    (hp : 0 < z) (hsm : len * z ≤ 1000) :
    ∃ (cells : Array Value) (f : Nat → Nat → Value), (Instr.buildSlice t len qs).run G.P C.w = .ok (.slice (some ⟨C.w.heap.size, 0, none⟩) len len) (C.w.alloc (.cells cells e)) ∧ cells.size = len * z ∧ Rows' C (xs.map AV.cells) f ∧
      xs.length = len ∧ ∀ i j, i < len → j < z → cells[i * z + j]? = some (f i j) := by
  have hlen : qs.toList.length = len := by have := congrArg List.length hq1; simpa using this
  have hxl : xs.length = len := by rw [hl]; simpa using hlen
  obtain ⟨ie, zv, hi, hzv, hsz, h1⟩ := zerOK_info hok
  have hisz : ie.size = z := by
    obtain ⟨i', hi', hs'⟩ := csz_info hz
    rw [hi] at hi'
    cases hi'
    exact hs'
  subst hisz
  have hu := elemT_under he
  have cellsOf : ∀ (j : Nat) (x : AV), xs[j]? = some x → ∃ q : Nat × Value, qs[j]? = some q ∧ q.2.cells.size = x.cells.length ∧ x.cells.length = ie.size ∧ ∀ (i : Nat) (c : AV) (u : Value), x.cells[i]? = some c → q.2.cells[i]? = some u → RV C c u := by
    intro j x hj
    have hjl : j < xs.length := (List.getElem?_eq_some_iff.1 hj).1
    have hq : qs[j]? = some (qs[j]'(by omega)) := Array.getElem?_eq_getElem (by omega)
    have hmem : x.cells ∈ xs.map AV.cells := List.mem_map.2 ⟨x, List.mem_of_getElem? hj, rfl⟩
    have a1 := List.all_eq_true.1 hrow _ hmem
    have a2 := List.all_eq_true.1 hone _ hmem
    obtain ⟨z1, z2, z3⟩ := cells_rv (hx j x _ hj hq) a2
    exact ⟨_, hq, z1, by simpa using a1, z3⟩
  have hsize : ∀ q ∈ qs.toList, q.2.cells.size = ie.size := by
    intro q hq
    obtain ⟨j, hj, rfl⟩ := List.getElem_of_mem hq
    have hj' : j < xs.length := by simp at hj; omega
    obtain ⟨q', hq', s1, s2, _⟩ := cellsOf j _ (List.getElem?_eq_getElem hj')
    have : q' = qs.toList[j] := by
      rw [Array.getElem?_eq_getElem (by simpa using hj)] at hq'
      cases hq'
      simp
    rw [← this, s1, s2]
  obtain ⟨cells, f1, f2, f3⟩ := fill_dense ie.size qs.toList 0 ((Array.range (len * ie.size)).map (zv.cells[· % zv.cells.size]!)) (by rw [hq1, hlen, List.range_eq_range']) hsize (by simp [hlen])
  have hcs : cells.size = len * ie.size := by rw [f2]; simp
  refine ⟨cells, fun i j => cells.getD (i * ie.size + j) undef, ?_, hcs, ?_, hxl, ?_⟩
  · by_cases h0 : len = 0
    · subst h0
      have hqe : qs = #[] := by
        apply Array.eq_empty_of_size_eq_zero
        simpa using hlen
      subst hqe
      simp [Instr.fill] at f1
      subst f1
      have er : Array.range 0 = #[] := rfl
      simp [Instr.buildSlice, run_underlying hu, sizeOf, typeInfo, hi, Instr.fill, newRow, er]
    · refine run_buildSlice C.w t e len qs cells ie zv hu hi hzv (by omega) (by have := Nat.mul_pos (Nat.pos_of_ne_zero h0) hp; omega) f1
  · intro i j r c hir hjc
    rw [List.getElem?_map] at hir
    obtain ⟨x, hx', hxe⟩ := Option.map_eq_some_iff.1 hir
    subst hxe
    obtain ⟨q, hq, s1, s2, s3⟩ := cellsOf i x hx'
    have hil : i < len := by have := (List.getElem?_eq_some_iff.1 hx').1; omega
    have hjl : j < ie.size := by have := (List.getElem?_eq_some_iff.1 hjc).1; omega
    have := f3 i j hjl
    rw [if_pos (by omega)] at this
    simp only [Nat.sub_zero, Array.getElem?_toList, hq, Option.bind_some] at this
    have hjq : j < q.2.cells.size := by omega
    rw [Array.getElem?_eq_getElem hjq] at this
    refine s3 j c _ hjc ?_
    simp only [Array.getD_eq_getD_getElem?, this, Option.getD_some]
    exact Array.getElem?_eq_getElem hjq
  · intro i j hi' hj
    have hlt : i * ie.size + j < cells.size := by
      have : (i + 1) * ie.size ≤ len * ie.size := Nat.mul_le_mul_right _ hi'
      rw [Nat.add_mul, Nat.one_mul] at this
      omega
    simp [hlt]

end Go.Proofs.Ytbmfoijakgccgaa.Am
