/- The abstract machine: addresses, parts of structs and of slices, new memory. No conditions. -/
import Derived.Test.YtokhnmchnfkiiaaDoorAmF
namespace Go.Proofs.YtokhnmchnfkiiaaDoor.Am
open Go Go.RowKit
set_option linter.unusedSimpArgs false
set_option linter.unusedVariables false

theorem part_run {G : Cfg} {C : Ctx} {t : TypeId} {cs : List AV} {vs : Array Value} {off : Nat} (hl : cs.length = vs.size) (hh : ∀ (j : Nat) (c : AV) (x : Value), cs[j]? = some c → vs[j]? = some x → RV C c x) {x : AV} (h : G.loadOf t (cs.drop off) = some x) (w : World) :
    ∃ v, (part t vs off).run G.P w = .ok v w ∧ RV C x v := by
  unfold Cfg.loadOf at h
  split at h
  · rename_i ha
    cases hn : G.csz t with
    | none => simp [hn] at h
    | some n =>
      simp only [hn, Option.bind_some] at h
      split at h
      · rename_i hle
        cases h
        refine ⟨.agg (vs.extract off (off + n)), by simp [part, isAg_run ha, csz_run hn], ?_⟩
        simp only [List.length_drop] at hle
        refine .agg _ _ (by simp; omega) ?_
        intro j c u hc hu
        rw [List.getElem?_take] at hc
        split at hc
        · rename_i hj
          rw [List.getElem?_drop] at hc
          refine hh (off + j) c u hc ?_
          rw [Array.getElem?_extract] at hu
          split at hu
          · exact hu
          · cases hu
        · cases hc
      · cases h
  · rename_i ha
    cases hd : cs.drop off with
    | nil => simp [hd] at h
    | cons c r =>
      simp only [hd, List.head?_cons, Option.some.injEq] at h
      subst h
      have hc : cs[off]? = some c := by
        have := congrArg (·[0]?) hd
        simpa using this
      have hlt : off < vs.size := by have := (List.getElem?_eq_some_iff.1 hc).1; omega
      refine ⟨vs[off], ?_, hh off c _ hc (Array.getElem?_eq_getElem hlt)⟩
      simp [part, isAg_run ha, hlt]
  · cases h

theorem field_run {G : Cfg} {C : Ctx} {t : TypeId} {f : Nat} {q : Nat × TypeId} (hq : G.foff t f = some q) {cs : List AV} {v : Value} (hv : RV C (.agg cs) v) {x : AV} (h : G.loadOf q.2 (cs.drop q.1) = some x) (w : World) :
    ∃ u, (Instr.field t v f).run G.P w = .ok u w ∧ RV C x u := by
  obtain ⟨fs, fx, hu, hx, h1, h2⟩ := foff_under hq
  cases hv with
  | agg _ vs hl hh =>
    obtain ⟨u, hu', hr⟩ := part_run hl hh h w
    refine ⟨u, ?_, hr⟩
    simp [Instr.field, run_underlying hu, hx, h1, h2, asAgg, hu']

theorem fieldAt_run {G : Cfg} {t : TypeId} {f : Nat} {q : Nat × TypeId} (hq : G.foff t f = some q) {z : Nat} (hz : G.csz q.2 = some z) (h0 : 0 < z) (b off : Nat) (w : World) :
    (Instr.fieldAt t (.pointer (some ⟨b, off, none⟩)) f).run G.P w = .ok (.pointer (some ⟨b, off + q.1, none⟩)) w := by
  obtain ⟨fs, fx, hu, hx, h1, h2⟩ := foff_under hq
  have hz' : (sizeOf fx.type).run G.P w = .ok z w := by rw [h2]; exact csz_run hz w
  have hne : ¬ z = 0 := by omega
  simp [Instr.fieldAt, run_underlying hu, hx, Instr.sureAddr, fieldPlace, hz', hne, Addr.add_lit, h1]

theorem ptr_off {C : Ctx} {p : AV} {v : Value} (h : RV C p v) (n : Nat) :
    (∀ k off, p = .box k off → ∃ b, v = .pointer (some ⟨b, off, none⟩) ∧ RV C (.box k (off + n)) (.pointer (some ⟨b, off + n, none⟩))) ∧
    (∀ c cs, p = .el c cs → ∃ b off, v = .pointer (some ⟨b, off, none⟩) ∧ RV C (.el c (cs.drop n)) (.pointer (some ⟨b, off + n, none⟩))) ∧
    (∀ cs, p = .wel cs → ∃ b off, v = .pointer (some ⟨b, off, none⟩) ∧ RV C (.wel (cs.drop n)) (.pointer (some ⟨b, off + n, none⟩))) := by
  refine ⟨?_, ?_, ?_⟩
  · rintro k off rfl
    cases h with
    | box _ _ b hb => exact ⟨b, rfl, .box k (off + n) b hb⟩
  · rintro c cs rfl
    cases h with
    | el _ _ b off f hN hb h1 h2 =>
      refine ⟨b, off, rfl, .el c (cs.drop n) b (off + n) (fun j => f (n + j)) hN hb ?_ ?_⟩
      · intro j c hc
        rw [List.getElem?_drop] at hc
        rw [Nat.add_assoc]
        exact h1 _ c hc
      · intro j c hc
        rw [List.getElem?_drop] at hc
        exact h2 _ c hc
  · rintro cs rfl
    cases h with
    | wel _ b off f hW hb h1 hl h2 =>
      refine ⟨b, off, rfl, .wel (cs.drop n) b (off + n) (fun j => f (n + j)) hW hb ?_ (fun c hm => hl c (List.mem_of_mem_drop hm)) ?_⟩
      · intro j c hc
        rw [List.getElem?_drop] at hc
        rw [Nat.add_assoc]
        exact h1 _ c hc
      · intro j c hc
        rw [List.getElem?_drop] at hc
        exact h2 _ c hc

theorem indexAt_wsl {G : Cfg} {C : Ctx} {t e : TypeId} (ht : G.elemT t = some e) {z : Nat} (hz : G.csz e = some z) {es : List (List AV)} {v : Value} (hv : RV C (.wsl es) v) {n : Int} (hn : 0 ≤ n) {cs : List AV} (hc : es[n.toNat]? = some cs)
    (hall : es.all (·.length == z) = true) {k : IntKind} (w : World) : ∃ u, (Instr.indexAt t v (.int k n)).run G.P w = .ok u w ∧ RV C (.wel cs) u := by
  cases hv with
  | wsl0 => simp at hc
  | wsl _ b off size cap f hne hs hW hb hcap h1 hl h2 =>
    have hi : n.toNat < es.length := (List.getElem?_eq_some_iff.1 hc).1
    have hsz : size = z := by
      have q1 := hs cs (List.mem_of_getElem? hc)
      have q2 := List.all_eq_true.1 hall cs (List.mem_of_getElem? hc)
      simp only [beq_iff_eq] at q2
      omega
    subst hsz
    have hlt : n < (es.length : Int) := by omega
    refine ⟨.pointer (some ⟨b, off + n.toNat * size, none⟩), ?_, ?_⟩
    · simp [Instr.indexAt, asIntOf, run_underlying (elemT_under ht), hn, hlt, csz_run hz, Addr.add_lit]
    · exact .wel cs b _ (f n.toNat) hW hb (fun j c hj => h1 _ j cs c hc hj) (fun c hm => hl cs (List.mem_of_getElem? hc) c hm) (fun j c hj => h2 _ j cs c hc hj)

theorem indexAt_sl {G : Cfg} {C : Ctx} {t e : TypeId} (ht : G.elemT t = some e) {z : Nat} (hz : G.csz e = some z) {col : Bool} {es : List (List AV)} {v : Value} (hv : RV C (.sl col es) v) {n : Int} (hn : 0 ≤ n) {cs : List AV} (hc : es[n.toNat]? = some cs)
    (hall : es.all (·.length == z) = true) {k : IntKind} (w : World) : ∃ u, (Instr.indexAt t v (.int k n)).run G.P w = .ok u w ∧ RV C (.el col cs) u := by
  cases hv with
  | sl0 => simp at hc
  | sl _ _ b off size cap f hne hs hN hz0 hb hcap h1 h2 =>
    have hi : n.toNat < es.length := (List.getElem?_eq_some_iff.1 hc).1
    have hsz : size = z := by
      have q1 := hs cs (List.mem_of_getElem? hc)
      have q2 := List.all_eq_true.1 hall cs (List.mem_of_getElem? hc)
      simp only [beq_iff_eq] at q2
      omega
    subst hsz
    have hlt : n < (es.length : Int) := by omega
    refine ⟨.pointer (some ⟨b, off + n.toNat * size, none⟩), ?_, ?_⟩
    · simp [Instr.indexAt, asIntOf, run_underlying (elemT_under ht), hn, hlt, csz_run hz, Addr.add_lit]
    · exact .el col cs b _ (f n.toNat) hN hb (fun j c hj => h1 _ j cs c hc hj) (fun j c hj => h2 _ j cs c hc hj)

theorem sub_pos {I : AInf} {off len : Nat} {x : Value} (h : IsSub I off len x) {base : Nat} {w : World} {e : TypeId} {xs : List Value} (ho : w.ownsRow base e I.size I.val I.len xs) (hl : 0 < len) :
    ∃ g cap, I.val = .slice (some ⟨g, 0, none⟩) I.len cap ∧ I.len ≤ cap ∧ off + len ≤ I.len ∧ x = .slice (some ⟨g, off * I.size, none⟩) len (cap - off) := by
  obtain ⟨hle, a, cap, a', hv, hx, ha⟩ := h
  rcases ho.2 with ⟨e0, e1⟩ | ⟨g, cap', cur, e0, _, _, hnc, _⟩
  · omega
  · rw [hv] at e0
    simp only [Value.slice.injEq, true_and] at e0
    obtain ⟨rfl, rfl⟩ := e0
    refine ⟨g, cap, hv, hnc, hle, ?_⟩
    rw [hx, ha (.inl (by omega))]
    simp [Addr.add_lit]

theorem indexAt_arr {G : Cfg} {base : Nat} {bx0 : List Nat} {C : Ctx} {m : Mem} (M : MemOK G base bx0 C m) {t e : TypeId} (ht : G.elemT t = some e) {i k off len : Nat} {v : Value} (hv : RV C (.arr i k off len) v) (hk : m.ok i k = true) (he : (m.arrs i).elem = e)
    {n : Int} (hn : 0 ≤ n) (hlt : n.toNat < len) {kk : IntKind} (w : World) : ∃ u, (Instr.indexAt t v (.int kk n)).run G.P w = .ok u w ∧ RV C (.ael i k (off + n.toNat) 0) u := by
  have hv' := hv
  obtain ⟨I, xs, hI, hs, z1, z2, z3, z4, z5, z6⟩ := arr_rv M hv hk
  obtain ⟨g, cap, e1, e2, e3, rfl⟩ := sub_pos hs z5 (by omega)
  rw [he] at z1
  have hlt' : n < (len : Int) := by omega
  have hver : k ≤ C.ver i := by cases hv' with | arr _ _ _ _ _ _ hn hh => exact hn
  refine ⟨.pointer (some ⟨g, off * I.size + n.toNat * I.size, none⟩), ?_, ?_⟩
  · simp [Instr.indexAt, asIntOf, run_underlying (elemT_under ht), hn, hlt', csz_run z1, Addr.add_lit]
  · refine .ael i k _ 0 _ rfl hver ?_
    intro J hJ _
    rw [hI] at hJ
    cases hJ
    exact ⟨g, cap, e1, by rw [Nat.add_zero, Nat.add_mul]⟩

theorem indexAt_box {G : Cfg} {C : Ctx} {t : TypeId} {q : Nat × TypeId} (ht : G.arrT t = some q) {z : Nat} (hz : G.csz q.2 = some z) {k off : Nat} {v : Value} (hv : RV C (.box k off) v) {n : Int} (hn : 0 ≤ n) (hlt : n.toNat < q.1) {kk : IntKind} (w : World) :
    ∃ u, (Instr.indexAt t v (.int kk n)).run G.P w = .ok u w ∧ RV C (.box k (off + n.toNat * z)) u := by
  cases hv with
  | box _ _ b hb =>
    have hlt' : n < (q.1 : Int) := by omega
    refine ⟨.pointer (some ⟨b, off + n.toNat * z, none⟩), ?_, .box k _ b hb⟩
    simp [Instr.indexAt, asIntOf, run_underlying (arrT_under ht), Instr.sureAddr, hn, hlt', csz_run hz, Addr.add_lit]

theorem index_str {G : Cfg} {t : TypeId} (ht : G.isStr t = true) {s : ByteArray} {n : Int} (hn : 0 ≤ n) (hlt : n < s.size) {k : IntKind} (w : World) :
    (Instr.index t (.string s) (.int k n)).run G.P w = .ok (.int .u8 (bAt s n.toNat)) w := by
  have h1 : n.toNat < s.size := by omega
  have e : s[n.toNat]? = some s[n.toNat] := by simp [h1]
  have e2 : ((s[n.toNat]).toNat : Int) = bAt s n.toNat := by
    unfold bAt
    have : s.data.toList.getD n.toNat 0 = s[n.toNat] := by
      simp only [List.getD]
      rw [Array.getElem?_toList, Array.getElem?_eq_getElem (show n.toNat < s.data.size from h1)]
      rfl
    rw [this]
  simp [Instr.index, asIntOf, run_underlying (isStr_under ht), hn, e, e2]

theorem extract_run {C : Ctx} {vs : List AV} {v : Value} (hv : RV C (.tup vs) v) {k : Nat} {x : AV} (h : vs[k]? = some x) (P : Program) (w : World) : ∃ u, (Instr.extract v k).run P w = .ok u w ∧ RV C x u := by
  cases hv with
  | tup _ us hl hh =>
    have hk : k < us.size := by have := (List.getElem?_eq_some_iff.1 h).1; omega
    exact ⟨us[k], by simp [Instr.extract, hk], hh k x _ h (Array.getElem?_eq_getElem hk)⟩

theorem aun_run {C : Ctx} {op : UnOp} {a r : AV} {v : Value} (hv : RV C a v) (h : aun op a = some r) (P : Program) (w : World) : ∃ u, (Op.unary op v).run P w = .ok u w ∧ RV C r u := by
  unfold aun at h
  split at h
  · have := rv_v hv; subst this
    split at h
    · cases h; exact ⟨_, rfl, .v _⟩
    · cases h
  · have := rv_v hv; subst this
    split at h
    · cases h; exact ⟨_, rfl, .v _⟩
    · cases h
  · cases h

theorem apick_run {C : Ctx} {c a b r : AV} {vc va vb : Value} (hc : RV C c vc) (ha : RV C a va) (hb : RV C b vb) (h : apick c a b = some r) (P : Program) (w : World) :
    ∃ u, (do pure (.value (if ← asBool vc then va else vb)) : Sem Next).run P w = .ok (.value u) w ∧ RV C r u := by
  unfold apick at h
  split at h
  · rename_i t
    have := rv_v hc; subst this
    refine ⟨if t = true then va else vb, by cases t <;> rfl, ?_⟩
    split at h
    · have e1 := rv_v ha
      have e2 := rv_v hb
      subst e1 e2
      cases h
      cases t <;> exact .v _
    · cases h
      cases t
      · exact hb
      · exact ha
  · cases h

end Go.Proofs.YtokhnmchnfkiiaaDoor.Am

/- The abstract machine: arrays that are stored somewhere, parts of slices, strings of bytes. No conditions. -/
namespace Go.Proofs.YtokhnmchnfkiiaaDoor.Am
open Go Go.RowKit
set_option linter.unusedSimpArgs false
set_option linter.unusedVariables false

theorem Keeps.trans {C D E : Ctx} (h : Keeps C D) (k : Keeps D E) : Keeps C E := by
  refine ⟨Nat.le_trans h.size k.size, fun col b hb hn => k.N col b (Nat.lt_of_lt_of_le hb h.size) (h.N col b hb hn), ?_, fun q b hb => k.bx q b (h.bx q b hb), fun i => Nat.le_trans (h.ver i) (k.ver i), ?_, k.W.trans h.W, fun b hb hw => (h.wild b hb hw).trans (k.wild b (Nat.lt_of_lt_of_le hb h.size) (h.W.symm ▸ hw))⟩
  · rintro b hb ⟨col, hn⟩
    exact (k.block b (Nat.lt_of_lt_of_le hb h.size) ⟨col, h.N col b hb hn⟩).trans (h.block b hb ⟨col, hn⟩)
  · intro i I hI hv
    have h1 := h.ver i
    have h2 := k.ver i
    obtain ⟨J, hJ, e1, e2, e3⟩ := k.A i I hI (by omega)
    obtain ⟨L, hL, f1, f2, f3⟩ := h.A i J hJ (by omega)
    exact ⟨L, hL, f1.trans e1, f2.trans e2, f3.trans e3⟩

theorem Nxt.bind {G : Cfg} {base : Nat} {bx0 : List Nat} {C : Ctx} {w1 w2 : World} {m1 m2 : Mem} {R R' : Ctx → Prop} (h : Nxt G base bx0 C w1 m1 R)
    (k : ∀ C1, C1.w = w1 → C1.N0 = C.N0 → Keeps C C1 → MemOK G base bx0 C1 m1 → R C1 → Nxt G base bx0 C1 w2 m2 R') : Nxt G base bx0 C w2 m2 R' := by
  obtain ⟨C1, hw, hn, K, M, W, hR⟩ := h
  obtain ⟨C2, hw2, hn2, K2, M2, W2, hR2⟩ := k C1 hw hn K M hR
  exact ⟨C2, hw2, hn2.trans hn, K.trans K2, M2, W.trans (hw ▸ W2), hR2⟩

theorem Nxt.mono {G : Cfg} {base : Nat} {bx0 : List Nat} {C : Ctx} {w1 : World} {m1 : Mem} {R R' : Ctx → Prop} (h : Nxt G base bx0 C w1 m1 R) (k : ∀ C1, C1.w = w1 → Keeps C C1 → R C1 → R' C1) : Nxt G base bx0 C w1 m1 R' := by
  obtain ⟨C1, hw, hn, K, M, W, hR⟩ := h
  exact ⟨C1, hw, hn, K, M, W, k C1 hw K hR⟩

theorem Nxt.here {G : Cfg} {base : Nat} {bx0 : List Nat} {C : Ctx} {m : Mem} {R : Ctx → Prop} (M : MemOK G base bx0 C m) (hR : R C) : Nxt G base bx0 C C.w m R :=
  ⟨C, rfl, rfl, Keeps.refl C, M, WExt.refl _ _ _, hR⟩

def RVs (C : Ctx) (cs : List AV) (vs : List Value) : Prop := cs.length = vs.length ∧ ∀ (j : Nat) (c : AV) (x : Value), cs[j]? = some c → vs[j]? = some x → RV C c x

theorem RVs.keep {C D : Ctx} (K : Keeps C D) {cs : List AV} {vs : List Value} (h : RVs C cs vs) : RVs D cs vs := ⟨h.1, fun j c x a b => (h.2 j c x a b).keep K⟩
theorem RVs.nil (C : Ctx) : RVs C [] [] := ⟨rfl, fun j c x h => by simp at h⟩
theorem RVs.cons {C : Ctx} {c : AV} {x : Value} {cs : List AV} {vs : List Value} (h : RV C c x) (t : RVs C cs vs) : RVs C (c :: cs) (x :: vs) := by
  refine ⟨by simp [t.1], ?_⟩
  intro j d y h1 h2
  cases j with
  | zero => simp at h1 h2; subst h1 h2; exact h
  | succ j => exact t.2 j d y (by simpa using h1) (by simpa using h2)
theorem RVs.head {C : Ctx} {c : AV} {cs : List AV} {vs : List Value} (h : RVs C (c :: cs) vs) : ∃ x xs, vs = x :: xs ∧ RV C c x ∧ RVs C cs xs := by
  cases vs with
  | nil => have := h.1; simp at this
  | cons x xs => exact ⟨x, xs, rfl, h.2 0 c x rfl rfl, ⟨by simpa using h.1, fun j d y a b => h.2 (j + 1) d y (by simpa using a) (by simpa using b)⟩⟩
theorem RVs.append {C : Ctx} {cs ds : List AV} {vs us : List Value} (h : RVs C cs vs) (k : RVs C ds us) : RVs C (cs ++ ds) (vs ++ us) := by
  refine ⟨by simp [h.1, k.1], ?_⟩
  intro j c x h1 h2
  rw [List.getElem?_append] at h1 h2
  rw [← h.1] at h2
  split at h1
  · rename_i q
    rw [if_pos q] at h2
    exact h.2 j c x h1 h2
  · rename_i q
    rw [if_neg q] at h2
    exact k.2 _ c x h1 h2

theorem own_soft {C : Ctx} {base : Nat} {e : TypeId} {z n : Nat} {v : Value} {xs : List Value} (ho : C.w.ownsRow base e z v n xs) {g : Nat} (hg : v.ownBlock = some g) : soft C.w g := by
  rcases ho.2 with ⟨e0, _⟩ | ⟨g', cap, cur, e0, _, hcur, _⟩
  · rw [e0] at hg; cases hg
  · rw [e0] at hg
    cases hg
    exact ⟨cur, _, hcur⟩

/-- Part of an array of the call's own, as a list that is read alone. -/
theorem sl_of_own {C : Ctx} {base : Nat} {e : TypeId} {I : AInf} {xs : List Value} {es : List (List AV)} {off len : Nat} {x : Value} (hs : IsSub I off len x) (hlen : I.len = es.length) (hes : ∀ r ∈ es, r.length = I.size)
    (ho : C.w.ownsRow base e I.size I.val I.len xs) (hr : ∀ (i j : Nat) (r : List AV) (c : AV) (x : Value), i < len → es[off + i]? = some r → r[j]? = some c → xs[(off + i) * I.size + j]? = some x → RV C c x) (col : Bool)
    (hN : ∀ g, I.val.ownBlock = some g → ¬ C.N col g) : RV C (.sl col ((es.drop off).take len)) x ∧ (∃ a cap, x = .slice a len cap) := by
  have hll : ((es.drop off).take len).length = len := by
    have := hs.1
    simp
    omega
  by_cases h0 : len = 0
  · obtain ⟨_, a, cap, a', _, hx, _⟩ := hs
    subst h0
    simp only [List.take_zero]
    exact ⟨hx ▸ .sl0 _ _ _, _, _, hx⟩
  · obtain ⟨g, cap, hv, hnc, hle, rfl⟩ := sub_pos hs ho (by omega)
    refine ⟨?_, _, _, rfl⟩
    have hg := hN g (by rw [hv]; rfl)
    have hgs : g < C.w.heap.size := (ho.lt g (by rw [hv]; rfl)).2
    have key : RV C (.sl col ((es.drop off).take len)) (.slice (some ⟨g, off * I.size, none⟩) ((es.drop off).take len).length (cap - off)) := by
      refine .sl col _ g (off * I.size) I.size (cap - off) (fun i j => xs.getD ((off + i) * I.size + j) undef) ?_ ?_ hg (fun _ => own_soft ho (by rw [hv]; rfl)) hgs (by omega) ?_ ?_
      · intro e0
        rw [e0] at hll
        simp at hll
        omega
      · intro r hr'
        exact hes r (List.mem_of_mem_drop (List.mem_of_mem_take hr'))
      · intro i j r c hi hj
        rw [List.getElem?_take] at hi
        split at hi
        · rename_i hil
          rw [List.getElem?_drop] at hi
          have hrl := hes r (List.mem_of_getElem? hi)
          have hjl : j < I.size := by have := (List.getElem?_eq_some_iff.1 hj).1; omega
          have hlt : (off + i) * I.size + j < I.len * I.size := by
            have : (off + i + 1) * I.size ≤ I.len * I.size := Nat.mul_le_mul_right _ (by omega)
            rw [Nat.add_mul, Nat.one_mul] at this
            omega
          have hx : (off + i) * I.size + j < xs.length := by rw [ho.1]; exact hlt
          have ho' := ho
          rw [hv] at ho'
          have hc := ho'.cellAt _ hlt
          rw [List.getElem?_eq_getElem hx] at hc
          simp only [List.getD, List.getElem?_eq_getElem hx, Option.getD_some]
          rw [← hc]
          congr 2
          rw [Nat.add_mul]
        · cases hi
      · intro i j r c hi hj
        rw [List.getElem?_take] at hi
        split at hi
        · rename_i hil
          rw [List.getElem?_drop] at hi
          have hrl := hes r (List.mem_of_getElem? hi)
          have hjl : j < I.size := by have := (List.getElem?_eq_some_iff.1 hj).1; omega
          have hlt : (off + i) * I.size + j < I.len * I.size := by
            have : (off + i + 1) * I.size ≤ I.len * I.size := Nat.mul_le_mul_right _ (by omega)
            rw [Nat.add_mul, Nat.one_mul] at this
            omega
          have hx : (off + i) * I.size + j < xs.length := by rw [ho.1]; exact hlt
          simp only [List.getD, List.getElem?_eq_getElem hx, Option.getD_some]
          exact hr i j r c _ hil hi hj (List.getElem?_eq_getElem hx)
        · cases hi
    rw [hll] at key
    exact key

theorem seal_cells {G : Cfg} {base : Nat} {bx0 : List Nat} : ∀ (cs : List AV) (vs : List Value) {C : Ctx} {m : Mem}, MemOK G base bx0 C m → RVs C cs vs →
    Nxt G base bx0 C C.w (sealCells cs m).2 fun C' => RVs C' (sealCells cs m).1 vs
  | [], vs, C, m, M, h => by
    unfold sealCells
    exact Nxt.here M h
  | c :: cs, vs, C, m, M, h => by
    obtain ⟨x, xs, rfl, hx, ht⟩ := h.head
    have plain : ∀ (d : AV), (∀ C', Keeps C C' → RV C' d x) → Nxt G base bx0 C C.w (sealCells cs m).2 fun C' => RVs C' (d :: (sealCells cs m).1) (x :: xs) := by
      intro d hd
      exact (seal_cells cs xs M ht).mono fun C1 _ K hR => RVs.cons (hd C1 K) hR
    cases c with
    | arr i n off len =>
      simp only [sealCells]
      split
      · rename_i hk
        obtain ⟨I, ys, hI, hs, z1, z2, z3, z4, z5, z6⟩ := arr_rv M hx hk
        refine (Nxt.sealed M i (R := fun C' => RV C' (.sl false (((m.arrs i).es.drop off).take len)) x) ?_).bind ?_
        · intro C1 K hw hbx hN _ _
          refine (sl_of_own hs z3 z4 (hw.symm ▸ z5) (fun i' j r c y _ a b d => (z6 (off + i') j r c y a b d).keep K) false ?_).1
          intro g hg
          exact hN g I hI hg
        · intro C1 hw _ K M1 hR
          have := seal_cells cs xs M1 (ht.keep K)
          rw [hw] at this
          exact this.mono fun C2 _ K2 hR2 => RVs.cons (hR.keep K2) hR2
      · exact plain .dead fun C' _ => .dead _
    | _ =>
      simp only [sealCells]
      exact plain _ fun C' K => hx.keep K

end Go.Proofs.YtokhnmchnfkiiaaDoor.Am

/- The abstract machine: parts of slices, and what a slice's elements are. No conditions. -/
namespace Go.Proofs.YtokhnmchnfkiiaaDoor.Am
open Go Go.RowKit
set_option linter.unusedSimpArgs false
set_option linter.unusedVariables false

def RVo (C : Ctx) (a : Option AV) (v : Option Value) : Prop := (a = none ∧ v = none) ∨ ∃ x y, a = some x ∧ v = some y ∧ RV C x y

theorem bounds_run {C : Ctx} {lo hi : Option AV} {lov hiv : Option Value} (hlo : RVo C lo lov) (hhi : RVo C hi hiv) {len cap l h : Nat} (hcap : len ≤ cap) (b : Bool) (h1 : lowOf lo = some l) (h2 : upOf len hi = some h) (hle : l ≤ h) (P : Program) (w : World) :
    (Instr.sliceBounds b len cap lov hiv none).run P w = .ok (l, h, cap) w ∧ h ≤ len := by
  have low : ∀ code, (match lov with | some v => Instr.sliceBound v h code | none => pure 0 : Sem Nat).run P w = .ok l w := by
    intro code
    rcases hlo with ⟨rfl, rfl⟩ | ⟨x, y, rfl, rfl, hr⟩
    · simp only [lowOf, Option.some.injEq] at h1
      subst h1
      rfl
    · cases x <;> simp only [lowOf] at h1 <;> try (cases h1; done)
      have := rv_v hr
      subst this
      cases y <;> simp only at h1 <;> try (cases h1; done)
      rename_i k n
      split at h1
      · rename_i h0
        cases h1
        have : n ≤ (h : Int) := by omega
        simp [Instr.sliceBound, asIntOf, h0, this]
      · cases h1
  rcases hhi with ⟨rfl, rfl⟩ | ⟨x, y, rfl, rfl, hr⟩
  · simp only [upOf, Option.some.injEq] at h2
    subst h2
    have hl := low .sliceB
    refine ⟨?_, Nat.le_refl _⟩
    cases lov <;> simp_all [Instr.sliceBounds]
  · cases x <;> simp only [upOf] at h2 <;> try (cases h2; done)
    have := rv_v hr
    subst this
    cases y <;> simp only at h2 <;> try (cases h2; done)
    rename_i k n
    split at h2
    · rename_i h0
      cases h2
      have hc : n ≤ (cap : Int) := by omega
      refine ⟨?_, by omega⟩
      have hl := low .sliceB
      have hb : ∀ code, (Instr.sliceBound (.int k n) cap code).run P w = .ok n.toNat w := by
        intro code
        simp [Instr.sliceBound, asIntOf, h0.1, hc]
      cases lov <;> simp_all [Instr.sliceBounds]
    · cases h2

theorem addr_add (a : Addr) (m n : Nat) : (a.add m).add n = a.add (m + n) := by
  unfold Addr.add
  by_cases hm : m = 0
  · subst hm; simp
  · by_cases hn : n = 0
    · subst hn; simp
    · simp [hm, hn, Nat.add_assoc]

theorem own_cap {base : Nat} {w : World} {e : TypeId} {I : AInf} {xs : List Value} (ho : w.ownsRow base e I.size I.val I.len xs) {a : Option Addr} {cap : Nat} (hv : I.val = .slice a I.len cap) : I.len ≤ cap := by
  rcases ho.2 with ⟨e0, e1⟩ | ⟨g, cap', cur, e0, _, _, hnc, _⟩
  · omega
  · rw [hv] at e0
    simp only [Value.slice.injEq, true_and] at e0
    omega

theorem IsSub.sub {I : AInf} {off len : Nat} {x : Value} (h : IsSub I off len x) {base : Nat} {w : World} {e : TypeId} {xs : List Value} (ho : w.ownsRow base e I.size I.val I.len xs) {l k : Nat} (hk : l + k ≤ len) :
    ∃ a cap, x = .slice a len cap ∧ len ≤ cap ∧ IsSub I (off + l) k (.slice (if cap = l then a else a.map (·.add (l * I.size))) k (cap - l)) := by
  obtain ⟨hle, a, cap, a', hv, hx, ha⟩ := h
  have hcap := own_cap ho hv
  refine ⟨a', cap - off, hx, by omega, by omega, a, cap, _, hv, by rw [Nat.sub_add_eq], ?_⟩
  rintro (h1 | h1)
  · rw [if_neg (by omega), ha (.inl (by omega)), Option.map_map]
    congr 1
    funext q
    simp only [Function.comp]
    rw [addr_add, Nat.add_mul]
  · have h2 : off = 0 := by omega
    have h3 : l = 0 := by omega
    subst h2 h3
    have e := ha (.inr rfl)
    simp only [Nat.zero_mul, Nat.add_zero] at e ⊢
    split
    · exact e
    · rw [e, Option.map_map]
      congr 1

theorem IsSub.whole {I : AInf} {x : Value} (h : IsSub I 0 I.len x) : x = I.val := by
  obtain ⟨hle, a, cap, a', hv, hx, ha⟩ := h
  rw [hx, ha (.inr rfl), hv]
  simp [Addr.add]

theorem arr_ver {C : Ctx} {i n off len : Nat} {x : Value} (h : RV C (.arr i n off len) x) : n ≤ C.ver i := by
  cases h with
  | arr _ _ _ _ _ _ hn _ => exact hn

theorem aslice_run {G : Cfg} {base : Nat} {bx0 : List Nat} {C : Ctx} {m m' : Mem} (M : MemOK G base bx0 C m) {dst : Option Tmp} {t : TypeId} {x y : AV} {v : Value} (hx : RV C x v) {lo hi : Option AV} {lov hiv : Option Value} (hlo : RVo C lo lov) (hhi : RVo C hi hiv)
    (h : aslice G dst t m x lo hi = some (y, m')) : ∃ u, (Instr.sliceAt t v lov hiv none).run G.P C.w = .ok u C.w ∧ Nxt G base bx0 C C.w m' fun C' => RV C' y u := by
  unfold aslice at h
  split at h
  · rename_i s
    have := rv_v hx; subst this
    split at h
    · rename_i ht
      obtain ⟨l, h1, h⟩ := Option.bind_eq_some_iff.1 h
      obtain ⟨q, h2, h⟩ := Option.bind_eq_some_iff.1 h
      split at h
      · rename_i hle
        cases h
        have hu := isStr_under ht
        refine ⟨.string (s.extract l q), ?_, Nxt.here M (.v _)⟩
        simp [Instr.sliceAt, Instr.slice, run_underlying hu, (bounds_run hlo hhi (Nat.le_refl _) false h1 h2 hle G.P C.w).1]
      · cases h
    · cases h
  · rename_i col es
    obtain ⟨e, he, h⟩ := Option.bind_eq_some_iff.1 h
    obtain ⟨z, hz, h⟩ := Option.bind_eq_some_iff.1 h
    obtain ⟨l, h1, h⟩ := Option.bind_eq_some_iff.1 h
    obtain ⟨q, h2, h⟩ := Option.bind_eq_some_iff.1 h
    split at h
    · rename_i hle
      obtain ⟨hle, hall⟩ := hle
      cases h
      have hu := elemT_under he
      cases hx with
      | sl0 _ a cap =>
        have hb := bounds_run hlo hhi (len := 0) (cap := cap) (Nat.zero_le _) true h1 h2 hle G.P C.w
        have e1 : q = 0 := by have := hb.2; omega
        have e2 : l = 0 := by omega
        subst e1 e2
        refine ⟨_, by simp [Instr.sliceAt, Instr.slice, run_underlying hu, hb.1, csz_run hz]; rfl, Nxt.here M ?_⟩
        simp only [List.drop_nil, List.take_nil]
        exact .sl0 _ _ _
      | sl _ _ b off size cap f hne hs hN hz0 hb0 hcap hc hr =>
        obtain ⟨hb, hql⟩ := bounds_run hlo hhi (len := es.length) (cap := cap) hcap true h1 h2 hle G.P C.w
        have hsz : size = z := by
          cases es with
          | nil => exact absurd rfl hne
          | cons r rs =>
            have q1 := hs r (by simp)
            have q2 := List.all_eq_true.1 hall r (by simp)
            simp only [beq_iff_eq] at q2
            omega
        subst hsz
        have hlen : ((es.drop l).take (q - l)).length = q - l := by simp; omega
        refine ⟨.slice (if cap = l then some ⟨b, off, none⟩ else some ⟨b, off + l * size, none⟩) (q - l) (cap - l), ?_, Nxt.here M ?_⟩
        · simp [Instr.sliceAt, Instr.slice, run_underlying hu, hb, csz_run hz, Addr.add_lit]
        · by_cases h0 : q - l = 0
          · rw [h0, List.take_zero]
            exact .sl0 _ _ _
          · rw [if_neg (by omega)]
            have key : RV C (.sl col ((es.drop l).take (q - l))) (.slice (some ⟨b, off + l * size, none⟩) ((es.drop l).take (q - l)).length (cap - l)) := by
              refine .sl col _ b (off + l * size) size (cap - l) (fun i j => f (l + i) j) ?_ ?_ hN hz0 hb0 (by omega) ?_ ?_
              · intro e0; rw [e0] at hlen; simp at hlen; omega
              · intro r hr'; exact hs r (List.mem_of_mem_drop (List.mem_of_mem_take hr'))
              · intro i j r c hi hj
                rw [List.getElem?_take] at hi
                split at hi
                · rw [List.getElem?_drop] at hi
                  have := hc (l + i) j r c hi hj
                  rw [Nat.add_mul] at this
                  rw [← this]
                  congr 2
                  omega
                · cases hi
              · intro i j r c hi hj
                rw [List.getElem?_take] at hi
                split at hi
                · rw [List.getElem?_drop] at hi
                  exact hr (l + i) j r c hi hj
                · cases hi
            rw [hlen] at key
            exact key
    · cases h
  · obtain ⟨e, he, h⟩ := Option.bind_eq_some_iff.1 h
    obtain ⟨z, hz, h⟩ := Option.bind_eq_some_iff.1 h
    obtain ⟨l, h1, h⟩ := Option.bind_eq_some_iff.1 h
    obtain ⟨q, h2, h⟩ := Option.bind_eq_some_iff.1 h
    split at h
    · rename_i hle
      cases h
      have hu := elemT_under he
      cases hx with
      | nil a =>
        have hb := bounds_run hlo hhi (len := 0) (cap := 0) (Nat.le_refl _) true h1 h2 hle G.P C.w
        have e1 : q = 0 := by have := hb.2; omega
        have e2 : l = 0 := by omega
        subst e1 e2
        exact ⟨_, by simp [Instr.sliceAt, Instr.slice, run_underlying hu, hb.1, csz_run hz]; rfl, Nxt.here M (.nil _)⟩
    · cases h
  · rename_i i n off len
    split at h
    · rename_i hk
      obtain ⟨e, he, h3⟩ := Option.bind_eq_some_iff.1 h
      obtain ⟨z, hz, h4⟩ := Option.bind_eq_some_iff.1 h3
      obtain ⟨l, h1, h5⟩ := Option.bind_eq_some_iff.1 h4
      obtain ⟨q, h2, h6⟩ := Option.bind_eq_some_iff.1 h5
      clear h h3 h4 h5
      obtain ⟨I, xs, hI, hs, z1, z2, z3, z4, z5, z6⟩ := arr_rv M hx hk
      by_cases hcond : l ≤ q ∧ e = (m.arrs i).elem ∧ 0 < z
      · rw [if_pos hcond] at h6
        obtain ⟨hle, helem, hz0⟩ := hcond
        have hu := elemT_under he
        have hsz : z = I.size := by rw [helem, z1] at hz; exact (Option.some.inj hz).symm
        subst hsz
        have hql : q ≤ len := by
          obtain ⟨_, a, cap, a', _, hxv, _⟩ := hs
          have hle2 : len ≤ len := Nat.le_refl _
          exact (bounds_run hlo hhi (len := len) (cap := len) hle2 true h1 h2 hle G.P C.w).2
        obtain ⟨a, cap, hxv, hlc, hsub⟩ := hs.sub z5 (l := l) (k := q - l) (by omega)
        subst hxv
        obtain ⟨hb, _⟩ := bounds_run hlo hhi (len := len) (cap := cap) hlc true h1 h2 hle G.P C.w
        have hrun : (Instr.sliceAt t (.slice a len cap) lov hiv none).run G.P C.w = .ok (.slice (if cap = l then a else a.map (·.add (l * I.size))) (q - l) (cap - l)) C.w := by
          simp [Instr.sliceAt, Instr.slice, run_underlying hu, hb, csz_run hz]
        by_cases hd : (dst.map G.own).getD false = true
        · rw [if_pos hd] at h6
          by_cases hw : l = 0 ∧ off = 0 ∧ len = (m.arrs i).es.length
          · rw [if_pos hw] at h6
            obtain ⟨rfl, rfl, hlen⟩ := hw
            cases h6
            refine ⟨_, hrun, ?_⟩
            have hlI : len = I.len := by rw [hlen, z3]
            have hval : Value.slice a len cap = I.val := by rw [hlI] at hs ⊢; exact hs.whole
            have hsame : Value.slice (if cap = 0 then a else a.map (·.add (0 * I.size))) (q - 0) (cap - 0) = .slice a q cap := by
              have : a.map (fun x : Addr => x.add (0 * I.size)) = a := by cases a <;> simp [Addr.add]
              rw [this]
              simp
            rw [hsame]
            have hver : (m.arrs i).ver = n := (ok_parts hk).2
            have hblk : (Value.slice a q cap).ownBlock = I.val.ownBlock := by rw [← hval]; cases a <;> rfl
            have hown : C.w.ownsRow 0 e I.size (.slice a q cap) q (xs.take (q * I.size)) := by
              rw [← helem] at z5
              have hq : q ≤ I.len := by omega
              have hmul : q * I.size ≤ I.len * I.size := Nat.mul_le_mul_right _ hq
              refine ⟨by rw [List.length_take, z5.1]; omega, ?_⟩
              rcases z5.2 with ⟨e0, e1⟩ | ⟨g, cap', cur, e0, b1, b2, b3, b4, b5, b6⟩
              · rw [← hval] at e0
                simp only [Value.slice.injEq] at e0
                obtain ⟨rfl, _, rfl⟩ := e0
                have : q = 0 := by omega
                subst this
                exact .inl ⟨rfl, rfl⟩
              · rw [← hval] at e0
                simp only [Value.slice.injEq] at e0
                obtain ⟨rfl, _, rfl⟩ := e0
                refine .inr ⟨g, cap, cur, rfl, b1, b2, by omega, b4, b5, ?_⟩
                rw [← b6, List.take_take, Nat.min_eq_left hmul]
            refine Nxt.setArr M i C.w none ⟨rfl, rfl, rfl, Nat.le_refl _, fun _ _ _ => rfl⟩ (fun _ h => by cases h) ⟨I.size, q, .slice a q cap⟩ (xs.take (q * I.size)) e ((m.arrs i).es.take q) hz z2 (by simp; omega)
              (fun r hr => z4 r (List.mem_of_mem_take hr)) hown (fun g hg => .inr ⟨I, hI, by rw [← hblk]; exact hg⟩) ?_ ?_
            · intro idx j r c y hi hj hx'
              rw [List.getElem?_take] at hi hx'
              split at hi
              · split at hx'
                · exact z6 idx j r c y hi hj hx'
                · cases hx'
              · cases hi
            · intro C' K hw hbx hA hv
              refine .arr i (n + 1) 0 q _ rfl ?_ ?_
              · rw [hv, M.ver i, hver]; exact Nat.le_refl _
              · intro J hJ _
                rw [hA] at hJ
                cases hJ
                exact ⟨by simp, a, cap, a, rfl, rfl, fun _ => by cases a <;> simp [Addr.add]⟩
          · rw [if_neg hw] at h6; cases h6
        · rw [if_neg hd] at h6
          cases h6
          refine ⟨_, hrun, Nxt.here M ?_⟩
          refine .arr i n (off + l) (q - l) _ rfl (arr_ver hx) ?_
          intro J hJ _
          rw [hI] at hJ
          cases hJ
          exact hsub
      · rw [if_neg hcond] at h6; cases h6
    · cases h
  · cases h

/-- The elements of a slice, as the model holds them. -/
theorem elems_rv {G : Cfg} {base : Nat} {bx0 : List Nat} {C : Ctx} {m : Mem} (M : MemOK G base bx0 C m) {x : AV} {v : Value} (hx : RV C x v) {es : List (List AV)} (he : m.elems x = some es) {z : Nat} (hall : es.all (·.length == z) = true) :
    ∃ (a : Option Addr) (cap : Nat) (f : Nat → Nat → Value), v = .slice a es.length cap ∧ (∀ (i j : Nat) (r : List AV) (c : AV), es[i]? = some r → r[j]? = some c → RV C c (f i j)) ∧
      (es ≠ [] → ∃ b off, a = some ⟨b, off, none⟩ ∧ ∀ (i j : Nat) (r : List AV) (c : AV), es[i]? = some r → r[j]? = some c → C.w.cell? ⟨b, off + i * z + j, none⟩ = some (f i j)) := by
  cases x <;> simp only [Mem.elems] at he <;> try (cases he; done)
  · cases he
    cases hx with
    | sl0 _ a cap => exact ⟨a, cap, fun _ _ => undef, rfl, by simp, by simp⟩
    | sl _ _ b off size cap f hne hs hN hz0 hb0 hcap hc hr =>
      have hsz : size = z := by
        cases es with
        | nil => exact absurd rfl hne
        | cons r rs =>
          have q1 := hs r (by simp)
          have q2 := List.all_eq_true.1 hall r (by simp)
          simp only [beq_iff_eq] at q2
          omega
      subst hsz
      exact ⟨_, cap, f, rfl, hr, fun _ => ⟨b, off, rfl, hc⟩⟩
  · cases he
    cases hx with
    | nil a => exact ⟨a, 0, fun _ _ => undef, rfl, by simp, by simp⟩
  · rename_i i n off len
    split at he
    · rename_i hk
      cases he
      obtain ⟨I, xs, hI, hs, z1, z2, z3, z4, z5, z6⟩ := arr_rv M hx hk
      obtain ⟨_, a0, cap0, a', _, hv0, _⟩ := id hs
      have hlen : (((m.arrs i).es.drop off).take len).length = len := by
        have := hs.1
        simp
        omega
      refine ⟨a', cap0 - off, fun p q => xs.getD ((off + p) * I.size + q) undef, by rw [hlen]; exact hv0, ?_, ?_⟩
      · intro p q r c hp hq
        rw [List.getElem?_take] at hp
        split at hp
        · rw [List.getElem?_drop] at hp
          have hrl := z4 r (List.mem_of_getElem? hp)
          have hql : q < I.size := by have := (List.getElem?_eq_some_iff.1 hq).1; omega
          have hpl := (List.getElem?_eq_some_iff.1 hp).1
          have hlt : (off + p) * I.size + q < I.len * I.size := by
            have : (off + p + 1) * I.size ≤ I.len * I.size := Nat.mul_le_mul_right _ (by omega)
            rw [Nat.add_mul, Nat.one_mul] at this
            omega
          have hxl : (off + p) * I.size + q < xs.length := by rw [z5.1]; exact hlt
          simp only [List.getD, List.getElem?_eq_getElem hxl, Option.getD_some]
          exact z6 (off + p) q r c _ hp hq (List.getElem?_eq_getElem hxl)
        · cases hp
      · intro hne
        have hpos : 0 < len := by
          rcases Nat.eq_zero_or_pos len with h0 | h0
          · rw [h0, List.take_zero] at hne; exact absurd rfl hne
          · exact h0
        obtain ⟨g, cap, e1, e2, e3, e4⟩ := sub_pos hs z5 hpos
        rw [hv0] at e4
        simp only [Value.slice.injEq] at e4
        refine ⟨g, off * I.size, e4.1, ?_⟩
        intro p q r c hp hq
        rw [List.getElem?_take] at hp
        split at hp
        · rw [List.getElem?_drop] at hp
          have hrl := z4 r (List.mem_of_getElem? hp)
          have hrz : r.length = z := by
            have := List.all_eq_true.1 hall r (List.mem_of_getElem? (i := p) (by rw [List.getElem?_take, if_pos (by assumption), List.getElem?_drop]; exact hp))
            simpa using this
          have hzz : z = I.size := by omega
          subst hzz
          have hql : q < I.size := by have := (List.getElem?_eq_some_iff.1 hq).1; omega
          have hpl := (List.getElem?_eq_some_iff.1 hp).1
          have hlt : (off + p) * I.size + q < I.len * I.size := by
            have : (off + p + 1) * I.size ≤ I.len * I.size := Nat.mul_le_mul_right _ (by omega)
            rw [Nat.add_mul, Nat.one_mul] at this
            omega
          have hxl : (off + p) * I.size + q < xs.length := by rw [z5.1]; exact hlt
          have ho := z5
          rw [e1] at ho
          have hc := ho.cellAt _ hlt
          rw [List.getElem?_eq_getElem hxl] at hc
          simp only [List.getD, List.getElem?_eq_getElem hxl, Option.getD_some]
          rw [← hc]
          congr 2
          rw [Nat.add_mul]
        · cases hp
    · cases he

end Go.Proofs.YtokhnmchnfkiiaaDoor.Am
