/- The abstract machine: addresses, parts of structs and of slices, new memory. No conditions. -/
import Derived.Test.YtbmfoijakgccgaaAmF
namespace Go.Proofs.Ytbmfoijakgccgaa.Am
open Go Go.RowKit
set_option linter.unusedSimpArgs false
set_option linter.unusedVariables false

theorem part_run {G : Cfg} {C : Ctx} {t : TypeId} {cs : List AV} {vs : Array Value} {off : Nat} (hl : cs.length = vs.size) (hh : ∀ (j : Nat) (c : AV) (x : Value), cs[j]? = some c → vs[j]? = some x → RV C c x) {x : AV} (h : G.loadOf t (cs.drop off) = some x) (w : World) :
    ∃ v, (part t vs off).run G.P w = .ok v w ∧ RV C x v := by
  unfold Cfg.loadOf at h
  split at h
  · rename_i ha
    cases hn : G.csz t with
    | none => simp [hn] at h
    | some n =>
      simp only [hn, Option.bind_some] at h
      split at h
      · rename_i hle
        cases h
        refine ⟨.agg (vs.extract off (off + n)), by simp [part, isAg_run ha, csz_run hn], ?_⟩
        simp only [List.length_drop] at hle
        refine .agg _ _ (by simp; omega) ?_
        intro j c u hc hu
        rw [List.getElem?_take] at hc
        split at hc
        · rename_i hj
          rw [List.getElem?_drop] at hc
          refine hh (off + j) c u hc ?_
          rw [Array.getElem?_extract] at hu
          split at hu
          · exact hu
          · cases hu
        · cases hc
      · cases h
  · rename_i ha
    cases hd : cs.drop off with
    | nil => simp [hd] at h
    | cons c r =>
      simp only [hd, List.head?_cons, Option.some.injEq] at h
      subst h
      have hc : cs[off]? = some c := by
        have := congrArg (·[0]?) hd
        simpa using this
      have hlt : off < vs.size := by have := (List.getElem?_eq_some_iff.1 hc).1; omega
      refine ⟨vs[off], ?_, hh off c _ hc (Array.getElem?_eq_getElem hlt)⟩
      simp [part, isAg_run ha, hlt]
  · cases h

theorem field_run {G : Cfg} {C : Ctx} {t : TypeId} {f : Nat} {q : Nat × TypeId} (hq : G.foff t f = some q) {cs : List AV} {v : Value} (hv : RV C (.agg cs) v) {x : AV} (h : G.loadOf q.2 (cs.drop q.1) = some x) (w : World) :
    ∃ u, (Instr.field t v f).run G.P w = .ok u w ∧ RV C x u := by
  obtain ⟨fs, fx, hu, hx, h1, h2⟩ := foff_under hq
  cases hv with
  | agg _ vs hl hh =>
    obtain ⟨u, hu', hr⟩ := part_run hl hh h w
    refine ⟨u, ?_, hr⟩
    simp [Instr.field, run_underlying hu, hx, h1, h2, asAgg, hu']

theorem fieldAt_run {G : Cfg} {t : TypeId} {f : Nat} {q : Nat × TypeId} (hq : G.foff t f = some q) {z : Nat} (hz : G.csz q.2 = some z) (h0 : 0 < z) (b off : Nat) (w : World) :
    (Instr.fieldAt t (.pointer (some ⟨b, off, none⟩)) f).run G.P w = .ok (.pointer (some ⟨b, off + q.1, none⟩)) w := by
  obtain ⟨fs, fx, hu, hx, h1, h2⟩ := foff_under hq
  have hz' : (sizeOf fx.type).run G.P w = .ok z w := by rw [h2]; exact csz_run hz w
  have hne : ¬ z = 0 := by omega
  simp [Instr.fieldAt, run_underlying hu, hx, Instr.sureAddr, fieldPlace, hz', hne, Addr.add_lit, h1]

theorem ptr_off {C : Ctx} {p : AV} {v : Value} (h : RV C p v) (n : Nat) :
    (∀ k off, p = .box k off → ∃ b, v = .pointer (some ⟨b, off, none⟩) ∧ RV C (.box k (off + n)) (.pointer (some ⟨b, off + n, none⟩))) ∧
    (∀ c cs, p = .el c cs → ∃ b off, v = .pointer (some ⟨b, off, none⟩) ∧ RV C (.el c (cs.drop n)) (.pointer (some ⟨b, off + n, none⟩))) := by
  refine ⟨?_, ?_⟩
  · rintro k off rfl
    cases h with
    | box _ _ b hb => exact ⟨b, rfl, .box k (off + n) b hb⟩
  · rintro c cs rfl
    cases h with
    | el _ _ b off f hN hb h1 h2 =>
      refine ⟨b, off, rfl, .el c (cs.drop n) b (off + n) (fun j => f (n + j)) hN hb ?_ ?_⟩
      · intro j c hc
        rw [List.getElem?_drop] at hc
        rw [Nat.add_assoc]
        exact h1 _ c hc
      · intro j c hc
        rw [List.getElem?_drop] at hc
        exact h2 _ c hc

theorem indexAt_sl {G : Cfg} {C : Ctx} {t e : TypeId} (ht : G.elemT t = some e) {z : Nat} (hz : G.csz e = some z) {col : Bool} {es : List (List AV)} {v : Value} (hv : RV C (.sl col es) v) {n : Int} (hn : 0 ≤ n) {cs : List AV} (hc : es[n.toNat]? = some cs)
    (hall : es.all (·.length == z) = true) {k : IntKind} (w : World) : ∃ u, (Instr.indexAt t v (.int k n)).run G.P w = .ok u w ∧ RV C (.el col cs) u := by
  cases hv with
  | sl0 => simp at hc
  | sl _ _ b off size cap f hne hs hN hb hcap h1 h2 =>
    have hi : n.toNat < es.length := (List.getElem?_eq_some_iff.1 hc).1
    have hsz : size = z := by
      have q1 := hs cs (List.mem_of_getElem? hc)
      have q2 := List.all_eq_true.1 hall cs (List.mem_of_getElem? hc)
      simp only [beq_iff_eq] at q2
      omega
    subst hsz
    have hlt : n < (es.length : Int) := by omega
    refine ⟨.pointer (some ⟨b, off + n.toNat * size, none⟩), ?_, ?_⟩
    · simp [Instr.indexAt, asIntOf, run_underlying (elemT_under ht), hn, hlt, csz_run hz, Addr.add_lit]
    · exact .el col cs b _ (f n.toNat) hN hb (fun j c hj => h1 _ j cs c hc hj) (fun j c hj => h2 _ j cs c hc hj)

theorem sub_pos {I : AInf} {off len : Nat} {x : Value} (h : IsSub I off len x) {base : Nat} {w : World} {e : TypeId} {xs : List Value} (ho : w.ownsRow base e I.size I.val I.len xs) (hl : 0 < len) :
    ∃ g cap, I.val = .slice (some ⟨g, 0, none⟩) I.len cap ∧ I.len ≤ cap ∧ off + len ≤ I.len ∧ x = .slice (some ⟨g, off * I.size, none⟩) len (cap - off) := by
  obtain ⟨hle, a, cap, a', hv, hx, ha⟩ := h
  rcases ho.2 with ⟨e0, e1⟩ | ⟨g, cap', cur, e0, _, _, hnc, _⟩
  · omega
  · rw [hv] at e0
    simp only [Value.slice.injEq, true_and] at e0
    obtain ⟨rfl, rfl⟩ := e0
    refine ⟨g, cap, hv, hnc, hle, ?_⟩
    rw [hx, ha (.inl (by omega))]
    simp [Addr.add_lit]

theorem indexAt_arr {G : Cfg} {base : Nat} {bx0 : List Nat} {C : Ctx} {m : Mem} (M : MemOK G base bx0 C m) {t e : TypeId} (ht : G.elemT t = some e) {i k off len : Nat} {v : Value} (hv : RV C (.arr i k off len) v) (hk : m.ok i k = true) (he : (m.arrs i).elem = e)
    {n : Int} (hn : 0 ≤ n) (hlt : n.toNat < len) {kk : IntKind} (w : World) : ∃ u, (Instr.indexAt t v (.int kk n)).run G.P w = .ok u w ∧ RV C (.ael i k (off + n.toNat) 0) u := by
  have hv' := hv
  obtain ⟨I, xs, hI, hs, z1, z2, z3, z4, z5, z6⟩ := arr_rv M hv hk
  obtain ⟨g, cap, e1, e2, e3, rfl⟩ := sub_pos hs z5 (by omega)
  rw [he] at z1
  have hlt' : n < (len : Int) := by omega
  have hver : k ≤ C.ver i := by cases hv' with | arr _ _ _ _ _ _ hn hh => exact hn
  refine ⟨.pointer (some ⟨g, off * I.size + n.toNat * I.size, none⟩), ?_, ?_⟩
  · simp [Instr.indexAt, asIntOf, run_underlying (elemT_under ht), hn, hlt', csz_run z1, Addr.add_lit]
  · refine .ael i k _ 0 _ rfl hver ?_
    intro J hJ _
    rw [hI] at hJ
    cases hJ
    exact ⟨g, cap, e1, by rw [Nat.add_zero, Nat.add_mul]⟩

theorem indexAt_box {G : Cfg} {C : Ctx} {t : TypeId} {q : Nat × TypeId} (ht : G.arrT t = some q) {z : Nat} (hz : G.csz q.2 = some z) {k off : Nat} {v : Value} (hv : RV C (.box k off) v) {n : Int} (hn : 0 ≤ n) (hlt : n.toNat < q.1) {kk : IntKind} (w : World) :
    ∃ u, (Instr.indexAt t v (.int kk n)).run G.P w = .ok u w ∧ RV C (.box k (off + n.toNat * z)) u := by
  cases hv with
  | box _ _ b hb =>
    have hlt' : n < (q.1 : Int) := by omega
    refine ⟨.pointer (some ⟨b, off + n.toNat * z, none⟩), ?_, .box k _ b hb⟩
    simp [Instr.indexAt, asIntOf, run_underlying (arrT_under ht), Instr.sureAddr, hn, hlt', csz_run hz, Addr.add_lit]

theorem index_str {G : Cfg} {t : TypeId} (ht : G.isStr t = true) {s : ByteArray} {n : Int} (hn : 0 ≤ n) (hlt : n < s.size) {k : IntKind} (w : World) :
    (Instr.index t (.string s) (.int k n)).run G.P w = .ok (.int .u8 (bAt s n.toNat)) w := by
  have h1 : n.toNat < s.size := by omega
  have e : s[n.toNat]? = some s[n.toNat] := by simp [h1]
  have e2 : ((s[n.toNat]).toNat : Int) = bAt s n.toNat := by
    unfold bAt
    have : s.data.toList.getD n.toNat 0 = s[n.toNat] := by
      simp only [List.getD]
      rw [Array.getElem?_toList, Array.getElem?_eq_getElem (show n.toNat < s.data.size from h1)]
      rfl
    rw [this]
  simp [Instr.index, asIntOf, run_underlying (isStr_under ht), hn, e, e2]

theorem extract_run {C : Ctx} {vs : List AV} {v : Value} (hv : RV C (.tup vs) v) {k : Nat} {x : AV} (h : vs[k]? = some x) (P : Program) (w : World) : ∃ u, (Instr.extract v k).run P w = .ok u w ∧ RV C x u := by
  cases hv with
  | tup _ us hl hh =>
    have hk : k < us.size := by have := (List.getElem?_eq_some_iff.1 h).1; omega
    exact ⟨us[k], by simp [Instr.extract, hk], hh k x _ h (Array.getElem?_eq_getElem hk)⟩

theorem aun_run {C : Ctx} {op : UnOp} {a r : AV} {v : Value} (hv : RV C a v) (h : aun op a = some r) (P : Program) (w : World) : ∃ u, (Op.unary op v).run P w = .ok u w ∧ RV C r u := by
  unfold aun at h
  split at h
  · have := rv_v hv; subst this
    split at h
    · cases h; exact ⟨_, rfl, .v _⟩
    · cases h
  · have := rv_v hv; subst this
    split at h
    · cases h; exact ⟨_, rfl, .v _⟩
    · cases h
  · cases h

theorem apick_run {C : Ctx} {c a b r : AV} {vc va vb : Value} (hc : RV C c vc) (ha : RV C a va) (hb : RV C b vb) (h : apick c a b = some r) (P : Program) (w : World) :
    ∃ u, (do pure (.value (if ← asBool vc then va else vb)) : Sem Next).run P w = .ok (.value u) w ∧ RV C r u := by
  unfold apick at h
  split at h
  · rename_i t
    have := rv_v hc; subst this
    refine ⟨if t = true then va else vb, by cases t <;> rfl, ?_⟩
    split at h
    · have e1 := rv_v ha
      have e2 := rv_v hb
      subst e1 e2
      cases h
      cases t <;> exact .v _
    · cases h
      cases t
      · exact hb
      · exact ha
  · cases h

end Go.Proofs.Ytbmfoijakgccgaa.Am
