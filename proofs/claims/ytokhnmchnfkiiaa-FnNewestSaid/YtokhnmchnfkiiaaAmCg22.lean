import Derived.Test.YtokhnmchnfkiiaaAmCg21
import Derived.Test.YtokhnmchnfkiiaaAmCg3
import Derived.Test.YtokhnmchnfkiiaaAmCg2
import Derived.Test.YtokhnmchnfkiiaaAmCg9
/- Draws: a catalog. No conditions. -/
namespace Go.Proofs.Ytokhnmchnfkiiaa.Am
open Go Go.RowKit Go.Proofs
set_option linter.unusedSimpArgs false
set_option linter.unusedVariables false

/-- A catalog in an array of the call's own. -/
def CtR (m' : Mem) (r : AV) : Prop := ∃ (c : List Pk) (pl v : Nat) (e : TypeId) (es : List (List AV)), r = .arr pl v 0 es.length ∧ m'.arrs pl = ⟨v, true, e, es⟩ ∧ ImpR es (c.map (Pk.cells false)) ∧ c.length ≤ 25 ∧ (∀ p ∈ c, DPk p) ∧ (3000 ≤ pl ∧ pl < 4000)
theorem ctR0 {m' : Mem} {pl v : Nat} {e : TypeId} {es : List (List AV)} {n : Nat} (c : List Pk) (h1 : m'.arrs pl = ⟨v, true, e, es⟩) (h2 : ImpR es (c.map (Pk.cells false))) (hn : n = es.length) (h3 : c.length ≤ 25) (h4 : ∀ p ∈ c, DPk p) (h5 : 3000 ≤ pl ∧ pl < 4000) : CtR m' (.arr pl v 0 n) := ⟨c, pl, v, e, es, by rw [hn], h1, h2, h3, h4, h5⟩

section
variable (l : List Int) (hb : Byt l) (m : Mem) (k : Nat) (a : Int) (hk : m.boxes[k]? = some (srcB l a)) (h0 : 0 ≤ a)
include hb hk h0

/-- A drawn package, bent now and then, its slices let go. -/
theorem i_bentPack (h1 : a + 140 ≤ 1000000) : ICall Try.prog m 90 [.box k 0] (fun r m' => (∃ p : Pk, r = .agg (p.cells false) ∧ DPk p) ∧ ∃ a', (a ≤ a' ∧ a' ≤ a + 140) ∧ At l k a' m m' ∧ ∀ j, j < 1000 ∨ 3000 ≤ j → m'.arrs j = m.arrs j) := by
  refine icall_seal (i_bentPack0 l hb m k a hk h0 h1) ?_
  rintro r m' ⟨⟨p, X, Y, Z, q1, q2, q3, rfl, hp, hX, hY, hZ, ⟨d1, d2, d3⟩, z1, z2, z3⟩, a', ha, hA, he⟩
  obtain ⟨cs, m2, e1, e2, e3, e4⟩ := seal_pk hX hY hZ d1 d2 d3
  refine ⟨_, p.cells false, rfl, by rw [e1]; exact e2, ⟨p, rfl, hp⟩, a', ha, ?_, ?_⟩
  · rw [e1]
    exact hA.boxes e3
  · intro j hj
    rw [e1]
    exact (e4 j (by omega) (by omega) (by omega)).trans (he j hj)

set_option maxHeartbeats 32000000 in
set_option maxRecDepth 20000 in
theorem i_catalog0 (h1 : a + 1200 ≤ 1000000) : ICall Try.prog m 43 [.box k 0] (fun r m' => CtR m' r ∧ ∃ a', (a ≤ a' ∧ a' ≤ a + 1200) ∧ At l k a' m m' ∧ ∀ j, j < 1000 ∨ 4000 ≤ j → m'.arrs j = m.arrs j) := by
  have kl := isBox hk
  have r0 : List.range 0 = [] := rfl
  have r1 : List.range 1 = [0] := rfl
  have r7 : List.range 7 = [0, 1, 2, 3, 4, 5, 6] := rfl
  refine icode (md := 3000) (o := fun t => t == 6) (by decide) (by decide) Try.func43 rfl (by decide) (by simp [Try.f43]) ?_
  simp only [Try.f43, Gd]
  simp [r0, sealRows, sealCells, Mem.made]
  refine call_ic (i_next l hb ⟨m.boxes, fun j => if j = 3006 then ⟨(m.arrs 3006).ver + 1, true, 38, []⟩ else m.arrs j⟩ k a hk h0 (by omega) 12 (by decide) (by decide)) rfl (by simp) (icok (by decide) (by decide)) ?_
  rintro r m1 ⟨⟨v1, rfl, u1, u2⟩, a1, ⟨g1, g2⟩, A1, e1⟩
  have A1' : At l k a1 m m1 := ((At.refl hk).arr _).trans A1
  simp [r7, sealRows, sealCells]
  refine call_ic (i_pick l hb m1 k a1 A1.src (by omega) (by omega) false [3, 4, 5, 6, 7, 8, v1] (by simp) (by simp)) rfl (by simp) (icok (by decide) (by decide)) ?_
  rintro r m2 ⟨⟨c0, rfl, hc0⟩, a2, ⟨g3, g4⟩, A2, e2⟩
  have hc : 0 ≤ c0 ∧ c0 ≤ 11 := by simp at hc0; omega
  have A2' : At l k a2 m m2 := A1'.trans A2
  have e2' : m2.arrs = fun j => if j = 3006 then ⟨(m.arrs 3006).ver + 1, true, 38, []⟩ else m.arrs j := e2.trans e1
  have c2 : m2.arrs 3006 = ⟨(m.arrs 3006).ver + 1, true, 38, []⟩ := by rw [e2']; simp
  have f2 : ∀ j, j < 1000 ∨ 4000 ≤ j → m2.arrs j = m.arrs j := fun j hj => by
    have j1 : j ≠ 3006 := by omega
    rw [e2']
    simp [j1]
  simp
  refine aloop (α := Int × Int × List Pk × Nat × Mem) (fun d => ⟨envOf [(0, .box k 0), (3, .arr 3006 d.2.2.2.1 0 d.2.2.1.length), (4, .v (.int .i64 d.1))], d.2.2.2.2⟩)
    (fun d => (0 ≤ d.1 ∧ d.1 + d.2.2.1.length ≤ 11) ∧ (a2 ≤ d.2.1 ∧ d.2.1 + 90 * d.1 ≤ a2 + 990) ∧ (∀ p ∈ d.2.2.1, DPk p) ∧ At l k d.2.1 m d.2.2.2.2 ∧ d.2.2.2.2.arrs 3006 = ⟨d.2.2.2.1, true, 38, d.2.2.1.map (Pk.cells false)⟩ ∧ ∀ j, j < 1000 ∨ 4000 ≤ j → d.2.2.2.2.arrs j = m.arrs j)
    (fun d => d.1.toNat) (c0, a2, [], (m.arrs 3006).ver + 1, m2) (less_envOf (by simp) rfl fun _ => rfl) ⟨by simp; omega, by simp; omega, by simp, A2', c2, f2⟩ ?_
  rintro ⟨cn, av, c, v, mm⟩ ⟨⟨h2, h3⟩, ⟨h4, h5⟩, hcp, WW, cc, ee⟩
  simp only at h2 h3 h4 h5 hcp WW cc ee ⊢
  have hw : IntKind.i64.wrap (cn - 1) = cn - 1 := IntWalk.i64_in _ (by omega)
  have hlen : (c.map (Pk.cells false)).length = c.length := List.length_map _
  by_cases hlt : 0 < cn
  · simp [hlt]
    refine call_ic (i_packS l hb mm k av WW.src (by omega) (by omega)) rfl (by simp) (icok (by decide) (by decide)) ?_
    rintro r n1 ⟨⟨p, rfl, hp⟩, b1, ⟨x1, x2⟩, B1, f1⟩
    have k1 : n1.arrs 3006 = ⟨v, true, 38, c.map (Pk.cells false)⟩ := by rw [f1 3006 (by omega), cc]
    have W1 := WW.trans B1
    have q1 : ∀ x : List AV, (n1.boxes ++ [x])[n1.boxes.length]? = some x := fun x => by simp
    simp [k1, q1]
    refine call_p (p_find true false c (by omega) p.n p.v) (by simp) ?_
    obtain ⟨ix, hix⟩ : ∃ ix, ix = idxQ (isPk p.n p.v) c 0 := ⟨_, rfl⟩
    rw [← hix]
    have hb120 : (c.length + 1) * 120 ≤ 140737488355328 := by omega
    by_cases hi : ix < 0
    · simp [hi, k1, q1, r1, sealRows, sealCells, aappend, hb120]
      refine ⟨cn - 1, b1, c ++ [p], v + 1, _, less_all (by simp [hw]), ⟨⟨by omega, by simp; omega⟩, ⟨by omega, by omega⟩, ?_, W1.app _ _, by simp, fun j hj => ?_⟩, by omega⟩
      · intro q hq
        rcases List.mem_append.1 hq with hq | hq
        · exact hcp q hq
        · simp only [List.mem_singleton] at hq
          subst hq
          exact hp
      · have j1 : j ≠ 3006 := by omega
        simp [j1]
        rw [f1 j (by omega)]
        exact ee j hj
    · simp [hi, k1]
      refine ⟨cn - 1, b1, c, v, _, less_all (by simp [hw]), ⟨⟨by omega, by omega⟩, ⟨by omega, by omega⟩, hcp, W1.app _ _, by simp [k1], fun j hj => ?_⟩, by omega⟩
      show n1.arrs j = _
      rw [f1 j (by omega)]
      exact ee j hj
  · simp [hlt]
    refine call_ic (i_next l hb mm k av WW.src (by omega) (by omega) 40 (by decide) (by decide)) rfl (by simp) (icok (by decide) (by decide)) ?_
    rintro r n1 ⟨⟨w, rfl, _, _⟩, b1, ⟨x1, x2⟩, B1, f1⟩
    have k1 : n1.arrs 3006 = ⟨v, true, 38, c.map (Pk.cells false)⟩ := by rw [f1, cc]
    have W1 := WW.trans B1
    have f1' : ∀ j, j < 1000 ∨ 4000 ≤ j → n1.arrs j = m.arrs j := fun j hj => by rw [f1]; exact ee j hj
    have hb120 : (c.length + 1) * 120 ≤ 140737488355328 := by omega
    by_cases w0 : w = 0
    · subst w0
      simp
      refine call_ic (i_bentPack l hb n1 k b1 W1.src (by omega) (by omega)) rfl (by simp) (icok (by decide) (by decide)) ?_
      rintro r n2 ⟨⟨p, rfl, hp⟩, b2, ⟨x3, x4⟩, B2, f2⟩
      have k2 : n2.arrs 3006 = ⟨v, true, 38, c.map (Pk.cells false)⟩ := by rw [f2 3006 (by omega), k1]
      simp [k2, r1, sealRows, sealCells, aappend, hb120]
      refine kice_x ?_
      simp
      refine ⟨ctR0 (e := 38) (c ++ [p]) (by simp) (impR_refl _) (by simp) (by simp; omega) ?_ (by decide), b2, ⟨by omega, by omega⟩, (W1.trans B2).arr _, fun j hj => ?_⟩
      · intro q hq
        rcases List.mem_append.1 hq with hq | hq
        · exact hcp q hq
        · simp only [List.mem_singleton] at hq
          subst hq
          exact hp
      · have j1 : j ≠ 3006 := by omega
        simp [j1]
        rw [f2 j (by omega)]
        exact f1' j hj
    by_cases w1 : w = 1
    · subst w1
      cases c with
      | nil =>
        simp [k1]
        refine kice_x ?_
        simp
        exact ⟨ctR0 [] k1 (impR_refl _) (by simp) (by simp) (by simp) (by decide), b1, ⟨by omega, by omega⟩, W1, f1'⟩
      | cons p c =>
        have hl : (0 : Int) < (c.length : Int) + 1 := by omega
        simp only [List.length_cons] at *
        simp [k1, hl, r1, sealRows, sealCells, aappend, hb120]
        refine kice_x ?_
        simp
        refine ⟨ctR0 (e := 38) (p :: c ++ [p]) (by simp) (impR_refl _) (by simp) (by simp; omega) ?_ (by decide), b1, ⟨by omega, by omega⟩, W1.arr _, fun j hj => ?_⟩
        · intro q hq
          rcases List.mem_append.1 hq with hq | hq
          · exact hcp q hq
          · simp only [List.mem_singleton] at hq
            subst hq
            exact hcp _ (by simp)
        · have j1 : j ≠ 3006 := by omega
          simp [j1]
          exact f1' j hj
    by_cases w2 : w = 2
    · subst w2
      simp [Mem.made]
      refine kice_x ?_
      simp
      refine ⟨ctR0 (e := 38) (es := List.replicate 25 [.v (.string ByteArray.empty), .v (.int .i64 0), .v (.int .i64 0), .v (.int .i64 0), .v (.int .i64 0), .nil, .nil, .nil]) (List.replicate 25 (⟨ByteArray.empty, ⟨0, 0, 0⟩, 0, [], [], []⟩ : Pk)) (by simp) ?_ (by simp) (by simp) ?_ (by decide), b1, ⟨by omega, by omega⟩, W1.arr _, fun j hj => ?_⟩
      · rw [List.map_replicate]
        refine impR_rep 25 rfl ?_
        intro j c d h4 h5
        match j with
        | 0 => cases h4; cases h5; exact imp_refl _
        | 1 => cases h4; cases h5; exact imp_refl _
        | 2 => cases h4; cases h5; exact imp_refl _
        | 3 => cases h4; cases h5; exact imp_refl _
        | 4 => cases h4; cases h5; exact imp_refl _
        | 5 => cases h4; cases h5; exact imp_nil false
        | 6 => cases h4; cases h5; exact imp_nil false
        | 7 => cases h4; cases h5; exact imp_nil false
        | j + 8 => simp at h4
      · intro p hp
        have := List.eq_of_mem_replicate hp
        subst this
        exact ⟨by simp, by simp, by simp, by simp⟩
      · have j1 : j ≠ 3051 := by omega
        simp [j1]
        exact f1' j hj
    · simp [w0, w1, w2]
      refine kice_x ?_
      simp
      exact ⟨ctR0 c k1 (impR_refl _) hlen.symm (by omega) hcp (by decide), b1, ⟨by omega, by omega⟩, W1, f1'⟩

/-- A drawn catalog, let go. -/
theorem i_catalog (h1 : a + 1200 ≤ 1000000) : ICall Try.prog m 43 [.box k 0] (fun r m' => (∃ c : List Pk, r = pksAV false false c ∧ c.length ≤ 25 ∧ ∀ p ∈ c, DPk p) ∧ ∃ a', (a ≤ a' ∧ a' ≤ a + 1200) ∧ At l k a' m m' ∧ ∀ j, j < 1000 ∨ 4000 ≤ j → m'.arrs j = m.arrs j) := by
  refine icall_seal1 (i_catalog0 l hb m k a hk h0 h1) ?_
  rintro r m' ⟨⟨c, pl, v, e, es, rfl, hm, hi, hc, hp, hpl⟩, a', ha, hA, he⟩
  have hok : m'.ok pl v = true := by simp [Mem.ok, hm]
  refine ⟨.sl false es, pksAV false false c, ?_, imp_sl hi, ⟨c, rfl, hc, hp⟩, a', ha, ?_, ?_⟩
  · rw [sealCells, if_pos hok, hm]
    simp [sealCells]
  · rw [sealCells, if_pos hok]
    exact hA.boxes rfl
  · intro j hj
    rw [sealCells, if_pos hok]
    simp only [sealCells]
    rw [if_neg (by omega)]
    exact he j hj
end

end Go.Proofs.Ytokhnmchnfkiiaa.Am

/- Draws that leave the caller's memory as it was; what the laws draw. No conditions. -/
namespace Go.Proofs.Ytokhnmchnfkiiaa.Am
open Go Go.RowKit Go.Proofs
set_option linter.unusedSimpArgs false
set_option linter.unusedVariables false

/-- A call whose result has no part in the caller's memory, and that is told from empty memory: it leaves the caller's memory as it was. -/
theorem icall_closed {P : Program} {f : FuncId} {args : List AV} {Q : AV → Prop} (h : ∀ ver, ICall P ⟨[], noArrs ver⟩ f args (fun r _ => Q r ∧ r.Free (· = false))) (hfree : ∀ a ∈ args, a.Free (fun _ => True)) (m : Mem) : ICall P m f args (fun r m' => Q r ∧ m' = m) := by
  refine ⟨(h fun _ => 0).1, ?_⟩
  intro base bx0 C vs M hv
  have Mb : MemOK (Gi P) C.w.heap.size [] C.bare ⟨[], noArrs C.ver⟩ := by
    refine ⟨rfl, List.nodup_nil, fun k b h => ?_, Nat.le_refl _, fun b h => ⟨M.nlt h.2, fun i I hI => (by cases hI)⟩, fun k b cs h => ?_, fun _ => rfl, fun _ _ => rfl, fun i hl => (by cases hl), fun i I g hI => (by cases hI), fun i I g hI => (by cases hI), ⟨fun b h => h.elim, fun b h => h.elim, fun b i I h => h.elim, fun _ b h => h.elim⟩, fun e => (by cases e), (bare_boxes C M.glob).glob⟩
    · have h' : ([] : List Nat)[k]? = some b := h
      simp at h'
    · have h' : ([] : List Nat)[k]? = some b := h
      simp at h'
  have hv' : RVs C.bare args vs.toList := ⟨hv.1, fun j c x h1 h2 => rv_move (hv.2 j c x h1 h2) (hfree c (List.mem_of_getElem? h1)) rfl fun _ _ _ _ h => bare_N h⟩
  refine ((h C.ver).2 C.w.heap.size [] C.bare vs Mb hv').mono ?_
  rintro e w' ⟨v, r, m', h1, ⟨hq, hf⟩, D, hw, hn, K, MD, W, hr⟩
  refine ⟨v, r, m, h1, ⟨hq, rfl⟩, back_bare M W ?_⟩
  intro E d1 d2 d3 d4 d5 d6
  refine rv_back hr hf (d1.trans hw.symm) ?_
  intro b _ hN h
  have h2 : C.N false b := by
    simp only [Ctx.N, d5, d2, d4, d6] at h
    exact h
  exact hN (.inl (.inl (by rw [hn]; exact ⟨rfl, h2⟩)))

theorem fr_bytes (l : List Int) : (AV.sl true (l.map bytCells)).Free (fun _ => True) := by
  rw [free_sl]
  refine ⟨trivial, fun e he c hc => ?_⟩
  obtain ⟨x, _, rfl⟩ := List.mem_map.1 he
  simp at hc
  subst hc
  simp

set_option maxRecDepth 100000 in
theorem ty_bytes {n : Nat} {cs : List AV} (h : Typed Try.prog (n + 2) 22 cs) : ∃ l : List Int, cs = [.sl true (l.map bytCells)] ∧ ∀ a ∈ l, 0 ≤ a ∧ a < 256 := by
  rw [Typed] at h
  simp only [Try.underlying22] at h
  obtain ⟨es, rfl, hb, hc⟩ := h
  obtain ⟨l, rfl, hl⟩ := rows_of bytCells (fun a => 0 ≤ a ∧ a < 256) (es := es) fun c hcm => by
    have h1 := hc c hcm
    rw [Typed] at h1
    simp only [Try.underlying5] at h1
    obtain ⟨x, rfl, hx⟩ := h1
    refine ⟨x, rfl, ?_⟩
    have h2 : 0 ≤ x ∧ x ≤ 255 := by simpa [Lit.wf, IntKind.min, IntKind.max, IntKind.signed, IntKind.bits] using hx
    omega
  exact ⟨l, rfl, hl⟩

set_option maxHeartbeats 4000000 in
set_option maxRecDepth 20000 in
/-- A catalog and a term, as they are drawn. -/
theorem i_drawNewest (l : List Int) (hb : Byt l) (m : Mem) : ICall Try.prog m 8 [.sl true (l.map bytCells)] (fun r m' => (∃ (c : List Pk) (t : Trm), r = .tup [pksAV false false c, t.av] ∧ c.length ≤ 25 ∧ ∀ p ∈ c, DPk p) ∧ m' = m) := by
  refine icall_closed (fun ver => ?_) (by simp [fr_bytes]) m
  obtain ⟨z, hz⟩ : ∃ z : List AV, z = [.v (.string ByteArray.empty), .v (.int .i64 0), .v (.int .i64 0), .v (.int .i64 0), .v (.int .i64 0), .v (.int .i64 0), .v (.int .i64 0)] := ⟨_, rfl⟩
  refine icode (md := 4000) (o := fun _ => false) (by decide) (by decide) Try.func8 rfl (by decide) (by simp [Try.f8]) ?_
  simp only [Try.f8, Gd]
  simp [← hz]
  refine call_ic (i_source l ⟨[z], noArrs ver⟩) rfl (by simp) (icok (by decide) (by decide)) ?_
  rintro r m1 ⟨rfl, rfl⟩
  have hs : ([z] ++ [srcB l 0])[1]? = some (srcB l 0) := rfl
  simp
  refine call_ic (i_catalog l hb ⟨[z, srcB l 0], noArrs ver⟩ 1 0 rfl (by decide) (by decide)) rfl (by simp) (icok (by decide) (by decide)) ?_
  rintro r m2 ⟨⟨c, rfl, hc, hp⟩, a2, ⟨g1, g2⟩, A2, e2⟩
  have b2 := A2.box (j := 0) (z := z) rfl (by decide)
  simp
  refine call_ic (i_bentTerm l hb m2 1 a2 A2.src (by omega) (by omega)) rfl (by simp) (icok (by decide) (by decide)) ?_
  rintro r m3 ⟨⟨t, rfl, ht⟩, a3, ⟨g3, g4⟩, A3, e3⟩
  have b3 := A3.box b2 (by decide)
  have q3 := fun x => box_put b3 x
  simp [b3, hz]
  refine kice_x ?_
  simp [q3]
  exact ⟨c, ⟨rfl, t, rfl, rfl, rfl, rfl, rfl, rfl, rfl⟩, hc, hp⟩

end Go.Proofs.Ytokhnmchnfkiiaa.Am

/- Contracts: giving a term, finding a package, the newest one; both sides. No conditions. -/
namespace Go.Proofs.Ytokhnmchnfkiiaa.Am
open Go Go.RowKit Go.Proofs
set_option linter.unusedSimpArgs false
set_option linter.unusedVariables false

/-- A number with a code. -/
@[reducible, simp] def intRes (k n : Int) : AV := .agg [.v (.int .i64 k), .v (.int .i64 n)]

theorem q_givesTerm (d : Bool) (p : Pk) (hp : p.Len) (t : Trm) : Pure Try.prog 11 [p.av d, t.av] (.v (.bool (decide (packF p = 0) && decide (trmF t = 0) && givesF p t))) := by
  refine pure_of_code (G := (G0)) vers0 mixed0 Try.func11 rfl (by decide) (by simp [Try.f11]) (by simp) fun ver => ?_
  simp only [Try.f11, G0]
  simp
  refine call_p (q_pack d p hp) (by simp) ?_
  by_cases h1 : packF p = 0
  · simp [h1]
    refine call_p (q_trm t) (by simp) ?_
    by_cases h2 : trmF t = 0
    · simp [h2]
      refine call_p (q_gives d p (by have := (packF_ok h1).1; omega) t) (by simp) ?_
      simp
    · simp [h2]
  · simp [h1]

def findPackF (l : List Pk) (n : ByteArray) (v : Ver) : AV := if catF l ≠ 0 then intRes (catF l) 0 else if idxQ (isPk n v) l 0 < 0 then intRes 4 0 else intRes 0 (idxQ (isPk n v) l 0)

theorem idx_in {α : Type} (q : α → Bool) : ∀ (l : List α) (k : Int), 0 ≤ k → k + l.length ≤ 4611686018427387904 → -1 ≤ idxQ q l k ∧ idxQ q l k < k + l.length + 1
  | [], k, h, _ => by simp [idxQ]; omega
  | a :: l, k, h, hb => by
    unfold idxQ
    simp only [List.length_cons] at hb ⊢
    split
    · omega
    · have := idx_in q l (k + 1) (by omega) (by omega)
      omega

theorem q_findPack (c d : Bool) (l : List Pk) (hl : l.length ≤ 4611686018427387904) (hb : ∀ p ∈ l, p.Len) (n : ByteArray) (v : Ver) : Pure Try.prog 14 [pksAV c d l, .v (.string n), v.av] (findPackF l n v) := by
  have hi := idx_in (isPk n v) l 0 (Int.le_refl _) (by omega)
  have hw : IntKind.i64.wrap (idxQ (isPk n v) l 0) = idxQ (isPk n v) l 0 := IntWalk.i64_in _ (by omega)
  by_cases h1 : catF l = 0
  · have e : findPackF l n v = if idxQ (isPk n v) l 0 < 0 then intRes 4 0 else intRes 0 (idxQ (isPk n v) l 0) := by rw [findPackF, if_neg (by simp [h1])]
    rw [e]
    by_cases h2 : idxQ (isPk n v) l 0 < 0
    · rw [if_pos h2]
      refine pure_of_code (G := (G0)) vers0 mixed0 Try.func14 rfl (by decide) (by simp [Try.f14]) (by simp) fun ver => ?_
      simp only [Try.f14, G0]
      simp
      refine call_p (q_cat c d l hl hb) (by simp) ?_
      simp [h1]
      refine call_p (q_find c d l hl n v) (by simp) ?_
      simp [h2]
    · rw [if_neg h2]
      refine pure_of_code (G := (G0)) vers0 mixed0 Try.func14 rfl (by decide) (by simp [Try.f14]) (by simp) fun ver => ?_
      simp only [Try.f14, G0]
      simp
      refine call_p (q_cat c d l hl hb) (by simp) ?_
      simp [h1]
      refine call_p (q_find c d l hl n v) (by simp) ?_
      simp [h2, hw]
  · have e : findPackF l n v = intRes (catF l) 0 := by rw [findPackF, if_pos h1]
    rw [e]
    refine pure_of_code (G := (G0)) vers0 mixed0 Try.func14 rfl (by decide) (by simp [Try.f14]) (by simp) fun ver => ?_
    simp only [Try.f14, G0]
    simp
    refine call_p (q_cat c d l hl hb) (by simp) ?_
    simp [h1]

def newC (c : List Pk) (t : Trm) (p : Pk) (m : Int) : Bool := decide (p.n = t.n) && (givesF p t && (decide (m < 0) || decide (0 < cmpF p.v.a p.v.b p.v.c (pkAt c m).v.a (pkAt c m).v.b (pkAt c m).v.c)))
def newR (c : List Pk) (t : Trm) : List Pk → Nat → Int → Int
  | [], _, m => m
  | p :: l, i, m => newR c t l (i + 1) (if newC c t p m = true then (i : Int) else m)
noncomputable def newA (c : List Pk) (t : Trm) : Int × Int := if ¬ catF c = 0 then (catF c, 0) else if ¬ trmF t = 0 then (trmF t, 0) else if newR c t c 0 (-1) < 0 then (4, 0) else (0, newR c t c 0 (-1))

set_option maxHeartbeats 4000000 in
set_option maxRecDepth 10000 in
theorem p_newest (a b : Bool) (c : List Pk) (hc : c.length ≤ 4611686018427387904) (hb : ∀ p ∈ c, p.Len) (t : Trm) : Pure Try.prog 10 [pksAV a b c, t.av] (intRes (newA c t).1 (newA c t).2) := by
  by_cases h1 : catF c = 0
  · by_cases h2 : trmF t = 0
    · have e : newA c t = if newR c t c 0 (-1) < 0 then (4, 0) else (0, newR c t c 0 (-1)) := by simp [newA, h1, h2]
      rw [e]
      refine pure_of_code (G := (G0)) vers0 mixed0 Try.func10 rfl (by decide) (by simp [Try.f10]) (by simp) fun ver => ?_
      simp only [Try.f10, G0]
      simp
      refine call_p (p_cat a b c hc hb) (by simp) ?_
      simp [h1]
      refine call_p (p_trm t) (by simp) ?_
      simp [h2]
      refine aloop (α := Nat × Int) (fun d => ⟨envOf [(0, pksAV a b c), (3, .box 0 0), (4, .box 1 0), (7, .v (.int .i64 d.2)), (8, .v (.int .i64 d.1))], ⟨[t.cells, [.v (.int .i64 0), .v (.int .i64 0)]], noArrs ver⟩⟩)
        (fun d => d.1 ≤ c.length ∧ (0 ≤ d.2 → d.2.toNat < c.length) ∧ newR c t (c.drop d.1) d.1 d.2 = newR c t c 0 (-1)) (fun d => c.length - d.1) (0, -1) (less_envOf (by simp) rfl fun _ => rfl) (by simp) ?_
      rintro ⟨i, m⟩ ⟨hk, hi, hm⟩
      simp only at hk hi hm ⊢
      by_cases hlt : i < c.length
      · have hw := wrapS hlt hc
        rw [drop_get hlt, newR] at hm
        have hmem : c[i] ∈ c := List.getElem_mem hlt
        simp [hlt]
        refine adraw_all (by kernel_rfl) ?_
        simp [hlt]
        by_cases hn : c[i].n = t.n
        · have hn2 : (c[i].n = t.n) = True := eq_true hn
          simp (config := { maxSteps := 4000000 }) [hn2, hlt]
          refine call_p (p_gives b c[i] (hb _ hmem).1 t) (by simp) ?_
          cases hg : givesF c[i] t with
          | false =>
            have hcn : newC c t c[i] m = false := by simp [newC, hg]
            rw [hcn] at hm
            simp
            exact ⟨i + 1, m, less_envOf (by simp [hw]) rfl fun _ => rfl, ⟨by omega, hi, by simpa using hm⟩, by omega⟩
          | true =>
            by_cases hm0 : m < 0
            · have hcn : newC c t c[i] m = true := by simp [newC, hn, hg, hm0]
              rw [hcn] at hm
              simp [hm0]
              exact ⟨i + 1, i, less_envOf (by simp [hw]) rfl fun _ => rfl, ⟨by omega, fun _ => by omega, by simpa using hm⟩, by omega⟩
            · have hmi := hi (by omega)
              have hgm := pkAt_get hmi
              simp [hm0, hlt, show (0 : Int) ≤ m by omega, hgm]
              refine call_p (p_compareVersions _ _ _ _ _ _) (by simp) ?_
              by_cases h4 : 0 < cmpF c[i].v.a c[i].v.b c[i].v.c (pkAt c m).v.a (pkAt c m).v.b (pkAt c m).v.c
              · have hcn : newC c t c[i] m = true := by simp [newC, hn, hg, h4]
                rw [hcn] at hm
                simp [h4]
                exact ⟨i + 1, i, less_envOf (by simp [hw]) rfl fun _ => rfl, ⟨by omega, fun _ => by omega, by simpa using hm⟩, by omega⟩
              · have hcn : newC c t c[i] m = false := by simp [newC, hm0, h4]
                rw [hcn] at hm
                simp [h4]
                exact ⟨i + 1, m, less_envOf (by simp [hw]) rfl fun _ => rfl, ⟨by omega, hi, by simpa using hm⟩, by omega⟩
        · have hcn : newC c t c[i] m = false := by simp [newC, hn]
          rw [hcn] at hm
          simp (config := { maxSteps := 4000000 }) [hn]
          exact ⟨i + 1, m, less_envOf (by simp [hw]) rfl fun _ => rfl, ⟨by omega, hi, by simpa using hm⟩, by omega⟩
      · rw [List.drop_eq_nil_of_le (by omega), newR] at hm
        rw [← hm]
        by_cases hm0 : m < 0 <;> simp [hlt, hm0]
    · have e : newA c t = (trmF t, 0) := by simp [newA, h1, h2]
      rw [e]
      refine pure_of_code (G := (G0)) vers0 mixed0 Try.func10 rfl (by decide) (by simp [Try.f10]) (by simp) fun ver => ?_
      simp only [Try.f10, G0]
      simp
      refine call_p (p_cat a b c hc hb) (by simp) ?_
      simp [h1]
      refine call_p (p_trm t) (by simp) ?_
      simp [h2]
  · have e : newA c t = (catF c, 0) := by simp [newA, h1]
    rw [e]
    refine pure_of_code (G := (G0)) vers0 mixed0 Try.func10 rfl (by decide) (by simp [Try.f10]) (by simp) fun ver => ?_
    simp only [Try.f10, G0]
    simp
    refine call_p (p_cat a b c hc hb) (by simp) ?_
    simp [h1]

set_option maxHeartbeats 4000000 in
set_option maxRecDepth 10000 in
theorem q_newest (a b : Bool) (c : List Pk) (hc : c.length ≤ 4611686018427387904) (hb : ∀ p ∈ c, p.Len) (t : Trm) : Pure Try.prog 9 [pksAV a b c, t.av] (intRes (newA c t).1 (newA c t).2) := by
  by_cases h1 : catF c = 0
  · by_cases h2 : trmF t = 0
    · have e : newA c t = if newR c t c 0 (-1) < 0 then (4, 0) else (0, newR c t c 0 (-1)) := by simp [newA, h1, h2]
      rw [e]
      refine pure_of_code (G := (G0)) vers0 mixed0 Try.func9 rfl (by decide) (by simp [Try.f9]) (by simp) fun ver => ?_
      simp only [Try.f9, G0]
      simp
      refine adraw_all (by kernel_rfl) ?_
      simp
      refine call_p (q_cat a b c hc hb) (by simp) ?_
      simp
      refine call_p (q_trm t) (by simp) ?_
      simp [h1, h2, sealRows, sealCells, List.range_succ]
      refine call_p (q_first false [0, 0] (by simp)) (by simp) ?_
      simp [orF]
      refine aloop (α := Nat × Int × List (List AV)) (fun d => ⟨envOf [(0, pksAV a b c), (3, .box 0 0), (4, .box 1 0), (6, .v (.int .i64 d.2.1)), (19, pksAV a b c), (20, .v (.int .i64 c.length)), (21, .v (.int .i64 d.1))], ⟨t.cells :: [.v (.int .i64 0), .v (.int .i64 0)] :: d.2.2, noArrs ver⟩⟩)
        (fun d => d.1 ≤ c.length ∧ (0 ≤ d.2.1 → d.2.1.toNat < c.length) ∧ newR c t (c.drop d.1) d.1 d.2.1 = newR c t c 0 (-1)) (fun d => c.length - d.1) (0, -1, []) (less_envOf (by simp) rfl fun _ => rfl) (by simp) ?_
      rintro ⟨i, m, bs⟩ ⟨hk, hi, hm⟩
      simp only at hk hi hm ⊢
      by_cases hlt : i < c.length
      · have hw := wrapS hlt hc
        rw [drop_get hlt, newR] at hm
        have hmem : c[i] ∈ c := List.getElem_mem hlt
        have hok := packF_ok ((catF_ok h1).2 _ hmem)
        simp [hlt]
        refine adraw_all (by kernel_rfl) ?_
        simp [hlt]
        by_cases hn : c[i].n = t.n
        · have hn2 : (c[i].n = t.n) = True := eq_true hn
          simp (config := { maxSteps := 4000000 }) [hn2, hlt]
          refine call_p (q_gives b c[i] (by have := hok.1; omega) t) (by simp) ?_
          cases hg : givesF c[i] t with
          | false =>
            have hcn : newC c t c[i] m = false := by simp [newC, hg]
            rw [hcn] at hm
            simp
            exact ⟨i + 1, m, ⟨_, less_envOf (by simp [hw]) rfl fun _ => rfl⟩, ⟨by omega, hi, by simpa using hm⟩, by omega⟩
          | true =>
            by_cases hm0 : m < 0
            · have hcn : newC c t c[i] m = true := by simp [newC, hn, hg, hm0]
              rw [hcn] at hm
              simp [hm0]
              exact ⟨i + 1, i, ⟨_, less_envOf (by simp [hw]) rfl fun _ => rfl⟩, ⟨by omega, fun _ => by omega, by simpa using hm⟩, by omega⟩
            · have hmi := hi (by omega)
              have hgm := pkAt_get hmi
              simp [hm0, hlt, show (0 : Int) ≤ m by omega, hgm]
              refine call_p (p_compare _ _ _ _ _ _) (by simp) ?_
              by_cases h4 : 0 < cmpF c[i].v.a c[i].v.b c[i].v.c (pkAt c m).v.a (pkAt c m).v.b (pkAt c m).v.c
              · have hcn : newC c t c[i] m = true := by simp [newC, hn, hg, h4]
                rw [hcn] at hm
                simp [h4]
                exact ⟨i + 1, i, ⟨_, less_envOf (by simp [hw]) rfl fun _ => rfl⟩, ⟨by omega, fun _ => by omega, by simpa using hm⟩, by omega⟩
              · have hcn : newC c t c[i] m = false := by simp [newC, hm0, h4]
                rw [hcn] at hm
                simp [h4]
                exact ⟨i + 1, m, ⟨_, less_envOf (by simp [hw]) rfl fun _ => rfl⟩, ⟨by omega, hi, by simpa using hm⟩, by omega⟩
        · have hcn : newC c t c[i] m = false := by simp [newC, hn]
          rw [hcn] at hm
          simp (config := { maxSteps := 4000000 }) [hn]
          exact ⟨i + 1, m, ⟨_, less_envOf (by simp [hw]) rfl fun _ => rfl⟩, ⟨by omega, hi, by simpa using hm⟩, by omega⟩
      · rw [List.drop_eq_nil_of_le (by omega), newR] at hm
        rw [← hm]
        by_cases hm0 : m < 0 <;> simp [hlt, hm0]
    · have e : newA c t = (trmF t, 0) := by simp [newA, h1, h2]
      rw [e]
      refine pure_of_code (G := (G0)) vers0 mixed0 Try.func9 rfl (by decide) (by simp [Try.f9]) (by simp) fun ver => ?_
      simp only [Try.f9, G0]
      simp
      refine adraw_all (by kernel_rfl) ?_
      simp
      refine call_p (q_cat a b c hc hb) (by simp) ?_
      simp
      refine call_p (q_trm t) (by simp) ?_
      simp [sealRows, sealCells, List.range_succ]
      refine call_p (q_first false [catF c, trmF t] (by simp)) (by simp) ?_
      simp [h1, h2, orF_two]
  · have e : newA c t = (catF c, 0) := by simp [newA, h1]
    rw [e]
    refine pure_of_code (G := (G0)) vers0 mixed0 Try.func9 rfl (by decide) (by simp [Try.f9]) (by simp) fun ver => ?_
    simp only [Try.f9, G0]
    simp
    refine adraw_all (by kernel_rfl) ?_
    simp
    refine call_p (q_cat a b c hc hb) (by simp) ?_
    simp
    refine call_p (q_trm t) (by simp) ?_
    simp [sealRows, sealCells, List.range_succ]
    refine call_p (q_first false [catF c, trmF t] (by simp)) (by simp) ?_
    simp [h1, orF_two]

end Go.Proofs.Ytokhnmchnfkiiaa.Am

/- The newest package of a term: plain laws. No conditions. -/
namespace Go.Proofs.Ytokhnmchnfkiiaa.Am
open Go Go.RowKit Go.Proofs
set_option linter.unusedSimpArgs false
set_option linter.unusedVariables false

theorem cmpV_le (u v : Ver) : cmpF u.a u.b u.c v.a v.b v.c ≤ 0 ↔ (u.a < v.a ∨ (u.a = v.a ∧ (u.b < v.b ∨ (u.b = v.b ∧ u.c ≤ v.c)))) := by
  unfold cmpF signF
  constructor
  · intro h
    repeat' split at h
    all_goals omega
  · intro h
    repeat' split
    all_goals omega
theorem cmpV_gt (u v : Ver) : 0 < cmpF u.a u.b u.c v.a v.b v.c ↔ (v.a < u.a ∨ (u.a = v.a ∧ (v.b < u.b ∨ (u.b = v.b ∧ v.c < u.c)))) := by
  unfold cmpF signF
  constructor
  · intro h
    repeat' split at h
    all_goals omega
  · intro h
    repeat' split
    all_goals omega

/-- No two packages of a right catalog have one name and one version. -/
theorem idxQ_app {α : Type} (q : α → Bool) (a : α) : ∀ (l : List α) (k : Int), 0 ≤ k → ¬ 0 ≤ idxQ q l k → q a = true → ∀ r, idxQ q (l ++ a :: r) k = k + l.length
  | [], k, _, _, h, r => by simp [idxQ, h]
  | b :: l, k, hk, hn, h, r => by
    rw [idxQ] at hn
    split at hn
    · omega
    · rename_i hb
      rw [List.cons_append, idxQ, if_neg hb, idxQ_app q a l (k + 1) (by omega) hn h r]
      simp
      omega
theorem catR_uniq : ∀ {l seen : List Pk}, catR seen l = 0 → ∀ (i : Nat) (h : i < l.length), idxQ (isPk l[i].n l[i].v) (seen ++ l) 0 = seen.length + (i : Nat)
  | p :: l, seen, hc, 0, _ => by
    rw [catR] at hc
    split at hc
    · rename_i h1; exact (h1 hc).elim
    split at hc
    · cases hc
    rename_i h2
    have := idxQ_app (isPk p.n p.v) p seen 0 (Int.le_refl _) h2 (by simp [isPk]) l
    simpa using this
  | p :: l, seen, hc, i + 1, hi => by
    rw [catR] at hc
    split at hc
    · rename_i h1; exact (h1 hc).elim
    split at hc
    · cases hc
    have := catR_uniq (l := l) (seen := seen ++ [p]) hc i (by simpa using hi)
    rw [List.append_assoc, List.singleton_append] at this
    simp only [List.getElem_cons_succ]
    rw [this]
    simp
    omega
theorem cat_uniq {c : List Pk} (h : catF c = 0) {i : Nat} (hi : i < c.length) : idxQ (isPk c[i].n c[i].v) c 0 = (i : Nat) := by
  unfold catF at h
  split at h
  · cases h
  have := catR_uniq h i hi
  simpa using this

/-- What the search keeps: whom it holds gives the term, and none that was seen is newer. -/
def NewOk (c : List Pk) (t : Trm) (i : Nat) (m : Int) : Prop :=
  (0 ≤ m → m.toNat < i ∧ (pkAt c m).n = t.n ∧ givesF (pkAt c m) t = true) ∧ ∀ (j : Nat) (h : j < c.length), j < i → c[j].n = t.n → givesF c[j] t = true → 0 ≤ m ∧ cmpF c[j].v.a c[j].v.b c[j].v.c (pkAt c m).v.a (pkAt c m).v.b (pkAt c m).v.c ≤ 0
theorem pkAt_nat {c : List Pk} {i : Nat} (h : i < c.length) : pkAt c (i : Nat) = c[i] := by simp [pkAt, h]
theorem newR_ok (c : List Pk) (t : Trm) : ∀ (l : List Pk) (i : Nat) (m : Int), l = c.drop i → i ≤ c.length → -1 ≤ m → NewOk c t i m → -1 ≤ newR c t l i m ∧ NewOk c t c.length (newR c t l i m)
  | [], i, m, hl, hi, hm, h => by
    have : c.length ≤ i := by
      have := congrArg List.length hl
      simp at this
      omega
    have e : i = c.length := by omega
    subst e
    exact ⟨hm, h⟩
  | p :: l, i, m, hl, hi, hm, h => by
    have hlt : i < c.length := by
      rcases Nat.lt_or_ge i c.length with h | h
      · exact h
      · rw [List.drop_eq_nil_of_le h] at hl; cases hl
    rw [drop_get hlt] at hl
    cases hl
    rw [newR]
    refine newR_ok c t _ (i + 1) _ rfl (by omega) (by split <;> omega) ?_
    obtain ⟨h1, h2⟩ := h
    by_cases hn : newC c t c[i] m = true
    · rw [if_pos hn]
      simp only [newC, Bool.and_eq_true, Bool.or_eq_true, decide_eq_true_eq] at hn
      obtain ⟨q1, q2, q3⟩ := hn
      refine ⟨fun _ => ⟨by omega, by rw [pkAt_nat hlt]; exact q1, by rw [pkAt_nat hlt]; exact q2⟩, ?_⟩
      intro j hj hji k1 k2
      refine ⟨by omega, ?_⟩
      rw [pkAt_nat hlt]
      by_cases hji2 : j = i
      · subst hji2
        exact (cmpV_le _ _).2 (by omega)
      · obtain ⟨z1, z2⟩ := h2 j hj (by omega) k1 k2
        rcases q3 with q3 | q3
        · omega
        · rw [cmpV_gt] at q3
          rw [cmpV_le] at z2 ⊢
          omega
    · rw [if_neg hn]
      refine ⟨fun hm0 => ⟨by have := (h1 hm0).1; omega, (h1 hm0).2⟩, ?_⟩
      intro j hj hji k1 k2
      by_cases hji2 : j = i
      · subst hji2
        simp only [newC, Bool.and_eq_true, Bool.or_eq_true, decide_eq_true_eq] at hn
        have q3 : ¬ (m < 0 ∨ 0 < cmpF c[j].v.a c[j].v.b c[j].v.c (pkAt c m).v.a (pkAt c m).v.b (pkAt c m).v.c) := fun q => hn ⟨k1, k2, q⟩
        exact ⟨by omega, by omega⟩
      · exact h2 j hj (by omega) k1 k2
/-- What the answer is. -/
theorem new_ok {c : List Pk} {t : Trm} (h : (newA c t).1 = 0) : catF c = 0 ∧ trmF t = 0 ∧ ∃ i : Nat, ∃ hi : i < c.length, newA c t = (0, (i : Int)) ∧ c[i].n = t.n ∧ givesF c[i] t = true ∧
    ∀ (j : Nat) (hj : j < c.length), c[j].n = t.n → givesF c[j] t = true → cmpF c[j].v.a c[j].v.b c[j].v.c c[i].v.a c[i].v.b c[i].v.c ≤ 0 := by
  unfold newA at h ⊢
  by_cases h1 : catF c = 0
  case neg => rw [if_pos h1] at h; exact (h1 h).elim
  by_cases h2 : trmF t = 0
  case neg => rw [if_neg (by simp [h1]), if_pos h2] at h; exact (h2 h).elim
  rw [if_neg (by simp [h1]), if_neg (by simp [h2])] at h ⊢
  obtain ⟨k0, k1, k2⟩ := newR_ok c t c 0 (-1) (by simp) (by omega) (by omega) ⟨fun h => by omega, fun j _ h => by omega⟩
  obtain ⟨R, hR⟩ : ∃ R, R = newR c t c 0 (-1) := ⟨_, rfl⟩
  rw [← hR] at h k0 k1 k2 ⊢
  by_cases h3 : R < 0
  · rw [if_pos h3] at h; cases h
  rw [if_neg h3]
  obtain ⟨z1, z2, z3⟩ := k1 (by omega)
  obtain ⟨i, rfl⟩ : ∃ i : Nat, R = i := ⟨R.toNat, by omega⟩
  have hi : i < c.length := by omega
  rw [pkAt_nat hi] at z2 z3
  refine ⟨h1, h2, i, hi, rfl, z2, z3, fun j hj q1 q2 => ?_⟩
  have := (k2 j hj hj q1 q2).2
  rw [pkAt_nat hi] at this
  exact this
theorem bytesP_lenI {p : Pk} (h : packF p = 0) : ((bytesP p).length : Int) = p.s := by
  have := (packF_vals h).2.2.2.1
  rw [bytesP, bseq_len]
  omega

end Go.Proofs.Ytokhnmchnfkiiaa.Am
