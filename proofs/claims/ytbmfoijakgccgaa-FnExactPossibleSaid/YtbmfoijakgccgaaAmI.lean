/- The abstract machine: parts of slices, and what a slice's elements are. No conditions. -/
import Derived.Test.YtbmfoijakgccgaaAmH
namespace Go.Proofs.Ytbmfoijakgccgaa.Am
open Go Go.RowKit
set_option linter.unusedSimpArgs false
set_option linter.unusedVariables false

def RVo (C : Ctx) (a : Option AV) (v : Option Value) : Prop := (a = none ∧ v = none) ∨ ∃ x y, a = some x ∧ v = some y ∧ RV C x y

theorem bounds_run {C : Ctx} {lo hi : Option AV} {lov hiv : Option Value} (hlo : RVo C lo lov) (hhi : RVo C hi hiv) {len cap l h : Nat} (hcap : len ≤ cap) (b : Bool) (h1 : lowOf lo = some l) (h2 : upOf len hi = some h) (hle : l ≤ h) (P : Program) (w : World) :
    (Instr.sliceBounds b len cap lov hiv none).run P w = .ok (l, h, cap) w ∧ h ≤ len := by
  have low : ∀ code, (match lov with | some v => Instr.sliceBound v h code | none => pure 0 : Sem Nat).run P w = .ok l w := by
    intro code
    rcases hlo with ⟨rfl, rfl⟩ | ⟨x, y, rfl, rfl, hr⟩
    · simp only [lowOf, Option.some.injEq] at h1
      subst h1
      rfl
    · cases x <;> simp only [lowOf] at h1 <;> try (cases h1; done)
      have := rv_v hr
      subst this
      cases y <;> simp only at h1 <;> try (cases h1; done)
      rename_i k n
      split at h1
      · rename_i h0
        cases h1
        have : n ≤ (h : Int) := by omega
        simp [Instr.sliceBound, asIntOf, h0, this]
      · cases h1
  rcases hhi with ⟨rfl, rfl⟩ | ⟨x, y, rfl, rfl, hr⟩
  · simp only [upOf, Option.some.injEq] at h2
    subst h2
    have hl := low .sliceB
    refine ⟨?_, Nat.le_refl _⟩
    cases lov <;> simp_all [Instr.sliceBounds]
  · cases x <;> simp only [upOf] at h2 <;> try (cases h2; done)
    have := rv_v hr
    subst this
    cases y <;> simp only at h2 <;> try (cases h2; done)
    rename_i k n
    split at h2
    · rename_i h0
      cases h2
      have hc : n ≤ (cap : Int) := by omega
      refine ⟨?_, by omega⟩
      have hl := low .sliceB
      have hb : ∀ code, (Instr.sliceBound (.int k n) cap code).run P w = .ok n.toNat w := by
        intro code
        simp [Instr.sliceBound, asIntOf, h0.1, hc]
      cases lov <;> simp_all [Instr.sliceBounds]
    · cases h2

theorem addr_add (a : Addr) (m n : Nat) : (a.add m).add n = a.add (m + n) := by
  unfold Addr.add
  by_cases hm : m = 0
  · subst hm; simp
  · by_cases hn : n = 0
    · subst hn; simp
    · simp [hm, hn, Nat.add_assoc]

theorem own_cap {base : Nat} {w : World} {e : TypeId} {I : AInf} {xs : List Value} (ho : w.ownsRow base e I.size I.val I.len xs) {a : Option Addr} {cap : Nat} (hv : I.val = .slice a I.len cap) : I.len ≤ cap := by
  rcases ho.2 with ⟨e0, e1⟩ | ⟨g, cap', cur, e0, _, _, hnc, _⟩
  · omega
  · rw [hv] at e0
    simp only [Value.slice.injEq, true_and] at e0
    omega

theorem IsSub.sub {I : AInf} {off len : Nat} {x : Value} (h : IsSub I off len x) {base : Nat} {w : World} {e : TypeId} {xs : List Value} (ho : w.ownsRow base e I.size I.val I.len xs) {l k : Nat} (hk : l + k ≤ len) :
    ∃ a cap, x = .slice a len cap ∧ len ≤ cap ∧ IsSub I (off + l) k (.slice (if cap = l then a else a.map (·.add (l * I.size))) k (cap - l)) := by
  obtain ⟨hle, a, cap, a', hv, hx, ha⟩ := h
  have hcap := own_cap ho hv
  refine ⟨a', cap - off, hx, by omega, by omega, a, cap, _, hv, by rw [Nat.sub_add_eq], ?_⟩
  rintro (h1 | h1)
  · rw [if_neg (by omega), ha (.inl (by omega)), Option.map_map]
    congr 1
    funext q
    simp only [Function.comp]
    rw [addr_add, Nat.add_mul]
  · have h2 : off = 0 := by omega
    have h3 : l = 0 := by omega
    subst h2 h3
    have e := ha (.inr rfl)
    simp only [Nat.zero_mul, Nat.add_zero] at e ⊢
    split
    · exact e
    · rw [e, Option.map_map]
      congr 1

theorem IsSub.whole {I : AInf} {x : Value} (h : IsSub I 0 I.len x) : x = I.val := by
  obtain ⟨hle, a, cap, a', hv, hx, ha⟩ := h
  rw [hx, ha (.inr rfl), hv]
  simp [Addr.add]

theorem arr_ver {C : Ctx} {i n off len : Nat} {x : Value} (h : RV C (.arr i n off len) x) : n ≤ C.ver i := by
  cases h with
  | arr _ _ _ _ _ _ hn _ => exact hn

theorem aslice_run {G : Cfg} {base : Nat} {bx0 : List Nat} {C : Ctx} {m m' : Mem} (M : MemOK G base bx0 C m) {dst : Option Tmp} {t : TypeId} {x y : AV} {v : Value} (hx : RV C x v) {lo hi : Option AV} {lov hiv : Option Value} (hlo : RVo C lo lov) (hhi : RVo C hi hiv)
    (h : aslice G dst t m x lo hi = some (y, m')) : ∃ u, (Instr.sliceAt t v lov hiv none).run G.P C.w = .ok u C.w ∧ Nxt G base bx0 C C.w m' fun C' => RV C' y u := by
  unfold aslice at h
  split at h
  · rename_i s
    have := rv_v hx; subst this
    split at h
    · rename_i ht
      obtain ⟨l, h1, h⟩ := Option.bind_eq_some_iff.1 h
      obtain ⟨q, h2, h⟩ := Option.bind_eq_some_iff.1 h
      split at h
      · rename_i hle
        cases h
        have hu := isStr_under ht
        refine ⟨.string (s.extract l q), ?_, Nxt.here M (.v _)⟩
        simp [Instr.sliceAt, Instr.slice, run_underlying hu, (bounds_run hlo hhi (Nat.le_refl _) false h1 h2 hle G.P C.w).1]
      · cases h
    · cases h
  · rename_i col es
    obtain ⟨e, he, h⟩ := Option.bind_eq_some_iff.1 h
    obtain ⟨z, hz, h⟩ := Option.bind_eq_some_iff.1 h
    obtain ⟨l, h1, h⟩ := Option.bind_eq_some_iff.1 h
    obtain ⟨q, h2, h⟩ := Option.bind_eq_some_iff.1 h
    split at h
    · rename_i hle
      obtain ⟨hle, hall⟩ := hle
      cases h
      have hu := elemT_under he
      cases hx with
      | sl0 _ a cap =>
        have hb := bounds_run hlo hhi (len := 0) (cap := cap) (Nat.zero_le _) true h1 h2 hle G.P C.w
        have e1 : q = 0 := by have := hb.2; omega
        have e2 : l = 0 := by omega
        subst e1 e2
        refine ⟨_, by simp [Instr.sliceAt, Instr.slice, run_underlying hu, hb.1, csz_run hz]; rfl, Nxt.here M ?_⟩
        simp only [List.drop_nil, List.take_nil]
        exact .sl0 _ _ _
      | sl _ _ b off size cap f hne hs hN hb0 hcap hc hr =>
        obtain ⟨hb, hql⟩ := bounds_run hlo hhi (len := es.length) (cap := cap) hcap true h1 h2 hle G.P C.w
        have hsz : size = z := by
          cases es with
          | nil => exact absurd rfl hne
          | cons r rs =>
            have q1 := hs r (by simp)
            have q2 := List.all_eq_true.1 hall r (by simp)
            simp only [beq_iff_eq] at q2
            omega
        subst hsz
        have hlen : ((es.drop l).take (q - l)).length = q - l := by simp; omega
        refine ⟨.slice (if cap = l then some ⟨b, off, none⟩ else some ⟨b, off + l * size, none⟩) (q - l) (cap - l), ?_, Nxt.here M ?_⟩
        · simp [Instr.sliceAt, Instr.slice, run_underlying hu, hb, csz_run hz, Addr.add_lit]
        · by_cases h0 : q - l = 0
          · rw [h0, List.take_zero]
            exact .sl0 _ _ _
          · rw [if_neg (by omega)]
            have key : RV C (.sl col ((es.drop l).take (q - l))) (.slice (some ⟨b, off + l * size, none⟩) ((es.drop l).take (q - l)).length (cap - l)) := by
              refine .sl col _ b (off + l * size) size (cap - l) (fun i j => f (l + i) j) ?_ ?_ hN hb0 (by omega) ?_ ?_
              · intro e0; rw [e0] at hlen; simp at hlen; omega
              · intro r hr'; exact hs r (List.mem_of_mem_drop (List.mem_of_mem_take hr'))
              · intro i j r c hi hj
                rw [List.getElem?_take] at hi
                split at hi
                · rw [List.getElem?_drop] at hi
                  have := hc (l + i) j r c hi hj
                  rw [Nat.add_mul] at this
                  rw [← this]
                  congr 2
                  omega
                · cases hi
              · intro i j r c hi hj
                rw [List.getElem?_take] at hi
                split at hi
                · rw [List.getElem?_drop] at hi
                  exact hr (l + i) j r c hi hj
                · cases hi
            rw [hlen] at key
            exact key
    · cases h
  · obtain ⟨e, he, h⟩ := Option.bind_eq_some_iff.1 h
    obtain ⟨z, hz, h⟩ := Option.bind_eq_some_iff.1 h
    obtain ⟨l, h1, h⟩ := Option.bind_eq_some_iff.1 h
    obtain ⟨q, h2, h⟩ := Option.bind_eq_some_iff.1 h
    split at h
    · rename_i hle
      cases h
      have hu := elemT_under he
      cases hx with
      | nil a =>
        have hb := bounds_run hlo hhi (len := 0) (cap := 0) (Nat.le_refl _) true h1 h2 hle G.P C.w
        have e1 : q = 0 := by have := hb.2; omega
        have e2 : l = 0 := by omega
        subst e1 e2
        exact ⟨_, by simp [Instr.sliceAt, Instr.slice, run_underlying hu, hb.1, csz_run hz]; rfl, Nxt.here M (.nil _)⟩
    · cases h
  · rename_i i n off len
    split at h
    · rename_i hk
      obtain ⟨e, he, h3⟩ := Option.bind_eq_some_iff.1 h
      obtain ⟨z, hz, h4⟩ := Option.bind_eq_some_iff.1 h3
      obtain ⟨l, h1, h5⟩ := Option.bind_eq_some_iff.1 h4
      obtain ⟨q, h2, h6⟩ := Option.bind_eq_some_iff.1 h5
      clear h h3 h4 h5
      obtain ⟨I, xs, hI, hs, z1, z2, z3, z4, z5, z6⟩ := arr_rv M hx hk
      by_cases hcond : l ≤ q ∧ e = (m.arrs i).elem ∧ 0 < z
      · rw [if_pos hcond] at h6
        obtain ⟨hle, helem, hz0⟩ := hcond
        have hu := elemT_under he
        have hsz : z = I.size := by rw [helem, z1] at hz; exact (Option.some.inj hz).symm
        subst hsz
        have hql : q ≤ len := by
          obtain ⟨_, a, cap, a', _, hxv, _⟩ := hs
          have hle2 : len ≤ len := Nat.le_refl _
          exact (bounds_run hlo hhi (len := len) (cap := len) hle2 true h1 h2 hle G.P C.w).2
        obtain ⟨a, cap, hxv, hlc, hsub⟩ := hs.sub z5 (l := l) (k := q - l) (by omega)
        subst hxv
        obtain ⟨hb, _⟩ := bounds_run hlo hhi (len := len) (cap := cap) hlc true h1 h2 hle G.P C.w
        have hrun : (Instr.sliceAt t (.slice a len cap) lov hiv none).run G.P C.w = .ok (.slice (if cap = l then a else a.map (·.add (l * I.size))) (q - l) (cap - l)) C.w := by
          simp [Instr.sliceAt, Instr.slice, run_underlying hu, hb, csz_run hz]
        by_cases hd : (dst.map G.own).getD false = true
        · rw [if_pos hd] at h6
          by_cases hw : l = 0 ∧ off = 0 ∧ len = (m.arrs i).es.length
          · rw [if_pos hw] at h6
            obtain ⟨rfl, rfl, hlen⟩ := hw
            cases h6
            refine ⟨_, hrun, ?_⟩
            have hlI : len = I.len := by rw [hlen, z3]
            have hval : Value.slice a len cap = I.val := by rw [hlI] at hs ⊢; exact hs.whole
            have hsame : Value.slice (if cap = 0 then a else a.map (·.add (0 * I.size))) (q - 0) (cap - 0) = .slice a q cap := by
              have : a.map (fun x : Addr => x.add (0 * I.size)) = a := by cases a <;> simp [Addr.add]
              rw [this]
              simp
            rw [hsame]
            have hver : (m.arrs i).ver = n := (ok_parts hk).2
            have hblk : (Value.slice a q cap).ownBlock = I.val.ownBlock := by rw [← hval]; cases a <;> rfl
            have hown : C.w.ownsRow 0 e I.size (.slice a q cap) q (xs.take (q * I.size)) := by
              rw [← helem] at z5
              have hq : q ≤ I.len := by omega
              have hmul : q * I.size ≤ I.len * I.size := Nat.mul_le_mul_right _ hq
              refine ⟨by rw [List.length_take, z5.1]; omega, ?_⟩
              rcases z5.2 with ⟨e0, e1⟩ | ⟨g, cap', cur, e0, b1, b2, b3, b4, b5, b6⟩
              · rw [← hval] at e0
                simp only [Value.slice.injEq] at e0
                obtain ⟨rfl, _, rfl⟩ := e0
                have : q = 0 := by omega
                subst this
                exact .inl ⟨rfl, rfl⟩
              · rw [← hval] at e0
                simp only [Value.slice.injEq] at e0
                obtain ⟨rfl, _, rfl⟩ := e0
                refine .inr ⟨g, cap, cur, rfl, b1, b2, by omega, b4, b5, ?_⟩
                rw [← b6, List.take_take, Nat.min_eq_left hmul]
            refine Nxt.setArr M i C.w none ⟨rfl, rfl, rfl, Nat.le_refl _, fun _ _ _ => rfl⟩ (fun _ h => by cases h) ⟨I.size, q, .slice a q cap⟩ (xs.take (q * I.size)) e ((m.arrs i).es.take q) hz z2 (by simp; omega)
              (fun r hr => z4 r (List.mem_of_mem_take hr)) hown (fun g hg => .inr ⟨I, hI, by rw [← hblk]; exact hg⟩) ?_ ?_
            · intro idx j r c y hi hj hx'
              rw [List.getElem?_take] at hi hx'
              split at hi
              · split at hx'
                · exact z6 idx j r c y hi hj hx'
                · cases hx'
              · cases hi
            · intro C' K hw hbx hA hv
              refine .arr i (n + 1) 0 q _ rfl ?_ ?_
              · rw [hv, M.ver i, hver]; exact Nat.le_refl _
              · intro J hJ _
                rw [hA] at hJ
                cases hJ
                exact ⟨by simp, a, cap, a, rfl, rfl, fun _ => by cases a <;> simp [Addr.add]⟩
          · rw [if_neg hw] at h6; cases h6
        · rw [if_neg hd] at h6
          cases h6
          refine ⟨_, hrun, Nxt.here M ?_⟩
          refine .arr i n (off + l) (q - l) _ rfl (arr_ver hx) ?_
          intro J hJ _
          rw [hI] at hJ
          cases hJ
          exact hsub
      · rw [if_neg hcond] at h6; cases h6
    · cases h
  · cases h

/-- The elements of a slice, as the model holds them. -/
theorem elems_rv {G : Cfg} {base : Nat} {bx0 : List Nat} {C : Ctx} {m : Mem} (M : MemOK G base bx0 C m) {x : AV} {v : Value} (hx : RV C x v) {es : List (List AV)} (he : m.elems x = some es) {z : Nat} (hall : es.all (·.length == z) = true) :
    ∃ (a : Option Addr) (cap : Nat) (f : Nat → Nat → Value), v = .slice a es.length cap ∧ (∀ (i j : Nat) (r : List AV) (c : AV), es[i]? = some r → r[j]? = some c → RV C c (f i j)) ∧
      (es ≠ [] → ∃ b off, a = some ⟨b, off, none⟩ ∧ ∀ (i j : Nat) (r : List AV) (c : AV), es[i]? = some r → r[j]? = some c → C.w.cell? ⟨b, off + i * z + j, none⟩ = some (f i j)) := by
  cases x <;> simp only [Mem.elems] at he <;> try (cases he; done)
  · cases he
    cases hx with
    | sl0 _ a cap => exact ⟨a, cap, fun _ _ => undef, rfl, by simp, by simp⟩
    | sl _ _ b off size cap f hne hs hN hb0 hcap hc hr =>
      have hsz : size = z := by
        cases es with
        | nil => exact absurd rfl hne
        | cons r rs =>
          have q1 := hs r (by simp)
          have q2 := List.all_eq_true.1 hall r (by simp)
          simp only [beq_iff_eq] at q2
          omega
      subst hsz
      exact ⟨_, cap, f, rfl, hr, fun _ => ⟨b, off, rfl, hc⟩⟩
  · cases he
    cases hx with
    | nil a => exact ⟨a, 0, fun _ _ => undef, rfl, by simp, by simp⟩
  · rename_i i n off len
    split at he
    · rename_i hk
      cases he
      obtain ⟨I, xs, hI, hs, z1, z2, z3, z4, z5, z6⟩ := arr_rv M hx hk
      obtain ⟨_, a0, cap0, a', _, hv0, _⟩ := id hs
      have hlen : (((m.arrs i).es.drop off).take len).length = len := by
        have := hs.1
        simp
        omega
      refine ⟨a', cap0 - off, fun p q => xs.getD ((off + p) * I.size + q) undef, by rw [hlen]; exact hv0, ?_, ?_⟩
      · intro p q r c hp hq
        rw [List.getElem?_take] at hp
        split at hp
        · rw [List.getElem?_drop] at hp
          have hrl := z4 r (List.mem_of_getElem? hp)
          have hql : q < I.size := by have := (List.getElem?_eq_some_iff.1 hq).1; omega
          have hpl := (List.getElem?_eq_some_iff.1 hp).1
          have hlt : (off + p) * I.size + q < I.len * I.size := by
            have : (off + p + 1) * I.size ≤ I.len * I.size := Nat.mul_le_mul_right _ (by omega)
            rw [Nat.add_mul, Nat.one_mul] at this
            omega
          have hxl : (off + p) * I.size + q < xs.length := by rw [z5.1]; exact hlt
          simp only [List.getD, List.getElem?_eq_getElem hxl, Option.getD_some]
          exact z6 (off + p) q r c _ hp hq (List.getElem?_eq_getElem hxl)
        · cases hp
      · intro hne
        have hpos : 0 < len := by
          rcases Nat.eq_zero_or_pos len with h0 | h0
          · rw [h0, List.take_zero] at hne; exact absurd rfl hne
          · exact h0
        obtain ⟨g, cap, e1, e2, e3, e4⟩ := sub_pos hs z5 hpos
        rw [hv0] at e4
        simp only [Value.slice.injEq] at e4
        refine ⟨g, off * I.size, e4.1, ?_⟩
        intro p q r c hp hq
        rw [List.getElem?_take] at hp
        split at hp
        · rw [List.getElem?_drop] at hp
          have hrl := z4 r (List.mem_of_getElem? hp)
          have hrz : r.length = z := by
            have := List.all_eq_true.1 hall r (List.mem_of_getElem? (i := p) (by rw [List.getElem?_take, if_pos (by assumption), List.getElem?_drop]; exact hp))
            simpa using this
          have hzz : z = I.size := by omega
          subst hzz
          have hql : q < I.size := by have := (List.getElem?_eq_some_iff.1 hq).1; omega
          have hpl := (List.getElem?_eq_some_iff.1 hp).1
          have hlt : (off + p) * I.size + q < I.len * I.size := by
            have : (off + p + 1) * I.size ≤ I.len * I.size := Nat.mul_le_mul_right _ (by omega)
            rw [Nat.add_mul, Nat.one_mul] at this
            omega
          have hxl : (off + p) * I.size + q < xs.length := by rw [z5.1]; exact hlt
          have ho := z5
          rw [e1] at ho
          have hc := ho.cellAt _ hlt
          rw [List.getElem?_eq_getElem hxl] at hc
          simp only [List.getD, List.getElem?_eq_getElem hxl, Option.getD_some]
          rw [← hc]
          congr 2
          rw [Nat.add_mul]
        · cases hp
    · cases he

end Go.Proofs.Ytbmfoijakgccgaa.Am
