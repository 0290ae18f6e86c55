/- The abstract machine: the library's sorts of a row, as contracts of functions that write into a caller's own array. No conditions. -/
import Derived.Test.YtokhnmchnfkiiaaGreatAmS
import Derived.Sort.Grow
namespace Go.Proofs.YtokhnmchnfkiiaaGreat.Am
open Go Go.RowKit Go.Sort
set_option linter.unusedSimpArgs false
set_option linter.unusedVariables false

theorem o_sort {α : Type} [Inhabited α] (enc : α → Value) (h1 : ∀ x, (enc x).oneCell' = true) {P : Program} {f : FuncId} {e : TypeId} (hen : enters P f = true) (hsz : (P.info? e).map (·.size) = some 1) (d d' : List α) (hl : d'.length = d.length)
    (hnone : d = [] → ∀ p cap w, Calls P f #[.slice p 0 cap] w fun e w' => e = .returned (.tuple #[]) ∧ w' = w)
    (hsome : ∀ blk off cap w, Holds enc w blk off d.toArray → blk < w.heap.size → Calls P f #[.slice (some ⟨blk, off, none⟩) d.length cap] w fun e w' => e = .returned (.tuple #[]) ∧ ∃ n os, w' = grow (putRow enc (Sort.ahead w n) blk off d'.toArray) os) :
    OCall P f (some (e, d.map fun x => [AV.v (enc x)])) [.arr 0 0 0 d.length] (some (true, e, d'.map fun x => [AV.v (enc x)])) (.tup []) := by
  refine ⟨hen, .tup _ (by simp), ?_, ?_⟩
  · intro s t es h
    cases h
    intro q hq c hc
    obtain ⟨x, _, rfl⟩ := List.mem_map.1 hq
    simp at hc
    subst hc
    exact .v _
  intro C vs hB hver hA0 hin hW hbx hN0 hvs
  obtain ⟨I, xs, hA, hsz', hpos, hlen, hrows, ho, hr⟩ := hin
  have hs1 : I.size = 1 := by rw [hsz] at hsz'; exact (Option.some.inj hsz').symm
  have hI : I.len = d.length := by rw [hlen]; simp
  obtain ⟨x, hvx⟩ : ∃ x, vs = #[x] := by
    have h := hvs.1
    simp at h
    exact ⟨vs[0], Array.ext (by simp [← h]) fun i h1 h2 => by simp at h2; subst h2; rfl⟩
  subst hvx
  have hx : RV C (.arr 0 0 0 d.length) x := hvs.2 0 _ _ rfl rfl
  have hxI : x = I.val := by
    cases hx with
    | arr _ _ _ _ _ k1 hn hh =>
      have hsub := hh I hA (hver 0).symm
      rw [← hI] at hsub
      exact hsub.whole
  subst hxI
  obtain ⟨hxs, hcase⟩ := ho
  rw [hs1, Nat.mul_one] at hxs
  rcases hcase with ⟨hv, h0⟩ | ⟨g, cap, cur, hv, hg0, hg, hle, hcap, hcs, htake⟩
  · have hd : d = [] := List.eq_nil_of_length_eq_zero (by omega)
    subst hd
    have hd' : d' = [] := List.eq_nil_of_length_eq_zero (by simpa using hl)
    subst hd'
    rw [hv]
    refine (hnone rfl none 0 C.w).mono ?_
    rintro e' w' ⟨rfl, rfl⟩
    refine ⟨_, C, rfl, rfl, fun _ _ h => h, fun _ h => h, WExt.refl _ _ _, hver 0, .tup [] #[] rfl (by simp), ⟨I, xs, hA, hsz', hpos, hlen, hrows, ⟨by rw [hs1, Nat.mul_one]; exact hxs, .inl ⟨hv, h0⟩⟩, hr⟩, ?_, fun _ => rfl⟩
    intro J g hJ hg
    rw [hA] at hJ
    cases hJ
    exact .inl (by simp [Ctx.blk, hA, hg])
  · rw [hs1, Nat.mul_one] at hcs
    rw [hs1, Nat.mul_one] at htake
    have hcell : ∀ j (hj : j < d.length), cur[j]? = some (enc d[j]) := by
      intro j hj
      have hj2 : j < xs.length := by omega
      have hxj : xs[j]? = some xs[j] := List.getElem?_eq_getElem hj2
      have hrv := hr j 0 [AV.v (enc d[j])] (.v (enc d[j])) xs[j] (by simp [hj]) rfl (by rw [hs1, Nat.mul_one, Nat.add_zero]; exact hxj)
      have := rv_v hrv
      have h2 : (cur.toList.take I.len)[j]? = some xs[j] := by rw [htake]; exact hxj
      rw [List.getElem?_take_of_lt (by omega)] at h2
      rw [this] at h2
      simpa using h2
    have hH : Holds enc C.w g 0 d.toArray := by
      intro j hj
      have hj' : j < d.length := by simpa using hj
      refine ⟨?_, ?_⟩
      · rw [getElem!_pos d.toArray j hj, Nat.zero_add]
        simp only [World.cell?, hg]
        simpa using hcell j hj'
      · simp only [World.frozen?, hg]
        simp
    have hlt : g < C.w.heap.size := (Array.getElem?_eq_some_iff.1 hg).1
    rw [hv, hI]
    refine (hsome g 0 cap C.w hH hlt).mono ?_
    rintro e' w' ⟨rfl, n, os, rfl⟩
    have hheap : ∀ k, k < C.w.heap.size → k ≠ g → (grow (putRow enc (Sort.ahead C.w n) g 0 d'.toArray) os).heap[k]? = C.w.heap[k]? := by
      intro k hk hne
      rw [heap_grow_old _ _ (by simpa using hk)]
      simp only [putRow, mapBlock, heap_ahead, Array.getElem?_modify]
      rw [if_neg (fun h => hne h.symm)]
    have hnew : (grow (putRow enc (Sort.ahead C.w n) g 0 d'.toArray) os).heap[g]? = some (.cells (putCells enc 0 d'.toArray cur) e (0, 0)) := by
      rw [heap_grow_old _ _ (by simpa using hlt)]
      simp only [putRow, mapBlock, heap_ahead, Array.getElem?_modify]
      rw [if_pos trivial, hg]
      rfl
    have hget : ∀ j (hj : j < d'.length), (putCells enc 0 d'.toArray cur)[j]? = some (enc d'[j]) := by
      intro j hj
      have hc := hcell j (by omega)
      simp only [putCells, Array.getElem?_mapIdx, hc, Option.map_some]
      rw [if_pos ⟨by omega, by simpa using hj⟩, Nat.sub_zero, getElem!_pos d'.toArray j (by simpa using hj)]
      simp
    have htk : (putCells enc 0 d'.toArray cur).toList.take I.len = d'.map enc := by
      apply List.ext_getElem?
      intro j
      by_cases hj : j < d'.length
      · rw [List.getElem?_take_of_lt (by omega), List.getElem?_map, List.getElem?_eq_getElem hj]
        have := hget j hj
        simpa using this
      · rw [List.getElem?_eq_none (by simp; omega), List.getElem?_eq_none (by simpa using hj)]
    refine ⟨_, { C with w := grow (putRow enc (Sort.ahead C.w n) g 0 d'.toArray) os }, rfl, rfl, fun _ _ h => h, fun _ h => h, ⟨rfl, rfl, rfl, by simp, ?_⟩, hver 0, .tup [] #[] rfl (by simp), ⟨I, d'.map enc, hA, hsz', hpos, by rw [hI]; simpa using hl.symm, ?_, ⟨?_, .inr ⟨g, cap, _, hv, Nat.zero_le _, hnew, hle, hcap, ?_, ?_⟩⟩, ?_⟩, ?_, fun _ => rfl⟩
    · intro k hk hkb
      refine hheap k hk fun h => hkb ?_
      subst h
      simp [Ctx.blk, hA, hv, Value.ownBlock]
    · intro r hr'
      obtain ⟨y, _, rfl⟩ := List.mem_map.1 hr'
      rw [hs1]; rfl
    · rw [hs1, Nat.mul_one, hI, List.length_map, hl]
    · rw [hs1, Nat.mul_one, ← hcs]; simp [putCells]
    · rw [hs1, Nat.mul_one]; exact htk
    · intro idx j r c y q1 q2 q3
      rw [List.getElem?_map] at q1
      cases hd : d'[idx]? with
      | none => rw [hd] at q1; cases q1
      | some z =>
        rw [hd] at q1
        cases q1
        have hj : j = 0 := by
          cases j with
          | zero => rfl
          | succ j => simp at q2
        subst hj
        cases q2
        rw [hs1, Nat.mul_one, Nat.add_zero, List.getElem?_map, hd] at q3
        cases q3
        exact .v _
    · intro J g' hJ hg'
      have hJ' : C.A 0 = some J := hJ
      rw [hA] at hJ'
      cases hJ'
      exact .inl (by simp [Ctx.blk, hA, hg'])

/-- Sorting nothing. -/
theorem p_sort0 {P : Program} {f : FuncId} (hen : enters P f = true) (hnone : ∀ p cap w, Calls P f #[.slice p 0 cap] w fun e w' => e = .returned (.tuple #[]) ∧ w' = w) (c : Bool) : Pure P f [.sl c []] (.tup []) := by
  refine ⟨hen, .tup _ (by simp), ?_⟩
  intro C vs hA hB hW hN hvs
  obtain ⟨x, hvx⟩ : ∃ x, vs = #[x] := by
    have h := hvs.1
    simp at h
    exact ⟨vs[0], Array.ext (by simp [← h]) fun i h1 h2 => by simp at h2; subst h2; rfl⟩
  subst hvx
  have hx : RV C (.sl c []) x := hvs.2 0 _ _ rfl rfl
  cases hx with
  | sl0 _ p cap =>
    refine (hnone p cap C.w).mono ?_
    rintro e' w' ⟨rfl, rfl⟩
    exact ⟨_, C, rfl, rfl, rfl, Keeps.refl C, hA, ⟨[], trivial, hB⟩, WExt.refl _ _ _, .tup [] #[] rfl (by simp)⟩
  | sl _ _ _ _ _ _ _ hne => exact absurd rfl hne


/-- A function that hands back a slice of no element and no room. -/
theorem acall_nil {G : Cfg} (V : G.Vers) (DS : DrawSound G) {f : FuncId} {fn : Func} {c : Code} (hf : G.P.funcs[f]? = some fn) (hb : fn.body = some c) {args : List AV} {bs : List (List AV)} (ha : args.length ≤ fn.ntmps) (hwr : ∀ k, G.wr k = true → bs.length ≤ k) (hmd : G.md = 0)
    (h : ∀ ver, acode G fn.ntmps c (fun e st => (e = .normal ∨ e = .ret) ∧ rawOf G fn.results.toList st = some .nil) ⟨startEnv args, ⟨bs, noArrs ver⟩⟩) : ACall G.P f args bs (fun _ => false) .nil (fun _ => True) := by
  intro C vs hA hB hW0 hN hvs
  have hlen : args.length = vs.size := by simpa using hvs.1
  have R : Rel G fn.ntmps C.w.heap.size [] C ⟨startEnv args, ⟨bs, noArrs C.ver⟩⟩ { tmps := vs ++ Array.replicate (fn.ntmps - vs.size) undef, defers := [] } := by
    refine ⟨⟨hB.len, hB.nodup, ?_, Nat.le_refl _, fun b h => ⟨hN b h, fun i I hI => (by rw [hA i] at hI; cases hI)⟩, hB.box, fun _ => rfl, fun i _ => hA i, fun i hl => (by cases hl), fun i I g hI => (by rw [hA i] at hI; cases hI), fun i I g hI => (by rw [hA i] at hI; cases hI), ⟨fun b h => (hW0 b h).1, fun b h => (hW0 b h).2, fun b i I _ hI => (by rw [hA i] at hI; cases hI), fun e => (by rw [hmd] at e; cases e)⟩, fun e => (by rw [hmd] at e; cases e)⟩, ?_, by simp; omega, rfl⟩
    · intro k b hk hw
      have h1 := hwr k hw
      have h2 := (List.getElem?_eq_some_iff.1 hk).1
      have h3 := hB.len
      omega
    · intro t
      simp only [startEnv]
      by_cases ht : t < args.length
      · have e1 : args.getD t .dead = args[t] := by simp [ht]
        have e2 : (vs ++ Array.replicate (fn.ntmps - vs.size) undef).getD t undef = vs[t] := by
          have : t < vs.size := by omega
          simp [Array.getElem?_append, this]
        rw [e1, e2]
        exact hvs.2 t _ _ (List.getElem?_eq_getElem ht) (by simp)
      · have e1 : args.getD t .dead = .dead := by simp [ht]
        rw [e1]
        exact .dead _
  refine calls_of_wp hf hb (wp_mono (acode_sound V DS c _ C C _ _ R (.of (Keeps.refl C)) (.of rfl) (WExt.refl _ _ _) (h C.ver)) ?_)
  rintro e a' w' ⟨D, st, rfl, ⟨he, hres⟩, R', KT, hnT, W⟩
  have K := KT (by rw [hmd]; decide)
  have hn := hnT (by rw [hmd]; decide)
  obtain ⟨v, hv, hr⟩ := res_raw R' hres
  have post : a'.defers = [] ∧ ∃ v, (results fn a'.tmps).run G.P D.w = .ok v D.w ∧ ∃ u C', Ending.returned v = .returned u ∧ C'.w = D.w ∧ C'.N0 = C.N0 ∧ Keeps C C' ∧ (∀ i, C'.A i = none) ∧ (∃ bs', True ∧ BoxOK C' bs') ∧
      WExt C.w.heap.size ((List.range C.bx.length).filterMap fun k => if (fun _ : Nat => false) k then C.bx[k]? else none) C.w D.w ∧ RV C' .nil u := by
    refine ⟨R'.defers, v, hv, v, D.done, rfl, rfl, hn, K.trans (done_keeps D), fun _ => rfl, ⟨st.mem.boxes, trivial, R'.mem.bxlen, R'.mem.nodup, fun b hb => R'.mem.bxin hb, ?_⟩, ?_, hr.keep (done_keeps D)⟩
    · intro k b cs h1 h2
      obtain ⟨cur, t, hc, hs, hrr⟩ := R'.mem.box k b cs h1 h2
      exact ⟨cur, t, hc, hs, fun j c x h3 h4 => (hrr j c x h3 h4).keep (done_keeps D)⟩
    · rw [wr_none]
      exact W
  rcases he with rfl | rfl
  · exact post
  · exact post

def kNil (G : Cfg) (rs : List ResultVar) : Exit → St → Prop
  | .normal, st => rawOf G rs st = some .nil
  | .ret, st => rawOf G rs st = some .nil
  | _, _ => False
theorem kNil_st {G : Cfg} {rs : List ResultVar} {e : Exit} {st st' : St} (h : st = st') : kNil G rs e st = kNil G rs e st' := by rw [h]
theorem kNil_normal {G : Cfg} {rs : List ResultVar} {st : St} : kNil G rs .normal st = (rawOf G rs st = some .nil) := rfl
theorem kNil_ret {G : Cfg} {rs : List ResultVar} {st : St} : kNil G rs .ret st = (rawOf G rs st = some .nil) := rfl
theorem nil_of_code {G : Cfg} (V : G.Vers) (hm : G.P.follows .mixedOrders = true) {f : FuncId} {fn : Func} {c : Code} (hf : G.P.funcs[f]? = some fn) (hb : fn.body = some c) (hn : fn.name ≠ "runtime.NumGoroutine") {args : List AV} (ha : args.length ≤ fn.ntmps)
    (h : ∀ ver, acode G fn.ntmps c (kNil G fn.results.toList) ⟨envOf (zipEnv 0 args), ⟨[], noArrs ver⟩⟩) (hmd : G.md = 0 := by rfl) : Pure G.P f args .nil := by
  refine ⟨?_, .nil, acall_nil V (draw_sound V hm) hf hb ha (fun _ _ => Nat.zero_le _) hmd fun ver => ?_⟩
  · simp [enters, hf, hb, hn]
  · rw [startEnv_eq]
    have e : (fun (e : Exit) (st : St) => (e = .normal ∨ e = .ret) ∧ rawOf G fn.results.toList st = some .nil) = kNil G fn.results.toList := by
      funext e st
      cases e <;> simp [kNil]
    rw [e]
    exact h ver
theorem nil_of_codeB {G : Cfg} (V : G.Vers) (hm : G.P.follows .mixedOrders = true) {f : FuncId} {fn : Func} {c : Code} (hf : G.P.funcs[f]? = some fn) (hb : fn.body = some c) (hn : fn.name ≠ "runtime.NumGoroutine") {args : List AV} {bs : List (List AV)} (ha : args.length ≤ fn.ntmps)
    (h : ∀ ver, acode G fn.ntmps c (kNil G fn.results.toList) ⟨envOf (zipEnv 0 args), ⟨bs, noArrs ver⟩⟩) (hwr : ∀ k, G.wr k = true → bs.length ≤ k) (hmd : G.md = 0 := by rfl) : BCall G.P f args bs .nil := by
  refine ⟨?_, .nil, acall_nil V (draw_sound V hm) hf hb ha hwr hmd fun ver => ?_⟩
  · simp [enters, hf, hb, hn]
  · rw [startEnv_eq]
    have e : (fun (e : Exit) (st : St) => (e = .normal ∨ e = .ret) ∧ rawOf G fn.results.toList st = some .nil) = kNil G fn.results.toList := by
      funext e st
      cases e <;> simp [kNil]
    rw [e]
    exact h ver

attribute [congr] kNil_st
attribute [simp] kNil_normal kNil_ret

end Go.Proofs.YtokhnmchnfkiiaaGreat.Am
