/- strings.Split at one byte, by the shelf's contract; the reference's own. No conditions. -/
import Derived.Test.YtokhnmchnfkiiaaDoorAmF1
import Derived.Test.YtokhnmchnfkiiaaDoorAmCg2
import Derived.Test.YtokhnmchnfkiiaaDoorAmShelf
namespace Go.Proofs.YtokhnmchnfkiiaaDoor.Am
open Go Go.RowKit Go.Proofs
set_option linter.unusedSimpArgs false
set_option linter.unusedVariables false

theorem max_of {C : Ctx} (hg : GlobOK C) : ∃ m, C.w.cell? ⟨tabMax, 0, none⟩ = some (.int .i64 m) := by
  obtain ⟨_, _, cs, t, fr, h, m, hm⟩ := hg (tabMax, fun cs => ∃ m, cs[0]? = some (.int .i64 m)) (by simp [tabs])
  refine ⟨m, ?_⟩
  have h' : C.w.heap[tabMax]? = some (.cells cs t fr) := h
  simp only [World.cell?, h']
  exact hm

theorem q_split (s : ByteArray) (hs : s.size ≤ 1048576) (c : UInt8) : Pure Tryd.prog 48 [.v (.string s), .v (.string ⟨#[c]⟩)] (strsAV false (pcs s c s.size 0 0)) := by
  refine ⟨by kernel_rfl, .sl _ _ rfl (fr_str _), ?_⟩
  intro C vs hA hB hW hN hvs
  obtain ⟨a, b, hab⟩ : ∃ a b, vs = #[a, b] := by
    have h := hvs.1
    simp at h
    exact ⟨vs[0], vs[1], Array.ext (by simp [← h]) fun i h1 h2 => by
      have : i < 2 := by simpa using h2
      match i, this with
      | 0, _ => rfl
      | 1, _ => rfl⟩
  subst hab
  have ha := rv_v (hvs.2 0 _ a rfl rfl)
  have hb := rv_v (hvs.2 1 _ b rfl rfl)
  subst ha hb
  obtain ⟨m, hm⟩ := max_of hB.glob
  have hc := Any.strings_Split { m146 with } m146.i9 s ⟨#[c]⟩ m C.w (by omega) hm (Nat.le_refl 1)
  refine hc.mono ?_
  rintro e w' ⟨rfl, rfl⟩
  have hlen : (Lib.splitB ⟨#[c]⟩ 0 (Lib.countB s ⟨#[c]⟩) s).length = Lib.countB s ⟨#[c]⟩ + 1 := Lib.splitB_all ⟨#[c]⟩ (Nat.le_refl 1) 0 _ s rfl
  rw [← hlen, split_pcs]
  obtain ⟨L, hL⟩ : ∃ L, L = pcs s c s.size 0 0 := ⟨_, rfl⟩
  rw [split_pcs, ← hL] at hlen
  rw [← hL]
  have hne : L ≠ [] := by intro e; rw [e] at hlen; simp at hlen
  obtain ⟨o, ho⟩ : ∃ o : Obj, o = .cells (L.map Value.string).toArray (m146_ren.t 9) := ⟨_, rfl⟩
  rw [← ho]
  have K : Keeps C { C with w := C.w.alloc o } := ⟨by simp, fun _ _ _ h => h, fun b hb _ => Go.heap_alloc_old _ _ hb, fun _ _ h => h, fun _ => Nat.le_refl _, fun _ I h _ => ⟨I, h, rfl, rfl, rfl⟩, rfl, fun b hb _ => .of_block (Go.heap_alloc_old _ _ hb)⟩
  have hbx : C.bx = [] := List.eq_nil_of_length_eq_zero hB.len
  have hnew : (C.w.alloc o).heap[C.w.heap.size]? = some o := Go.heap_alloc_new C.w o
  have hcell : ∀ i (x : ByteArray), L[i]? = some x → (C.w.alloc o).cell? ⟨C.w.heap.size, i, none⟩ = some (.string x) := by
    intro i x hx
    have hnew' : (C.w.alloc o).heap[C.w.heap.size]? = some (.cells (L.map Value.string).toArray (m146_ren.t 9) (0, 0)) := by rw [hnew, ho]
    unfold World.cell?
    simp only
    rw [hnew']
    simp [hx]
  refine ⟨_, { C with w := C.w.alloc o }, rfl, rfl, rfl, K, hA, ⟨[], trivial, ⟨by rw [hbx]; rfl, by rw [hbx]; exact List.nodup_nil, fun b h => (by rw [hbx] at h; cases h), fun k b cs h => (by rw [hbx] at h; simp at h), hB.glob.keep K⟩⟩, ⟨rfl, rfl, rfl, by simp, fun b hb _ => Go.heap_alloc_old _ _ hb⟩, ?_⟩
  have hl2 : L.length = (L.map strCells).length := by simp
  have e1 : Value.slice (some ⟨C.w.heap.size, 0, none⟩) L.length L.length = Value.slice (some ⟨C.w.heap.size, 0, none⟩) (L.map strCells).length L.length := by rw [← hl2]
  rw [e1]
  refine .sl false (L.map strCells) C.w.heap.size 0 1 L.length (fun i _ => .string (L.getD i ⟨#[]⟩)) (by simpa using hne) (by simp) ?_ (fun _ => ⟨_, _, by rw [ho] at hnew; rw [ho]; exact hnew⟩) (by simp) (by simp) ?_ ?_
  · rintro ((h | h) | h | ⟨i, I, h, _⟩)
    · have := hN _ h; omega
    · have := (hW _ h).1.lt; omega
    · rw [show ({ C with w := C.w.alloc o } : Ctx).bx = C.bx from rfl, hbx] at h; cases h
    · rw [show ({ C with w := C.w.alloc o } : Ctx).A i = C.A i from rfl, hA i] at h; cases h
  · intro i j e c' h1 h2
    rw [List.getElem?_map] at h1
    obtain ⟨x, hx, rfl⟩ := Option.map_eq_some_iff.1 h1
    have hj : j = 0 := by
      cases j with
      | zero => rfl
      | succ j => simp at h2
    subst hj
    have := hcell i x hx
    simpa [List.getD, hx] using this
  · intro i j e c' h1 h2
    rw [List.getElem?_map] at h1
    obtain ⟨x, hx, rfl⟩ := Option.map_eq_some_iff.1 h1
    have hj : j = 0 := by
      cases j with
      | zero => rfl
      | succ j => simp at h2
    subst hj
    simp at h2
    subst h2
    simp [List.getD, hx]
    exact .v _

/-! ### The reference's -/

def arrU (p v : Nat) (e : TypeId) (es : List (List AV)) (ver : Nat → Nat) : Nat → ArrSt := fun j => if j = p then ⟨v, true, e, es⟩ else noArrs ver j

set_option maxHeartbeats 4000000 in
theorem p_parts (s : ByteArray) (hs : s.size ≤ 1048576) (c : UInt8) : Pure Tryd.prog 46 [.v (.string s), .v (.int .u8 (c.toNat : Int))] (strsAV false (pcs s c s.size 0 0)) := by
  obtain ⟨R, hR⟩ : ∃ R, R = pcs s c s.size 0 0 := ⟨_, rfl⟩
  rw [← hR]
  refine pure_of_code (G := (Go1 8)) (verso 8) mixed0 Tryd.func46 rfl (by decide) (by simp [Tryd.f46]) (by simp) fun ver => ?_
  simp only [Tryd.f46, Go1]
  simp [Mem.made, sealRows]
  refine aloop (α := Nat × Nat × Nat × List ByteArray) (fun q => ⟨envOf [(0, .v (.string s)), (1, .v (.int .u8 (c.toNat : Int))), (5, .arr 8 q.2.2.1 0 q.2.2.2.length), (6, .v (.int .i64 q.2.1)), (7, .v (.int .i64 q.1))], ⟨[], arrU 8 q.2.2.1 9 (q.2.2.2.map strCells) ver⟩⟩)
    (fun q => q.1 ≤ s.size + 1 ∧ q.2.1 ≤ q.1 ∧ q.2.2.2.length ≤ q.1 ∧ (if q.1 ≤ s.size then q.2.2.2 ++ pcs s c (s.size - q.1) q.2.1 q.1 else q.2.2.2) = R) (fun q => s.size + 1 - q.1) (0, 0, ver 8 + 1, []) (less_envOf (by simp [noArrs]) (by simp) (by intro j; simp [arrU, noArrs])) (by simp [hR]) ?_
  rintro ⟨i, a, w, out⟩ ⟨h1, h2, h3, h4⟩
  simp only at h1 h2 h3 h4 ⊢
  by_cases hle : i ≤ s.size
  · rw [if_pos hle] at h4
    have hw : IntKind.i64.wrap ((i : Int) + 1) = ((i + 1 : Nat) : Int) := by rw [IntWalk.i64_in _ (by omega)]; omega
    have hlei : (i : Int) ≤ s.size := by omega
    have hro : (out.length + 1) * 16 ≤ 140737488355328 := by omega
    have h2i : (a : Int) ≤ (i : Int) := by omega
    by_cases he : i = s.size
    · subst he
      rw [Nat.sub_self, pcs] at h4
      have hn : ¬ s.size + 1 ≤ s.size := by omega
      simp [h2, aappend, sealRows, sealCells, hro, arrU]
      refine ⟨s.size + 1, s.size + 1, w + 1, out ++ [s.extract a s.size], less_envOf (by simp [hw]) (by simp) (by intro j; by_cases hj : j = 8 <;> simp [hj, arrU]), ⟨by omega, by omega, by simp; omega, ?_⟩, by omega⟩
      rw [if_neg hn]
      exact h4
    · have hlt : i < s.size := by omega
      have hlti : (i : Int) < s.size := by omega
      have hei : ¬ (i : Int) = s.size := by omega
      have hk : s.size - i = (s.size - (i + 1)) + 1 := by omega
      have hle2 : i + 1 ≤ s.size := by omega
      rw [hk, pcs] at h4
      have hb : bAt s i = ((s.data.toList.getD i 0).toNat : Int) := rfl
      by_cases hc : s.data.toList.getD i 0 = c
      · have hbc : bAt s i = (c.toNat : Int) := by rw [hb, hc]
        rw [if_pos hc] at h4
        simp [hle, hlt, hlti, he, hei, hbc, h2, aappend, sealRows, sealCells, hro, arrU]
        refine ⟨i + 1, i + 1, w + 1, out ++ [s.extract a i], less_envOf (by simp [hw]) (by simp) (by intro j; by_cases hj : j = 8 <;> simp [hj, arrU]), ⟨by omega, by omega, by simp; omega, ?_⟩, by omega⟩
        rw [if_pos hle2, List.append_assoc]
        exact h4
      · have hbc : ¬ bAt s i = (c.toNat : Int) := by
          rw [hb]
          intro h
          apply hc
          have h5 : (s.data.toList.getD i 0).toNat = c.toNat := by omega
          exact UInt8.toNat_inj.1 h5
        rw [if_neg hc] at h4
        simp [hle, hlt, hlti, he, hei, hbc]
        refine ⟨i + 1, a, w, out, less_envOf (by simp [hw]) (by simp) (by intro j; rfl), ⟨by omega, by omega, by omega, ?_⟩, by omega⟩
        rw [if_pos hle2]
        exact h4
  · rw [if_neg hle] at h4
    subst h4
    have hlei : ¬ (i : Int) ≤ s.size := by omega
    simp [hle, hlei, arrU]

end Go.Proofs.YtokhnmchnfkiiaaDoor.Am
