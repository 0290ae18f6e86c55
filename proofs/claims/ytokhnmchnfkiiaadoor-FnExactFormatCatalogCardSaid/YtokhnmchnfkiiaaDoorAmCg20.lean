import Derived.Test.YtokhnmchnfkiiaaDoorAmCg3
/- Draws: the source of numbers that a draw reads, which is a box that it writes. No conditions. -/
namespace Go.Proofs.YtokhnmchnfkiiaaDoor.Am
open Go Go.RowKit Go.Proofs
set_option linter.unusedSimpArgs false
set_option linter.unusedVariables false

/-- One box may be written, and those that the function makes. -/
noncomputable def Gs (o : Nat → Bool) (k n : Nat) : Cfg := ⟨Tryd.prog, o, fun t => t == 25, fun j => j == k || decide (n ≤ j), 0⟩
theorem versS (o : Nat → Bool) (k n : Nat) : (Gs o k n).Vers := fun t h => vers0 t h
theorem scode {o : Nat → Bool} {f : FuncId} {fn : Func} {c : Code} (hf : Tryd.prog.funcs[f]? = some fn) (hb : fn.body = some c) (hn : fn.name ≠ "runtime.NumGoroutine") {args : List AV} {bs : List (List AV)} {k : Nat} (hk : k < bs.length) {s' : List AV} (ha : args.length ≤ fn.ntmps)
    {r : AV} (hr : r.In bs.length) (hin : ∀ c ∈ s', c.In bs.length) (h : ∀ ver, acode (Gs o k bs.length) fn.ntmps c (kSrc (Gs o k bs.length) fn.results.toList (bs.set k s') r) ⟨envOf (zipEnv 0 args), ⟨bs, noArrs ver⟩⟩) :
    SCall Tryd.prog f args bs (fun j => j == k) (bs.set k s') r := by
  refine src_of_code (G := Gs o k bs.length) (versS o k bs.length) mixed0 hf hb hn ha ?_ ?_ (by simpa using hr) (by simp) ?_ ?_ h
  · intro j h1 h2
    have h1' : (j == k || decide (bs.length ≤ j)) = true := h1
    simp only [Bool.or_eq_true, decide_eq_true_eq] at h1'
    rcases h1' with h | h
    · exact h
    · omega
  · intro j h
    show (j == k || decide (bs.length ≤ j)) = true
    simp [h]
  · intro j _ h
    have : j ≠ k := by simpa using h
    rw [List.getElem?_set_ne (fun e => this e.symm)]
  · intro j cs h1 h2 c hc
    rcases h2 with h2 | h2
    · have : j = k := by simpa using h2
      subst this
      rw [List.getElem?_set_self hk] at h1
      cases h1
      simpa using hin c hc
    · have := (List.getElem?_eq_some_iff.1 h1).1
      simp at this
      omega

theorem take_src (bs t : List (List AV)) (k : Nat) (s : List AV) : (bs.set k s ++ t).take bs.length = bs.set k s := by
  have : bs.length = (bs.set k s).length := by simp
  rw [this, List.take_left]
theorem take_src0 (bs : List (List AV)) (k : Nat) (s : List AV) : (bs.set k s).take bs.length = bs.set k s := by
  have : bs.length = (bs.set k s).length := by simp
  rw [this, List.take_length]
attribute [simp] take_src take_src0

@[reducible, simp] def bytCells (n : Int) : List AV := [.v (.int .u8 n)]
/-- The source: the bytes, and how many numbers have been drawn. -/
@[reducible, simp] def srcB (l : List Int) (a : Int) : List AV := [.sl true (l.map bytCells), .v (.int .i64 a)]
/-- Bytes. -/
def Byt (l : List Int) : Prop := l.length ≤ 1048576 ∧ ∀ b ∈ l, 0 ≤ b ∧ b < 256
/-- The number that is drawn. -/
def nextV (l : List Int) (a n : Int) : Int :=
  if n < 1 then 0 else if l = [] then (a * 7).tmod n else
    (if 200 < n then (l.getD (a.toNat % l.length) 0 + a / l.length * 37) * 251 + l.getD ((a.toNat + 1) % l.length) 0 * 13 + a else l.getD (a.toNat % l.length) 0 + a / l.length * 37).tmod n
theorem byt_at {l : List Int} (h : Byt l) (i : Nat) : 0 ≤ l.getD i 0 ∧ l.getD i 0 < 256 := by
  by_cases hi : i < l.length
  · rw [getD_at hi]
    exact h.2 _ (List.getElem_mem hi)
  · rw [List.getD, List.getElem?_eq_none (by omega)]
    exact ⟨by decide, by decide⟩
theorem nextV_rng {l : List Int} (h : Byt l) {a n : Int} (h0 : 0 ≤ a) (hn : 1 ≤ n) : 0 ≤ nextV l a n ∧ nextV l a n < n := by
  have key : ∀ v : Int, 0 ≤ v → 0 ≤ v.tmod n ∧ v.tmod n < n := fun v hv => ⟨Int.tmod_nonneg _ hv, Int.tmod_lt_of_pos _ (by omega)⟩
  have hq : 0 ≤ a / l.length := Int.ediv_nonneg h0 (by omega)
  have b1 := byt_at h (a.toNat % l.length)
  have b2 := byt_at h ((a.toNat + 1) % l.length)
  unfold nextV
  rw [if_neg (by omega)]
  split
  · exact key _ (by omega)
  · split
    · exact key _ (by omega)
    · exact key _ (by omega)

set_option maxHeartbeats 4000000 in
set_option maxRecDepth 10000 in
theorem d_next (l : List Int) (hb : Byt l) (bs : List (List AV)) (k : Nat) (a : Int) (hk : bs[k]? = some (srcB l a)) (h0 : 0 ≤ a) (h1 : a ≤ 1000000) (n : Int) (hn : n ≤ 1000000) :
    SCall Tryd.prog 90 [.box k 0, .v (.int .i64 n)] bs (fun j => j == k) (bs.set k (srcB l (a + 1))) (.v (.int .i64 (nextV l a n))) := by
  have hkl : k < bs.length := (List.getElem?_eq_some_iff.1 hk).1
  have w1 : IntKind.i64.wrap (a + 1) = a + 1 := IntWalk.i64_in _ (by omega)
  have w2 : IntKind.i64.wrap a = a := IntWalk.i64_in _ (by omega)
  refine scode (o := fun _ => false) Tryd.func90 rfl (by decide) hkl (by simp [Tryd.f90]) (by simp) (by simp) fun ver => ?_
  simp only [Tryd.f90, Gs]
  have hset : ∀ x, (bs.set k x)[k]? = some x := fun x => List.getElem?_set_self hkl
  by_cases hn1 : n < 1
  · have e : nextV l a n = 0 := by rw [nextV, if_pos hn1]
    simp [hk, hset, w1, hn1, e]
  have hn2 : 1 ≤ n := by omega
  by_cases hl : l = []
  · have e : nextV l a n = (a * 7).tmod n := by rw [nextV, if_neg hn1, if_pos hl]
    have w3 : IntKind.i64.wrap (a * 7) = a * 7 := IntWalk.i64_in _ (by omega)
    have hn3 : ¬ n = 0 := by omega
    subst hl
    simp [hk, hset, w1, w2, w3, hn1, hn2, hn3, e]
  have hn3 : ¬ n = 0 := by omega
  have hll : 0 < l.length := List.length_pos_iff.2 hl
  have hl0 : ¬ (l.length : Int) = 0 := by omega
  have hlm : (l.length : Int) ≤ 1048576 := by have := hb.1; omega
  obtain ⟨A, rfl⟩ : ∃ A : Nat, a = A := ⟨a.toNat, by omega⟩
  have q1 : (A : Int).tmod l.length = ((A % l.length : Nat) : Int) := by rw [Int.tmod_eq_emod_of_nonneg (by omega)]; simp
  have q2 : (A : Int).tdiv l.length = ((A / l.length : Nat) : Int) := by rw [Int.tdiv_eq_ediv_of_nonneg (by omega)]; simp
  have q3 : ((A : Int) + 1).tmod l.length = (((A + 1) % l.length : Nat) : Int) := by rw [Int.tmod_eq_emod_of_nonneg (by omega)]; simp
  have hQ : A / l.length ≤ A := Nat.div_le_self _ _
  obtain ⟨x1, x2⟩ := byt_at hb (A % l.length)
  obtain ⟨y1, y2⟩ := byt_at hb ((A + 1) % l.length)
  have gx : l[A % l.length]? = some (l.getD (A % l.length) 0) := by rw [getD_at (Nat.mod_lt _ hll)]; exact List.getElem?_eq_getElem _
  have gy : l[(A + 1) % l.length]? = some (l.getD ((A + 1) % l.length) 0) := by rw [getD_at (Nat.mod_lt _ hll)]; exact List.getElem?_eq_getElem _
  have e : nextV l A n = (if 200 < n then (l.getD (A % l.length) 0 + (A / l.length : Nat) * 37) * 251 + l.getD ((A + 1) % l.length) 0 * 13 + A else l.getD (A % l.length) 0 + (A / l.length : Nat) * 37).tmod n := by
    rw [nextV, if_neg hn1, if_neg hl]
    simp
  obtain ⟨I, hI⟩ : ∃ I, I = A % l.length := ⟨_, rfl⟩
  obtain ⟨J, hJ⟩ : ∃ J, J = (A + 1) % l.length := ⟨_, rfl⟩
  rw [← hI] at q1 x1 x2 gx e
  rw [← hJ] at q3 y1 y2 gy e
  obtain ⟨X, hX⟩ : ∃ X, X = l.getD I 0 := ⟨_, rfl⟩
  obtain ⟨Y, hY⟩ : ∃ Y, Y = l.getD J 0 := ⟨_, rfl⟩
  obtain ⟨Q, hQe⟩ : ∃ Q, Q = A / l.length := ⟨_, rfl⟩
  rw [← hX, ← hY, ← hQe] at e
  rw [← hX] at x1 x2 gx
  rw [← hY] at y1 y2 gy
  rw [← hQe] at hQ q2
  have w3 : IntKind.i64.wrap X = X := IntWalk.i64_in _ (by omega)
  have w4 : IntKind.i64.wrap ((Q : Int) * 37) = (Q : Int) * 37 := IntWalk.i64_in _ (by omega)
  have w5 : IntKind.i64.wrap (X + (Q : Int) * 37) = X + (Q : Int) * 37 := IntWalk.i64_in _ (by omega)
  have w6 : IntKind.i64.wrap ((X + (Q : Int) * 37) * 251) = (X + (Q : Int) * 37) * 251 := IntWalk.i64_in _ (by omega)
  have w7 : IntKind.i64.wrap Y = Y := IntWalk.i64_in _ (by omega)
  have w8 : IntKind.i64.wrap (Y * 13) = Y * 13 := IntWalk.i64_in _ (by omega)
  have w9 : IntKind.i64.wrap ((X + (Q : Int) * 37) * 251 + Y * 13) = (X + (Q : Int) * 37) * 251 + Y * 13 := IntWalk.i64_in _ (by omega)
  have w10 : IntKind.i64.wrap ((X + (Q : Int) * 37) * 251 + Y * 13 + A) = (X + (Q : Int) * 37) * 251 + Y * 13 + A := IntWalk.i64_in _ (by omega)
  have w11 : IntKind.i64.wrap (Q : Int) = Q := IntWalk.i64_in _ (by omega)
  simp [hk, hset, w1, w2, hn1, hn2, hl]
  refine adraw_all (by kernel_rfl) ?_
  simp [hk, hset, w1, w2, hn1, hn2, hl, q1, q2, gx, hl0, hll, w3, w4, w5, w11, hn3]
  by_cases h200 : 200 < n
  · rw [if_pos h200] at e
    have h201 : ¬ n ≤ 200 := by omega
    simp [h200, h201]
    refine adraw_all (by kernel_rfl) ?_
    simp [hk, hset, w1, w2, hn1, hn2, hl, q3, gy, hl0, hll, w6, w7, w8, w9, w10, hn3, e]
  · rw [if_neg h200] at e
    have h201 : n ≤ 200 := by omega
    simp [h200, h201, hn3, e]

end Go.Proofs.YtokhnmchnfkiiaaDoor.Am
