import Derived.Test.YtokhnmchnfkiiaaDoorAmCg3
/- Draws: the source of numbers that a draw reads, which is a box that it writes. No conditions. -/
namespace Go.Proofs.YtokhnmchnfkiiaaDoor.Am
open Go Go.RowKit Go.Proofs
set_option linter.unusedSimpArgs false
set_option linter.unusedVariables false

/-- One box may be written, and those that the function makes. -/
noncomputable def Gs (o : Nat → Bool) (k n : Nat) : Cfg := ⟨Tryd.prog, o, fun t => t == 25, fun j => j == k || decide (n ≤ j), 0⟩
theorem versS (o : Nat → Bool) (k n : Nat) : (Gs o k n).Vers := fun t h => vers0 t h
theorem scode {o : Nat → Bool} {f : FuncId} {fn : Func} {c : Code} (hf : Tryd.prog.funcs[f]? = some fn) (hb : fn.body = some c) (hn : fn.name ≠ "runtime.NumGoroutine") {args : List AV} {bs : List (List AV)} {k : Nat} (hk : k < bs.length) {s' : List AV} (ha : args.length ≤ fn.ntmps)
    {r : AV} (hr : r.In bs.length) (hin : ∀ c ∈ s', c.In bs.length) (h : ∀ ver, acode (Gs o k bs.length) fn.ntmps c (kSrc (Gs o k bs.length) fn.results.toList (bs.set k s') r) ⟨envOf (zipEnv 0 args), ⟨bs, noArrs ver⟩⟩) :
    SCall Tryd.prog f args bs (fun j => j == k) (bs.set k s') r := by
  refine src_of_code (G := Gs o k bs.length) (versS o k bs.length) mixed0 hf hb hn ha ?_ ?_ (by simpa using hr) (by simp) ?_ ?_ h
  · intro j h1 h2
    have h1' : (j == k || decide (bs.length ≤ j)) = true := h1
    simp only [Bool.or_eq_true, decide_eq_true_eq] at h1'
    rcases h1' with h | h
    · exact h
    · omega
  · intro j h
    show (j == k || decide (bs.length ≤ j)) = true
    simp [h]
  · intro j _ h
    have : j ≠ k := by simpa using h
    rw [List.getElem?_set_ne (fun e => this e.symm)]
  · intro j cs h1 h2 c hc
    rcases h2 with h2 | h2
    · have : j = k := by simpa using h2
      subst this
      rw [List.getElem?_set_self hk] at h1
      cases h1
      simpa using hin c hc
    · have := (List.getElem?_eq_some_iff.1 h1).1
      simp at this
      omega

theorem take_src (bs t : List (List AV)) (k : Nat) (s : List AV) : (bs.set k s ++ t).take bs.length = bs.set k s := by
  have : bs.length = (bs.set k s).length := by simp
  rw [this, List.take_left]
theorem take_src0 (bs : List (List AV)) (k : Nat) (s : List AV) : (bs.set k s).take bs.length = bs.set k s := by
  have : bs.length = (bs.set k s).length := by simp
  rw [this, List.take_length]
attribute [simp] take_src take_src0

@[reducible, simp] def bytCells (n : Int) : List AV := [.v (.int .u8 n)]
/-- The source: the bytes, and how many numbers have been drawn. -/
@[reducible, simp] def srcB (l : List Int) (a : Int) : List AV := [.sl true (l.map bytCells), .v (.int .i64 a)]
/-- Bytes. -/
def Byt (l : List Int) : Prop := l.length ≤ 1048576 ∧ ∀ b ∈ l, 0 ≤ b ∧ b < 256
/-- The number that is drawn. -/
def nextV (l : List Int) (a n : Int) : Int :=
  if n < 1 then 0 else if l = [] then (a * 7).tmod n else
    (if 200 < n then (l.getD (a.toNat % l.length) 0 + a / l.length * 37) * 251 + l.getD ((a.toNat + 1) % l.length) 0 * 13 + a else l.getD (a.toNat % l.length) 0 + a / l.length * 37).tmod n
theorem byt_at {l : List Int} (h : Byt l) (i : Nat) : 0 ≤ l.getD i 0 ∧ l.getD i 0 < 256 := by
  by_cases hi : i < l.length
  · rw [getD_at hi]
    exact h.2 _ (List.getElem_mem hi)
  · rw [List.getD, List.getElem?_eq_none (by omega)]
    exact ⟨by decide, by decide⟩
theorem nextV_rng {l : List Int} (h : Byt l) {a n : Int} (h0 : 0 ≤ a) (hn : 1 ≤ n) : 0 ≤ nextV l a n ∧ nextV l a n < n := by
  have key : ∀ v : Int, 0 ≤ v → 0 ≤ v.tmod n ∧ v.tmod n < n := fun v hv => ⟨Int.tmod_nonneg _ hv, Int.tmod_lt_of_pos _ (by omega)⟩
  have hq : 0 ≤ a / l.length := Int.ediv_nonneg h0 (by omega)
  have b1 := byt_at h (a.toNat % l.length)
  have b2 := byt_at h ((a.toNat + 1) % l.length)
  unfold nextV
  rw [if_neg (by omega)]
  split
  · exact key _ (by omega)
  · split
    · exact key _ (by omega)
    · exact key _ (by omega)

set_option maxHeartbeats 4000000 in
set_option maxRecDepth 10000 in
theorem d_next (l : List Int) (hb : Byt l) (bs : List (List AV)) (k : Nat) (a : Int) (hk : bs[k]? = some (srcB l a)) (h0 : 0 ≤ a) (h1 : a ≤ 1000000) (n : Int) (hn : n ≤ 1000000) :
    SCall Tryd.prog 90 [.box k 0, .v (.int .i64 n)] bs (fun j => j == k) (bs.set k (srcB l (a + 1))) (.v (.int .i64 (nextV l a n))) := by
  have hkl : k < bs.length := (List.getElem?_eq_some_iff.1 hk).1
  have w1 : IntKind.i64.wrap (a + 1) = a + 1 := IntWalk.i64_in _ (by omega)
  have w2 : IntKind.i64.wrap a = a := IntWalk.i64_in _ (by omega)
  refine scode (o := fun _ => false) Tryd.func90 rfl (by decide) hkl (by simp [Tryd.f90]) (by simp) (by simp) fun ver => ?_
  simp only [Tryd.f90, Gs]
  have hset : ∀ x, (bs.set k x)[k]? = some x := fun x => List.getElem?_set_self hkl
  by_cases hn1 : n < 1
  · have e : nextV l a n = 0 := by rw [nextV, if_pos hn1]
    simp [hk, hset, w1, hn1, e]
  have hn2 : 1 ≤ n := by omega
  by_cases hl : l = []
  · have e : nextV l a n = (a * 7).tmod n := by rw [nextV, if_neg hn1, if_pos hl]
    have w3 : IntKind.i64.wrap (a * 7) = a * 7 := IntWalk.i64_in _ (by omega)
    have hn3 : ¬ n = 0 := by omega
    subst hl
    simp [hk, hset, w1, w2, w3, hn1, hn2, hn3, e]
  have hn3 : ¬ n = 0 := by omega
  have hll : 0 < l.length := List.length_pos_iff.2 hl
  have hl0 : ¬ (l.length : Int) = 0 := by omega
  have hlm : (l.length : Int) ≤ 1048576 := by have := hb.1; omega
  obtain ⟨A, rfl⟩ : ∃ A : Nat, a = A := ⟨a.toNat, by omega⟩
  have q1 : (A : Int).tmod l.length = ((A % l.length : Nat) : Int) := by rw [Int.tmod_eq_emod_of_nonneg (by omega)]; simp
  have q2 : (A : Int).tdiv l.length = ((A / l.length : Nat) : Int) := by rw [Int.tdiv_eq_ediv_of_nonneg (by omega)]; simp
  have q3 : ((A : Int) + 1).tmod l.length = (((A + 1) % l.length : Nat) : Int) := by rw [Int.tmod_eq_emod_of_nonneg (by omega)]; simp
  have hQ : A / l.length ≤ A := Nat.div_le_self _ _
  obtain ⟨x1, x2⟩ := byt_at hb (A % l.length)
  obtain ⟨y1, y2⟩ := byt_at hb ((A + 1) % l.length)
  have gx : l[A % l.length]? = some (l.getD (A % l.length) 0) := by rw [getD_at (Nat.mod_lt _ hll)]; exact List.getElem?_eq_getElem _
  have gy : l[(A + 1) % l.length]? = some (l.getD ((A + 1) % l.length) 0) := by rw [getD_at (Nat.mod_lt _ hll)]; exact List.getElem?_eq_getElem _
  have e : nextV l A n = (if 200 < n then (l.getD (A % l.length) 0 + (A / l.length : Nat) * 37) * 251 + l.getD ((A + 1) % l.length) 0 * 13 + A else l.getD (A % l.length) 0 + (A / l.length : Nat) * 37).tmod n := by
    rw [nextV, if_neg hn1, if_neg hl]
    simp
  obtain ⟨I, hI⟩ : ∃ I, I = A % l.length := ⟨_, rfl⟩
  obtain ⟨J, hJ⟩ : ∃ J, J = (A + 1) % l.length := ⟨_, rfl⟩
  rw [← hI] at q1 x1 x2 gx e
  rw [← hJ] at q3 y1 y2 gy e
  obtain ⟨X, hX⟩ : ∃ X, X = l.getD I 0 := ⟨_, rfl⟩
  obtain ⟨Y, hY⟩ : ∃ Y, Y = l.getD J 0 := ⟨_, rfl⟩
  obtain ⟨Q, hQe⟩ : ∃ Q, Q = A / l.length := ⟨_, rfl⟩
  rw [← hX, ← hY, ← hQe] at e
  rw [← hX] at x1 x2 gx
  rw [← hY] at y1 y2 gy
  rw [← hQe] at hQ q2
  have w3 : IntKind.i64.wrap X = X := IntWalk.i64_in _ (by omega)
  have w4 : IntKind.i64.wrap ((Q : Int) * 37) = (Q : Int) * 37 := IntWalk.i64_in _ (by omega)
  have w5 : IntKind.i64.wrap (X + (Q : Int) * 37) = X + (Q : Int) * 37 := IntWalk.i64_in _ (by omega)
  have w6 : IntKind.i64.wrap ((X + (Q : Int) * 37) * 251) = (X + (Q : Int) * 37) * 251 := IntWalk.i64_in _ (by omega)
  have w7 : IntKind.i64.wrap Y = Y := IntWalk.i64_in _ (by omega)
  have w8 : IntKind.i64.wrap (Y * 13) = Y * 13 := IntWalk.i64_in _ (by omega)
  have w9 : IntKind.i64.wrap ((X + (Q : Int) * 37) * 251 + Y * 13) = (X + (Q : Int) * 37) * 251 + Y * 13 := IntWalk.i64_in _ (by omega)
  have w10 : IntKind.i64.wrap ((X + (Q : Int) * 37) * 251 + Y * 13 + A) = (X + (Q : Int) * 37) * 251 + Y * 13 + A := IntWalk.i64_in _ (by omega)
  have w11 : IntKind.i64.wrap (Q : Int) = Q := IntWalk.i64_in _ (by omega)
  simp [hk, hset, w1, w2, hn1, hn2, hl]
  refine adraw_all (by kernel_rfl) ?_
  simp [hk, hset, w1, w2, hn1, hn2, hl, q1, q2, gx, hl0, hll, w3, w4, w5, w11, hn3]
  by_cases h200 : 200 < n
  · rw [if_pos h200] at e
    have h201 : ¬ n ≤ 200 := by omega
    simp [h200, h201]
    refine adraw_all (by kernel_rfl) ?_
    simp [hk, hset, w1, w2, hn1, hn2, hl, q3, gy, hl0, hll, w6, w7, w8, w9, w10, hn3, e]
  · rw [if_neg h200] at e
    have h201 : n ≤ 200 := by omega
    simp [h200, h201, hn3, e]

end Go.Proofs.YtokhnmchnfkiiaaDoor.Am

/- Draws: calls that turn the caller's memory; the source, numbers from it. No conditions. -/
namespace Go.Proofs.YtokhnmchnfkiiaaDoor.Am
open Go Go.RowKit Go.Proofs
set_option linter.unusedSimpArgs false
set_option linter.unusedVariables false

/-- Functions that turn the caller's memory: the mode moves their arrays' places. -/
noncomputable def Gd (md : Nat) (o : Nat → Bool) : Cfg := ⟨Tryd.prog, o, fun t => t == 25, fun _ => true, md⟩
theorem versd (md : Nat) (o : Nat → Bool) : (Gd md o).Vers := fun t h => vers0 t h
theorem icok {own verT : Nat → Bool} {md : Nat} (h1 : md ≠ 1) (h2 : md ≠ 2) : (⟨Tryd.prog, own, verT, fun _ => true, md⟩ : Cfg).IcOK := ⟨h1, h2, fun _ => rfl⟩
theorem icode {md : Nat} {o : Nat → Bool} (h1 : md ≠ 1) (h2 : md ≠ 2) {f : FuncId} {fn : Func} {c : Code} (hf : Tryd.prog.funcs[f]? = some fn) (hb : fn.body = some c) (hn : fn.name ≠ "runtime.NumGoroutine") {args : List AV} (ha : args.length ≤ fn.ntmps)
    {m : Mem} {Q : AV → Mem → Prop} (h : acode (Gd md o) fn.ntmps c (kIC (Gd md o) fn.results.toList Q) ⟨envOf (zipEnv 0 args), m⟩) : ICall Tryd.prog m f args Q :=
  icall_of_code (G := Gd md o) (versd md o) mixed0 hf hb hn ha (icok h1 h2) h
theorem icall_mono {P : Program} {m : Mem} {f : FuncId} {args : List AV} {Q R : AV → Mem → Prop} (h : ICall P m f args Q) (k : ∀ r m', Q r m' → R r m') : ICall P m f args R :=
  ⟨h.1, fun base bx0 C vs M hv => (h.2 base bx0 C vs M hv).mono fun e w' ⟨v, r, m', h1, h2, h3⟩ => ⟨v, r, m', h1, k r m' h2, h3⟩⟩
/-- A function that writes a box: as such a call. -/
theorem icall_src {P : Program} {m : Mem} {f : FuncId} {args : List AV} {w : Nat → Bool} {bs' : List (List AV)} {r : AV} (h : SCall P f args m.boxes w bs' r) : ICall P m f args fun r' m' => r' = r ∧ m' = ⟨bs', m.arrs⟩ := by
  refine ⟨h.1, fun base bx0 C vs M hv => ?_⟩
  refine (src_call (G := Gi P) M h (fun _ _ _ => rfl) hv).mono ?_
  rintro e w' ⟨v, rfl, hN⟩
  exact ⟨v, r, _, rfl, ⟨rfl, rfl⟩, hN⟩

theorem isBox {bs : List (List AV)} {k : Nat} {s : List AV} (h : bs[k]? = some s) : k < bs.length := (List.getElem?_eq_some_iff.1 h).1
theorem box_app {bs : List (List AV)} {k : Nat} {s : List AV} (h : bs[k]? = some s) (x : List AV) : (bs ++ [x])[k]? = some s := by rw [List.getElem?_append_left (isBox h)]; exact h
theorem box_set {bs : List (List AV)} {k j : Nat} {s : List AV} (h : bs[k]? = some s) (hj : j ≠ k) (x : List AV) : (bs.set j x)[k]? = some s := by rw [List.getElem?_set_ne hj]; exact h
theorem box_put {bs : List (List AV)} {k : Nat} {s : List AV} (h : bs[k]? = some s) (x : List AV) : (bs.set k x)[k]? = some x := List.getElem?_set_self (isBox h)
/-- Since m0: the source in box k stands at a; all other boxes hold what they held; there may be new ones. -/
structure At (l : List Int) (k : Nat) (a : Int) (m0 m : Mem) : Prop where
  src : m.boxes[k]? = some (srcB l a)
  len : m0.boxes.length ≤ m.boxes.length
  same : ∀ j, j < m0.boxes.length → j ≠ k → m.boxes[j]? = m0.boxes[j]?
theorem At.refl {l : List Int} {k : Nat} {a : Int} {m : Mem} (h : m.boxes[k]? = some (srcB l a)) : At l k a m m := ⟨h, Nat.le_refl _, fun _ _ _ => rfl⟩
theorem At.trans {l : List Int} {k : Nat} {a b : Int} {m0 m1 m2 : Mem} (h : At l k a m0 m1) (g : At l k b m1 m2) : At l k b m0 m2 :=
  ⟨g.src, Nat.le_trans h.len g.len, fun j hj hk => (g.same j (Nat.lt_of_lt_of_le hj h.len) hk).trans (h.same j hj hk)⟩
theorem At.app {l : List Int} {k : Nat} {a : Int} {m0 m1 : Mem} (h : At l k a m0 m1) (z : List AV) (A : Nat → ArrSt) : At l k a m0 ⟨m1.boxes ++ [z], A⟩ :=
  ⟨box_app h.src z, by have := h.len; simp; omega, fun j hj hk => by
    show (m1.boxes ++ [z])[j]? = _
    rw [List.getElem?_append_left (Nat.lt_of_lt_of_le hj h.len)]
    exact h.same j hj hk⟩
theorem At.put {l : List Int} {k : Nat} {a : Int} {m0 m1 : Mem} (h : At l k a m0 m1) {N : Nat} (hN : m0.boxes.length ≤ N) (hk : N ≠ k) (x : List AV) (A : Nat → ArrSt) : At l k a m0 ⟨m1.boxes.set N x, A⟩ :=
  ⟨box_set h.src hk x, by have := h.len; simp; omega, fun j hj hjk => by
    show (m1.boxes.set N x)[j]? = _
    rw [List.getElem?_set_ne (by omega)]
    exact h.same j hj hjk⟩
theorem At.arr {l : List Int} {k : Nat} {a : Int} {m0 m1 : Mem} (h : At l k a m0 m1) (A : Nat → ArrSt) : At l k a m0 ⟨m1.boxes, A⟩ := ⟨h.src, h.len, h.same⟩
theorem At.box {l : List Int} {k : Nat} {a : Int} {m0 m1 : Mem} (h : At l k a m0 m1) {j : Nat} {z : List AV} (hj : m0.boxes[j]? = some z) (hk : j ≠ k) : m1.boxes[j]? = some z := (h.same j (isBox hj) hk).trans hj
theorem At.new {l : List Int} {k : Nat} {a : Int} {m : Mem} {z : List AV} {A : Nat → ArrSt} {m1 : Mem} (h : At l k a ⟨m.boxes ++ [z], A⟩ m1) (hk : m.boxes.length ≠ k) : m1.boxes[m.boxes.length]? = some z := h.box (by simp) hk
/-- At most n numbers have been drawn. -/
def Drew (l : List Int) (k : Nat) (a n : Int) (m m' : Mem) : Prop := ∃ a', (a ≤ a' ∧ a' ≤ a + n) ∧ At l k a' m m' ∧ m'.arrs = m.arrs

section
variable (l : List Int) (hb : Byt l) (m : Mem) (k : Nat) (a : Int) (hk : m.boxes[k]? = some (srcB l a)) (h0 : 0 ≤ a) (h1 : a ≤ 1000000)
include hb hk h0 h1

theorem i_next (n : Int) (n1 : 1 ≤ n) (n2 : n ≤ 1000000) : ICall Tryd.prog m 90 [.box k 0, .v (.int .i64 n)] (fun r m' => (∃ v, r = .v (.int .i64 v) ∧ 0 ≤ v ∧ v < n) ∧ Drew l k a 1 m m') := by
  refine icall_mono (icall_src (d_next l hb m.boxes k a hk h0 h1 n n2)) ?_
  rintro r m' ⟨rfl, rfl⟩
  exact ⟨⟨_, rfl, nextV_rng hb h0 n1⟩, a + 1, ⟨by omega, by omega⟩, ⟨box_put hk _, by simp, fun j _ hj => List.getElem?_set_ne (fun e => hj e.symm)⟩, rfl⟩

theorem i_chance (n : Int) (n1 : 1 ≤ n) (n2 : n ≤ 1000000) : ICall Tryd.prog m 69 [.box k 0, .v (.int .i64 n)] (fun r m' => (∃ b : Bool, r = .v (.bool b)) ∧ Drew l k a 1 m m') := by
  refine icode (md := 3) (o := fun _ => false) (by decide) (by decide) Tryd.func69 rfl (by decide) (by simp [Tryd.f69]) ?_
  simp only [Tryd.f69, Gd]
  simp
  refine call_ic (i_next l hb m k a hk h0 h1 n n1 n2) rfl (by simp) (icok (by decide) (by decide)) ?_
  rintro r m' ⟨⟨v, rfl, v1, v2⟩, hD⟩
  simp
  refine kice_x ?_
  simp
  exact ⟨(Classical.em _).symm, hD⟩

theorem i_pick (c : Bool) (q : List Int) (hne : q ≠ []) (hq : q.length ≤ 1000000) : ICall Tryd.prog m 91 [.box k 0, intsAV c q] (fun r m' => (∃ v, r = .v (.int .i64 v) ∧ v ∈ q) ∧ Drew l k a 1 m m') := by
  have hl : 0 < q.length := List.length_pos_iff.2 hne
  refine icode (md := 3) (o := fun _ => false) (by decide) (by decide) Tryd.func91 rfl (by decide) (by simp [Tryd.f91]) ?_
  simp only [Tryd.f91, Gd]
  simp
  refine call_ic (i_next l hb m k a hk h0 h1 q.length (by omega) (by omega)) rfl (by simp) (icok (by decide) (by decide)) ?_
  rintro r m' ⟨⟨v, rfl, v1, v2⟩, hD⟩
  have hlt : v.toNat < q.length := by omega
  have hg : q[v.toNat]? = some (q.getD v.toNat 0) := by rw [getD_at hlt]; exact List.getElem?_eq_getElem hlt
  have hm : q.getD v.toNat 0 ∈ q := by rw [getD_at hlt]; exact List.getElem_mem hlt
  obtain ⟨z, hz⟩ : ∃ z, z = q.getD v.toNat 0 := ⟨_, rfl⟩
  rw [← hz] at hg hm
  simp [v1, hg]
  refine kice_x ?_
  simp
  exact ⟨hm, hD⟩
end

theorem i_source (l : List Int) (m : Mem) : ICall Tryd.prog m 55 [.sl true (l.map bytCells)] (fun r m' => r = .box m.boxes.length 0 ∧ m' = ⟨m.boxes ++ [srcB l 0], m.arrs⟩) := by
  refine icode (md := 3) (o := fun _ => false) (by decide) (by decide) Tryd.func55 rfl (by decide) (by simp [Tryd.f55]) ?_
  simp only [Tryd.f55, Gd]
  simp
  refine kice_x ?_
  simp

end Go.Proofs.YtokhnmchnfkiiaaDoor.Am
