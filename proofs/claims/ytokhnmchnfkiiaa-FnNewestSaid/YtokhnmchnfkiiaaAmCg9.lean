import Derived.Test.YtokhnmchnfkiiaaAmCg4
import Derived.Test.YtokhnmchnfkiiaaAmCg5
import Derived.Test.YtokhnmchnfkiiaaAmCg6
import Derived.Test.YtokhnmchnfkiiaaAmCg8
/- Lists of faults as the laws' helpers meet them; the faults of a set, as both sides hand them out. No conditions. -/
namespace Go.Proofs.Ytokhnmchnfkiiaa.Am
open Go Go.RowKit Go.Proofs
set_option linter.unusedSimpArgs false
set_option linter.unusedVariables false

def mkFlt (k : Int) : Int × Int × Int := (k, k + 1, k + 2)
def mflts (k : Int) (n : Nat) : List (Int × Int × Int) := (List.range n).map fun i => mkFlt (k + ((3 * i : Nat) : Int))
@[simp] theorem mflts_length (k : Int) (n : Nat) : (mflts k n).length = n := by simp [mflts]
theorem mflts_succ (k : Int) (n : Nat) : mflts k (n + 1) = mflts k n ++ [mkFlt (k + ((3 * n : Nat) : Int))] := by simp [mflts, List.range_succ]
theorem mflts_get {k : Int} {n i : Nat} (h : i < n) : (mflts k n)[i]? = some (mkFlt (k + ((3 * i : Nat) : Int))) := by
  rw [List.getElem?_eq_getElem (by simpa using h)]
  simp [mflts]
def curF (k : Int) (l : List (Int × Int × Int)) (i : Nat) : List (Int × Int × Int) := mflts k i ++ l.drop i
theorem curF_length {k : Int} {l : List (Int × Int × Int)} {i : Nat} (h : i ≤ l.length) : (curF k l i).length = l.length := by simp [curF]; omega
theorem curF_get {k : Int} {l : List (Int × Int × Int)} {i : Nat} (h : i < l.length) : (curF k l i)[i]? = some l[i] := by
  rw [curF, List.getElem?_append_right (by simp)]
  simp [h]
theorem curF_set {k : Int} {l : List (Int × Int × Int)} {i : Nat} (h : i < l.length) : (curF k l i).set i (mkFlt (k + ((3 * i : Nat) : Int))) = curF k l (i + 1) := by
  simp only [curF]
  rw [List.set_append, if_neg (by simp), mflts_length, Nat.sub_self, drop_get h, List.set_cons_zero, mflts_succ]
  simp

theorem stayc_flt (f : Int × Int × Int) : ∀ c ∈ fltCells f, c.Stay := fun c hc => by simp at hc; rcases hc with rfl | rfl | rfl <;> exact .v _
theorem oldc_flt (f : Int × Int × Int) : ∀ c ∈ fltCells f, Olds c c := fun c hc => by simp at hc; rcases hc with rfl | rfl | rfl <;> exact .v _
@[simp] theorem stay_flts (l : List (Int × Int × Int)) : (AV.sl true (l.map fltCells)).Stay = True := eq_true (stay_rows l stayc_flt)
@[simp] theorem olds_flts (c : Bool) (l : List (Int × Int × Int)) : Olds (.sl c (l.map fltCells)) (.sl true (l.map fltCells)) = True := eq_true (olds_rows c l oldc_flt)

/-- What FaultsOf answers: the code, the faults. -/
noncomputable def faultsF (c : List Pk) (s : List Int) : List (Int × Int × Int) := if setF c s = 0 then faultsR c s [] s else []

end Go.Proofs.Ytokhnmchnfkiiaa.Am

/- The bytes of a package, as both sides make them; lists of bytes as the laws' helpers meet them. No conditions. -/
namespace Go.Proofs.Ytokhnmchnfkiiaa.Am
open Go Go.RowKit Go.Proofs
set_option linter.unusedSimpArgs false
set_option linter.unusedVariables false

theorem bAt_bd (x : ByteArray) (i : Nat) : 0 ≤ bAt x i ∧ bAt x i ≤ 255 := by
  unfold bAt
  have := (x.data.toList.getD i 0).toNat_lt
  omega
def nsum (x : ByteArray) : Nat → Int
  | 0 => 0
  | i + 1 => nsum x i + bAt x i
theorem nsum_bd (x : ByteArray) : ∀ i, 0 ≤ nsum x i ∧ nsum x i ≤ 255 * i
  | 0 => by simp [nsum]
  | i + 1 => by
    have h1 := nsum_bd x i
    have h2 := bAt_bd x i
    simp only [nsum]
    omega
/-- What is summed up of a package's version and of the first bytes of its name. -/
def bsum (p : Pk) (i : Nat) : Int := p.v.a + p.v.b + p.v.c + nsum p.n i
theorem bsum_zero (p : Pk) : bsum p 0 = p.v.a + p.v.b + p.v.c := by simp [bsum, nsum]
theorem bsum_succ (p : Pk) (i : Nat) : bsum p (i + 1) = bsum p i + bAt p.n i := by simp only [bsum, nsum]; omega
def bseq : Int → Nat → List Int
  | _, 0 => []
  | b, k + 1 => b :: bseq ((31 * b + 7) % 256) k
theorem bseq_len : ∀ (k : Nat) (b : Int), (bseq b k).length = k
  | 0, _ => rfl
  | k + 1, b => by simp [bseq, bseq_len k]
def bytesP (p : Pk) : List Int := bseq (bsum p p.n.size % 256) p.s.toNat
theorem packF_vals {p : Pk} (h : packF p = 0) : (0 ≤ p.v.a ∧ p.v.a ≤ 999) ∧ (0 ≤ p.v.b ∧ p.v.b ≤ 999) ∧ (0 ≤ p.v.c ∧ p.v.c ≤ 999) ∧ (1 ≤ p.s ∧ p.s ≤ 200) ∧ p.n.size ≤ 12 := by
  unfold packF at h
  split at h
  · rename_i h1; exact (h1 h).elim
  rename_i h1
  split at h
  · rename_i h2; exact (h2 h).elim
  rename_i h2
  split at h
  · cases h
  rename_i h3
  simp only [verF, versionFault, ne_eq, Decidable.not_not, inF, Bool.and_eq_true, decide_eq_true_eq] at h2
  split at h2
  · rename_i h4
    simp only [inF, Bool.and_eq_true, Bool.not_eq_false, decide_eq_true_eq] at h3
    simp only [nameFault, ne_eq, Decidable.not_not] at h1
    split at h1
    · cases h1
    · rename_i h5
      refine ⟨by omega, by omega, by omega, by omega, by omega⟩
  · cases h2
theorem bytesP_len {p : Pk} (h : packF p = 0) : (bytesP p).length = p.s.toNat ∧ (bytesP p).length ≤ 200 := by
  obtain ⟨_, _, _, h4, _⟩ := packF_vals h
  rw [bytesP, bseq_len]
  exact ⟨rfl, by omega⟩

set_option maxRecDepth 10000 in
theorem p_l2bytes (d : Bool) (p : Pk) (h : packF p = 0) : Pure Try.prog 60 [p.av d] (.sl false ((bytesP p).map byteCells)) := by
  obtain ⟨ha, hb, hc, hs, hn⟩ := packF_vals h
  obtain ⟨S, hS⟩ : ∃ S : Nat, p.s = S := ⟨p.s.toNat, by omega⟩
  have hw1 : IntKind.i64.wrap (p.v.a + p.v.b) = p.v.a + p.v.b := IntWalk.i64_in _ (by omega)
  have hw2 : IntKind.i64.wrap (p.v.a + p.v.b + p.v.c) = p.v.a + p.v.b + p.v.c := IntWalk.i64_in _ (by omega)
  refine pure_of_code (G := (Go1 32)) (verso 32) mixed0 Try.func60 rfl (by decide) (by simp [Try.f60]) (by simp) fun ver => ?_
  simp only [Try.f60, Go1]
  simp [hw1, hw2]
  refine aloop (α := Nat) (fun i => ⟨envOf [(1, .box 0 0), (3, .v (.int .i64 (bsum p i))), (4, .v (.int .i64 i))], ⟨[p.cells d], noArrs ver⟩⟩)
    (fun i => i ≤ p.n.size) (fun i => p.n.size - i) 0 (less_envOf (by simp [bsum_zero]) rfl fun _ => rfl) (by simp) ?_
  intro i hi
  have hbd := nsum_bd p.n i
  by_cases hlt : i < p.n.size
  · have hw := wrapS hlt (by omega)
    have hbb := bAt_bd p.n i
    have hwb : IntKind.i64.wrap (bAt p.n i) = bAt p.n i := IntWalk.i64_in _ (by omega)
    have hw3 : IntKind.i64.wrap (bsum p i + bAt p.n i) = bsum p (i + 1) := by rw [IntWalk.i64_in _ (by unfold bsum; omega), bsum_succ]
    simp [hlt]
    exact ⟨i + 1, less_envOf (by simp [hw, hwb, hw3]) rfl fun _ => rfl, by omega, by omega⟩
  · have e : i = p.n.size := by omega
    subst e
    simp [hlt, Mem.made, sealRows, noArrs]
    refine aloop (α := Int × Nat × Nat × List Int) (fun q => ⟨envOf [(1, .box 0 0), (3, .v (.int .i64 q.1)), (5, .arr 32 q.2.2.1 0 q.2.2.2.length), (6, .v (.int .i64 q.2.1))], ⟨[p.cells d], arrG 32 ver q.2.2.1 5 (q.2.2.2.map byteCells)⟩⟩)
      (fun q => q.2.1 ≤ S ∧ q.2.2.2 ++ bseq (q.1 % 256) (S - q.2.1) = bytesP p ∧ q.2.2.2.length = q.2.1 ∧ 0 ≤ q.1 ∧ q.1 ≤ 100000) (fun q => S - q.2.1) (bsum p p.n.size, 0, ver 32 + 1, []) (less_envOf (by simp) rfl (by intro j; simp [arrG, noArrs])) ⟨by simp, by simp [bytesP, hS], rfl, by simp only [bsum]; omega, by simp only [bsum]; omega⟩ ?_
    rintro ⟨n, k, v, out⟩ ⟨h1, h2, h3, h4, h5⟩
    simp only at h1 h2 h3 h4 h5 ⊢
    by_cases hk : k < S
    · have hwk := wrapS hk (by omega)
      have hro : out.length + 1 ≤ 140737488355328 := by omega
      have hm : n.tmod 256 = n % 256 := by rw [Int.tmod_eq_emod_of_nonneg h4]
      have hu : IntKind.u8.wrap (n % 256) = n % 256 := IntWalk.u8_in _ (by omega)
      have e1 : IntKind.i64.wrap (31 * (n % 256)) = 31 * (n % 256) := IntWalk.i64_in _ (by omega)
      have e2 : IntKind.i64.wrap (31 * (n % 256) + 7) = 31 * (n % 256) + 7 := IntWalk.i64_in _ (by omega)
      rw [show S - k = (S - (k + 1)) + 1 by omega, bseq] at h2
      have hk2 : (k : Int) < p.s := by omega
      simp [hk2, hm, hu, aappend, arrG, sealRows, sealCells, List.range_succ, hro]
      refine ⟨31 * (n % 256) + 7, k + 1, v + 1, out ++ [n % 256], less_envOf (by simp [hwk, e1, e2]) rfl ?_, ⟨by omega, by simpa using h2, by simp [h3], by omega, by omega⟩, by omega⟩
      intro j
      by_cases hj : j = 32 <;> simp [hj, arrG]
    · have e : k = S := by omega
      subst e
      have h2' : out = bytesP p := by simpa [bseq] using h2
      have hk2 : ¬ (k : Int) < p.s := by omega
      simp [hk2, arrG, h2']

theorem q_bytesO (d : Bool) (p : Pk) (h : packF p = 0) : OCall Try.prog 55 none [p.av d] (some (false, 5, (bytesP p).map byteCells)) (.arr 0 0 0 (bytesP p).length) := by
  obtain ⟨ha, hb, hc, hs, hn⟩ := packF_vals h
  obtain ⟨S, hS⟩ : ∃ S : Nat, p.s = S := ⟨p.s.toNat, by omega⟩
  have hw1 : IntKind.u8.wrap (IntKind.u8.wrap (IntKind.u8.wrap p.v.a + IntKind.u8.wrap p.v.b) + IntKind.u8.wrap p.v.c) = bsum p 0 % 256 := by
    rw [bsum_zero]
    simp only [IntKind.wrap_u8]
    omega
  refine own_of_code (G := Go1 33) (verso 33) mixed0 Try.func55 rfl (by decide) (by simp [Try.f55]) 33 .dead (by intro s' e es h; cases h; exact fr_byte _) ?_
  obtain ⟨ver, hver⟩ : ∃ ver : Nat → Nat, ver = fun _ => 0 := ⟨_, rfl⟩
  have hin : inArrs none = noArrs ver := by rw [hver]; rfl
  rw [hin]
  clear hin hver
  simp only [Try.f55, Go1]
  simp
  refine aloop (α := Nat) (fun i => ⟨envOf [(1, .box 0 0), (3, .v (.int .u8 (bsum p i % 256))), (22, .v (.int .i64 p.n.size)), (23, .v (.int .i64 i))], ⟨[p.cells d], noArrs ver⟩⟩)
    (fun i => i ≤ p.n.size) (fun i => p.n.size - i) 0 (less_envOf (by simp [hw1]) rfl fun _ => rfl) (by simp) ?_
  intro i hi
  have hbd := nsum_bd p.n i
  by_cases hlt : i < p.n.size
  · have hw := wrapS hlt (by omega)
    have hbb := bAt_bd p.n i
    have hw3 : IntKind.u8.wrap (bsum p i % 256 + bAt p.n i) = bsum p (i + 1) % 256 := by rw [bsum_succ, IntKind.wrap_u8]; omega
    simp [hlt]
    exact ⟨i + 1, less_envOf (by simp [hw, hw3]) rfl fun _ => rfl, by omega, by omega⟩
  · have e : i = p.n.size := by omega
    subst e
    simp [hlt, Mem.made, sealRows, noArrs]
    refine aloop (α := Int × Nat × Nat × List Int) (fun q => ⟨envOf [(3, .v (.int .u8 q.1)), (5, .arr 33 q.2.2.1 0 q.2.2.2.length), (35, .v (.int .i64 S)), (36, .v (.int .i64 q.2.1))], ⟨[p.cells d], arrG 33 ver q.2.2.1 5 (q.2.2.2.map byteCells)⟩⟩)
      (fun q => q.2.1 ≤ S ∧ q.2.2.2 ++ bseq q.1 (S - q.2.1) = bytesP p ∧ q.2.2.2.length = q.2.1 ∧ 0 ≤ q.1 ∧ q.1 ≤ 255) (fun q => S - q.2.1) (bsum p p.n.size % 256, 0, ver 33 + 1, []) (less_envOf (by simp [hS]) rfl (by intro j; simp [arrG, noArrs])) ⟨by simp, by simp [bytesP, hS], rfl, by omega, by omega⟩ ?_
    rintro ⟨n, k, v, out⟩ ⟨h1, h2, h3, h4, h5⟩
    simp only at h1 h2 h3 h4 h5 ⊢
    by_cases hk : k < S
    · have hwk := wrapS hk (by omega)
      have hro : out.length + 1 ≤ 140737488355328 := by omega
      have e2 : IntKind.u8.wrap (IntKind.u8.wrap (31 * n) + 7) = (31 * n + 7) % 256 := by simp only [IntKind.wrap_u8]; omega
      rw [show S - k = (S - (k + 1)) + 1 by omega, bseq] at h2
      simp [hk, aappend, arrG, sealRows, sealCells, List.range_succ, hro]
      refine ⟨(31 * n + 7) % 256, k + 1, v + 1, out ++ [n], less_envOf (by simp [hwk, e2]) rfl ?_, ⟨by omega, by simpa using h2, by simp [h3], by omega, by omega⟩, by omega⟩
      intro j
      by_cases hj : j = 33 <;> simp [hj, arrG]
    · have e : k = S := by omega
      subst e
      have h2' : out = bytesP p := by simpa [bseq] using h2
      simp [arrG, h2']

noncomputable def bytesF (p : Pk) : List Int := if packF p = 0 then bytesP p else []

theorem p_packBytes (d : Bool) (p : Pk) (hp : p.Len) : Pure Try.prog 16 [p.av d] (.agg [.v (.int .i64 (packF p)), .sl false ((bytesF p).map byteCells)]) := by
  refine pure_of_code (G := (G0)) vers0 mixed0 Try.func16 rfl (by decide) (by simp [Try.f16]) (by simp) fun ver => ?_
  simp only [Try.f16, G0]
  simp
  refine call_p (p_pack d p hp) (by simp) ?_
  by_cases h : packF p = 0
  · simp [h]
    refine call_p (p_l2bytes d p h) (by simp) ?_
    simp [bytesF, h]
  · simp [h, bytesF]

theorem q_packBytesA (d : Bool) (p : Pk) (hp : p.Len) (h : packF p ≠ 0) : Pure Try.prog 13 [p.av d] (.agg [.v (.int .i64 (packF p)), .sl false []]) := by
  refine pure_of_code (G := (G0)) vers0 mixed0 Try.func13 rfl (by decide) (by simp [Try.f13]) (by simp) fun ver => ?_
  simp only [Try.f13, G0]
  simp
  refine call_p (q_pack d p hp) (by simp) ?_
  simp [h]

theorem q_packBytesB (d : Bool) (p : Pk) (hp : p.Len) (h : packF p = 0) : OCall Try.prog 13 none [p.av d] (some (false, 5, (bytesP p).map byteCells)) (.agg [.v (.int .i64 0), .arr 0 0 0 (bytesP p).length]) := by
  refine own_of_code (G := Go1 11) (verso 11) mixed0 Try.func13 rfl (by decide) (by simp [Try.f13]) 11 (by simp) (by intro s e es h; cases h; exact fr_byte _) ?_
  simp only [Try.f13, Go1, inArrs]
  simp
  refine call_p (q_pack d p hp) (by simp) ?_
  simp [h]
  refine call_n 11 (q_bytesO d p h) (by simp) ?_
  simp

theorem e_bytes (c d : Bool) (l : List Int) (hl : l.length ≤ 4611686018427387904) : Pure Try.prog 64 [.sl c (l.map byteCells), .sl d (l.map byteCells)] (.v (.bool true)) := by
  refine pure_of_code (G := (G0)) vers0 mixed0 Try.func64 rfl (by decide) (by simp [Try.f64]) (by simp) fun ver => ?_
  simp only [Try.f64, G0]
  simp
  refine aloop (α := Nat) (fun i => ⟨envOf [(0, .sl c (l.map byteCells)), (1, .sl d (l.map byteCells)), (5, .v (.int .i64 i))], ⟨[], noArrs ver⟩⟩)
    (fun i => i ≤ l.length) (fun i => l.length - i) 0 (less_envOf (by simp) rfl fun _ => rfl) (by simp) ?_
  intro i hi
  by_cases hlt : i < l.length
  · have hw := wrapS hlt hl
    simp [hlt]
    refine adraw_all (by kernel_rfl) ?_
    simp [hlt]
    exact ⟨i + 1, less_envOf (by simp [hw]) rfl fun _ => rfl, by omega, by omega⟩
  · simp [hlt]

theorem e_bytesRes (c d : Bool) (l : List Int) (hl : l.length ≤ 4611686018427387904) (a : Int) : Pure Try.prog 18 [.agg [.v (.int .i64 a), .sl c (l.map byteCells)], .agg [.v (.int .i64 a), .sl d (l.map byteCells)]] (.v (.bool true)) := by
  refine pure_of_code (G := (G0)) vers0 mixed0 Try.func18 rfl (by decide) (by simp [Try.f18]) (by simp) fun ver => ?_
  simp only [Try.f18, G0]
  simp
  refine call_p (e_bytes c d l hl) (by simp) ?_
  simp

def mbytes (k : Int) (n : Nat) : List Int := (List.range n).map fun i => (k + (i : Nat)) % 256
@[simp] theorem mbytes_length (k : Int) (n : Nat) : (mbytes k n).length = n := by simp [mbytes]
@[simp] theorem mbytes_getElem (k : Int) (n i : Nat) (h : i < (mbytes k n).length) : (mbytes k n)[i] = (k + (i : Nat)) % 256 := by simp [mbytes]
theorem mbytes_succ (k : Int) (n : Nat) : mbytes k (n + 1) = mbytes k n ++ [(k + (n : Nat)) % 256] := by simp [mbytes, List.range_succ]
def curB (k : Int) (l : List Int) (i : Nat) : List Int := mbytes k i ++ l.drop i
theorem curB_length (k : Int) (l : List Int) (i : Nat) (h : i ≤ l.length) : (curB k l i).length = l.length := by simp [curB]; omega
theorem curB_set {k : Int} {l : List Int} {i : Nat} (h : i < l.length) : (curB k l i).set i ((k + (i : Nat)) % 256) = curB k l (i + 1) := by
  simp only [curB]
  rw [List.set_append, if_neg (by simp), mbytes_length, Nat.sub_self, drop_get h, List.set_cons_zero, mbytes_succ]
  simp

theorem o_markBytes (l : List Int) (k : Int) (h0 : 0 ≤ k) (hk : k + l.length ≤ 1099511627776) :
    OCall Try.prog 70 (some (5, l.map byteCells)) [.arr 0 0 0 l.length, .v (.int .i64 k)] (some (true, 5, (mbytes k l.length).map byteCells)) (.v (.int .i64 (k + l.length))) := by
  have hl : l.length ≤ 4611686018427387904 := by omega
  refine own_of_code (G := G0) vers0 mixed0 Try.func70 rfl (by decide) (by simp [Try.f70]) 0 (.v _) (by intro s e es h; cases h; exact fr_byte _) ?_
  simp only [Try.f70, G0, inArrs_some]
  simp
  refine aloop (α := Nat) (fun i => ⟨envOf [(0, .arr 0 0 0 l.length), (1, .v (.int .i64 (k + i))), (5, .v (.int .i64 i))], ⟨[], arr1 0 0 5 ((curB k l i).map byteCells)⟩⟩)
    (fun i => i ≤ l.length) (fun i => l.length - i) 0 (less_envOf (by simp) rfl (by simp [curB, mbytes])) (by simp) ?_
  intro i hi
  by_cases hlt : i < l.length
  · have hw := wrapS hlt hl
    have hw2 : IntKind.i64.wrap (k + (i : Int) + 1) = k + ((i + 1 : Nat) : Int) := by rw [IntWalk.i64_in _ (by omega)]; omega
    have hc : (curB k l i).length = l.length := curB_length k l i hi
    have hu : IntKind.u8.wrap (k + (i : Int)) = (k + (i : Int)) % 256 := IntKind.wrap_u8 _
    simp [hlt, hc, hu]
    refine ⟨i + 1, less_envOf (by simp [hw, hw2]) rfl ?_, by omega, by omega⟩
    intro j
    rw [← curB_set hlt]
    by_cases hj : j = 0 <;> simp [hj, arr1]
  · have e : i = l.length := by omega
    subst e
    simp [curB]

theorem p_markBytes0 (c : Bool) (k : Int) : Pure Try.prog 70 [.sl c [], .v (.int .i64 k)] (.v (.int .i64 k)) := by
  refine pure_of_code (G := (G0)) vers0 mixed0 Try.func70 rfl (by decide) (by simp [Try.f70]) (by simp) fun ver => ?_
  simp only [Try.f70, G0]
  simp
  refine aloop (α := Unit) (fun _ => ⟨envOf [(0, .sl c []), (1, .v (.int .i64 k)), (5, .v (.int .i64 0))], ⟨[], noArrs ver⟩⟩)
    (fun _ => True) (fun _ => 0) () (less_envOf (by simp) rfl fun _ => rfl) trivial ?_
  intro _ _
  simp

theorem p_heldBytes (c : Bool) (n : Nat) (k : Int) (h0 : 0 ≤ k) (hk : k + n ≤ 1099511627776) : Pure Try.prog 71 [.sl c ((mbytes k n).map byteCells), .v (.int .i64 k)] (.v (.int .i64 (k + n))) := by
  have hl : n ≤ 4611686018427387904 := by omega
  refine pure_of_code (G := (G0)) vers0 mixed0 Try.func71 rfl (by decide) (by simp [Try.f71]) (by simp) fun ver => ?_
  simp only [Try.f71, G0]
  simp
  refine aloop (α := Nat) (fun i => ⟨envOf [(0, .sl c ((mbytes k n).map byteCells)), (1, .v (.int .i64 (k + i))), (5, .v (.int .i64 i))], ⟨[], noArrs ver⟩⟩)
    (fun i => i ≤ n) (fun i => n - i) 0 (less_envOf (by simp) rfl fun _ => rfl) (by simp) ?_
  intro i hi
  by_cases hlt : i < n
  · have hw := wrapS hlt hl
    have hw2 : IntKind.i64.wrap (k + (i : Int) + 1) = k + ((i + 1 : Nat) : Int) := by rw [IntWalk.i64_in _ (by omega)]; omega
    have hu : IntKind.u8.wrap (k + (i : Int)) = (k + (i : Int)) % 256 := IntKind.wrap_u8 _
    simp [hlt, hu]
    exact ⟨i + 1, less_envOf (by simp [hw, hw2]) rfl fun _ => rfl, by omega, by omega⟩
  · have e : i = n := by omega
    subst e
    simp

theorem o_markBytesRes (l : List Int) (k a : Int) (h0 : 0 ≤ k) (hk : k + l.length ≤ 1099511627776) :
    OCall Try.prog 21 (some (5, l.map byteCells)) [.agg [.v (.int .i64 a), .arr 0 0 0 l.length], .v (.int .i64 k)] (some (true, 5, (mbytes k l.length).map byteCells)) (.v (.int .i64 (k + l.length))) := by
  refine own_of_code (G := G0) vers0 mixed0 Try.func21 rfl (by decide) (by simp [Try.f21]) 0 (.v _) (by intro s e es h; cases h; exact fr_byte _) ?_
  simp only [Try.f21, G0, inArrs_some]
  simp
  refine call_s 0 0 5 (l.map byteCells) (by simp) (o_markBytes l k h0 hk) (by simp) (by simp) (fr_byte _) ?_
  simp [arr1_put]

theorem p_markBytesRes0 (c : Bool) (k a : Int) : Pure Try.prog 21 [.agg [.v (.int .i64 a), .sl c []], .v (.int .i64 k)] (.v (.int .i64 k)) := by
  refine pure_of_code (G := (G0)) vers0 mixed0 Try.func21 rfl (by decide) (by simp [Try.f21]) (by simp) fun ver => ?_
  simp only [Try.f21, G0]
  simp
  refine call_p (p_markBytes0 c k) (by simp) ?_
  simp

theorem p_heldBytesRes (c : Bool) (n : Nat) (k a : Int) (h0 : 0 ≤ k) (hk : k + n ≤ 1099511627776) : Pure Try.prog 22 [.agg [.v (.int .i64 a), .sl c ((mbytes k n).map byteCells)], .v (.int .i64 k)] (.v (.int .i64 (k + n))) := by
  refine pure_of_code (G := (G0)) vers0 mixed0 Try.func22 rfl (by decide) (by simp [Try.f22]) (by simp) fun ver => ?_
  simp only [Try.f22, G0]
  simp
  refine call_p (p_heldBytes c n k h0 hk) (by simp) ?_
  simp [show ¬ k + (n : Int) < 0 by omega]

theorem p_heldBytesRes0 (c : Bool) (k a : Int) (h0 : 0 ≤ k) (hk : k ≤ 1099511627776) : Pure Try.prog 22 [.agg [.v (.int .i64 a), .sl c []], .v (.int .i64 k)] (.v (.int .i64 k)) := by
  have := p_heldBytesRes c 0 k a h0 (by simpa using hk)
  simpa [mbytes] using this

end Go.Proofs.Ytokhnmchnfkiiaa.Am
