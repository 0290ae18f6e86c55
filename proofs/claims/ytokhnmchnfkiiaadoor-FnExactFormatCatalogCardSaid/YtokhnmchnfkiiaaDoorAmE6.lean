/- The texts of catalogs: plain laws; lines of words. No conditions. -/
import Derived.Test.YtokhnmchnfkiiaaDoorAmE5
namespace Go.Proofs.YtokhnmchnfkiiaaDoor.Am
open Go Go.RowKit Go.Proofs
set_option linter.unusedSimpArgs false
set_option linter.unusedVariables false

/-- Words behind a text, each with a blank ahead. -/
def wordsS (x : ByteArray) (l : List ByteArray) : ByteArray := l.foldl (fun y w => y ++ ⟨#[32]⟩ ++ w) x
def lnS (w : ByteArray) (l : List ByteArray) : ByteArray := wordsS w l ++ ⟨#[10]⟩
theorem wordsS_app (x w : ByteArray) : ∀ l : List ByteArray, wordsS (x ++ w) l = x ++ wordsS w l := by
  intro l
  induction l generalizing w with
  | nil => rfl
  | cons a l ih =>
    show wordsS (x ++ w ++ ⟨#[32]⟩ ++ a) l = x ++ wordsS (w ++ ⟨#[32]⟩ ++ a) l
    rw [← ih]
    simp only [ByteArray.append_assoc]
theorem wordsS_snoc (x : ByteArray) (l : List ByteArray) (w : ByteArray) : wordsS x (l ++ [w]) = wordsS x l ++ ⟨#[32]⟩ ++ w := by simp [wordsS]
theorem wordsS_size {n : Nat} : ∀ (l : List ByteArray), (∀ w ∈ l, w.size ≤ n) → ∀ x, (wordsS x l).size ≤ x.size + l.length * (n + 1)
  | [], _, x => by simp [wordsS]
  | a :: l, h, x => by
    have h1 := wordsS_size l (fun w hw => h w (by simp [hw])) (x ++ ⟨#[32]⟩ ++ a)
    have h2 := h a (by simp)
    have l32 : (⟨#[32]⟩ : ByteArray).size = 1 := rfl
    have e : wordsS x (a :: l) = wordsS (x ++ ⟨#[32]⟩ ++ a) l := rfl
    rw [e]
    simp only [ByteArray.size_append, l32] at h1
    rw [List.length_cons, Nat.succ_mul]
    omega
theorem joinTail_words (l : List ByteArray) : ∀ x : ByteArray, (wordsS x l).data.toList = x.data.toList ++ Lib.joinTail [32] (l.map (·.data.toList)) := by
  induction l with
  | nil => intro x; simp [wordsS, Lib.joinTail]
  | cons a l ih =>
    intro x
    have e : wordsS x (a :: l) = wordsS (x ++ ⟨#[32]⟩ ++ a) l := rfl
    rw [e, ih]
    simp [Lib.joinTail, ByteArray.data_append]
theorem joinS_words (w : ByteArray) (l : List ByteArray) : joinS (w :: l) = wordsS w l := by
  unfold joinS
  rw [List.map_cons, Lib.join_cons]
  apply ByteArray.ext
  apply Array.ext'
  rw [joinTail_words]

def tTx (t : Trm) : ByteArray := trmS t.n t.lo.a t.lo.b t.lo.c t.hi.a t.hi.b t.hi.c
def kPack : ByteArray := ⟨#[112, 97, 99, 107]⟩
def kGives : ByteArray := ⟨#[103, 105, 118, 101, 115]⟩
def kNeeds : ByteArray := ⟨#[110, 101, 101, 100, 115]⟩
def kBars : ByteArray := ⟨#[98, 97, 114, 115]⟩
def headS (p : Pk) : ByteArray := lnS kPack [p.n, verS p.v.a p.v.b p.v.c, decS p.s.toNat]
def givesS (p : Pk) : ByteArray := if p.pr = [] then ⟨#[]⟩ else lnS kGives p.pr
def needsS (x : ByteArray) (l : List (List Trm)) : ByteArray := l.foldl (fun y c => y ++ lnS kNeeds (c.map tTx)) x
def barsS (x : ByteArray) (l : List Trm) : ByteArray := l.foldl (fun y t => y ++ lnS kBars [tTx t]) x
/-- The text of a package, behind a text. -/
def pkS (x : ByteArray) (p : Pk) : ByteArray := barsS (needsS (x ++ headS p ++ givesS p) p.ne) p.ba
def catS (l : List Pk) (x : ByteArray) : ByteArray := l.foldl pkS x

theorem clsF_ok : ∀ {l : List (List Trm)}, clsF l = 0 → ∀ q ∈ l, trmsF q = 0
  | [], _, q, h => by cases h
  | c :: l, h, q, hq => by
    unfold clsF at h
    split at h
    · cases h
    split at h
    · rename_i h1; exact (h1 h).elim
    rename_i h1
    rcases List.mem_cons.1 hq with rfl | hq
    · simpa using h1
    · exact clsF_ok h q hq
theorem trmsF_ok : ∀ {l : List Trm}, trmsF l = 0 → ∀ t ∈ l, trmF t = 0
  | [], _, q, h => by cases h
  | c :: l, h, q, hq => by
    unfold trmsF at h
    split at h
    · rename_i h1; exact (h1 h).elim
    rename_i h1
    rcases List.mem_cons.1 hq with rfl | hq
    · simpa using h1
    · exact trmsF_ok h q hq
theorem prF_ok {n : ByteArray} : ∀ {l seen : List ByteArray}, prF n seen l = 0 → ∀ w ∈ l, nameFault w = 0
  | [], _, _, q, h => by cases h
  | c :: l, seen, h, q, hq => by
    unfold prF at h
    split at h
    · rename_i h1; exact (h1 h).elim
    split at h
    · cases h
    rename_i h1 _
    rcases List.mem_cons.1 hq with rfl | hq
    · simpa using h1
    · exact prF_ok h q hq
theorem nameF_size {x : ByteArray} (h : nameFault x = 0) : x.size ≤ 12 := by
  unfold nameFault at h
  split at h
  · cases h
  · omega
/-- What a right package's parts keep. -/
structure Pk.Fit (p : Pk) : Prop where
  n : p.n.size ≤ 12
  v : versionFault p.v.a p.v.b p.v.c = 0
  s : ∃ k : Nat, p.s = k ∧ k ≤ 200
  pr : p.pr.length ≤ 4 ∧ ∀ w ∈ p.pr, w.size ≤ 12
  ne : p.ne.length ≤ 4 ∧ ∀ q ∈ p.ne, q.length ≤ 4 ∧ ∀ t ∈ q, trmF t = 0
  ba : p.ba.length ≤ 4 ∧ ∀ t ∈ p.ba, trmF t = 0
theorem packF_fit {p : Pk} (h : packF p = 0) : p.Fit := by
  obtain ⟨k1, k2, k3, k4⟩ := packF_ok h
  obtain ⟨g1, g2⟩ := packF_txt h
  unfold packF at h
  split at h
  · rename_i h1; exact (h1 h).elim
  split at h
  · rename_i h1; exact (h1 h).elim
  split at h
  · cases h
  rename_i hs
  split at h
  · cases h
  split at h
  · cases h
  split at h
  · rename_i h1; exact (h1 h).elim
  rename_i hp
  split at h
  · rename_i h1; exact (h1 h).elim
  rename_i hc
  have hp : prF p.n [] p.pr = 0 := by simpa using hp
  have hc : clsF p.ne = 0 := by simpa using hc
  have hs : 1 ≤ p.s ∧ p.s ≤ 200 := by simpa [inF] using hs
  exact ⟨g1, g2, ⟨p.s.toNat, by omega, by omega⟩, ⟨k1, fun w hw => nameF_size (prF_ok hp w hw)⟩, ⟨k2, fun q hq => ⟨k4 q hq, trmsF_ok (clsF_ok hc q hq)⟩⟩, k3, trmsF_ok h⟩
theorem tTx_size {t : Trm} (h : trmF t = 0) : (tTx t).size ≤ 6100 := by
  obtain ⟨h1, h2, h3⟩ := trm_zero h
  have s1 := verS_size h2
  have l1 : (⟨#[62, 61]⟩ : ByteArray).size = 2 := rfl
  have l2 : (⟨#[60]⟩ : ByteArray).size = 1 := rfl
  have hlo : (loS t.n t.lo.a t.lo.b t.lo.c).size ≤ 3016 := by
    unfold loS
    split
    · omega
    · simp only [ByteArray.size_append, l1]; omega
  unfold tTx trmS
  split
  · omega
  · rename_i h4
    have s2 := verS_size (h3.resolve_left h4)
    simp only [ByteArray.size_append, l2]; omega
theorem fmtT_ok {t : Trm} (h : trmF t = 0) : fmtT t.n t.lo.a t.lo.b t.lo.c t.hi.a t.hi.b t.hi.c = tTx t := if_pos h
theorem lnS_size {w : ByteArray} {l : List ByteArray} {n : Nat} (hl : l.length ≤ 4) (h : ∀ x ∈ l, x.size ≤ n) : (lnS w l).size ≤ w.size + 4 * (n + 1) + 1 := by
  have h1 := wordsS_size l h w
  have h2 : l.length * (n + 1) ≤ 4 * (n + 1) := Nat.mul_le_mul_right _ hl
  have l10 : (⟨#[10]⟩ : ByteArray).size = 1 := rfl
  unfold lnS
  simp only [ByteArray.size_append, l10]
  omega
theorem head_size {p : Pk} (h : p.Fit) : (headS p).size ≤ 12100 := by
  obtain ⟨k, hk, hk2⟩ := h.s
  have s1 := verS_size h.v
  have s2 := decS_size p.s.toNat
  have s3 := h.n
  have e : kPack.size = 4 := rfl
  have := lnS_size (w := kPack) (l := [p.n, verS p.v.a p.v.b p.v.c, decS p.s.toNat]) (n := 3002) (by simp) (by
    intro x hx
    simp only [List.mem_cons, List.not_mem_nil, or_false] at hx
    rcases hx with rfl | rfl | rfl
    · omega
    · exact s1
    · rw [hk] at s2 ⊢
      simp only [Int.toNat_natCast] at s2 ⊢
      omega)
  unfold headS
  omega
theorem gives_size {p : Pk} (h : p.Fit) : (givesS p).size ≤ 100 := by
  unfold givesS
  split
  · exact Nat.zero_le _
  · have e : kGives.size = 5 := rfl
    have := lnS_size (w := kGives) h.pr.1 h.pr.2
    omega
theorem need_size {q : List Trm} (h : q.length ≤ 4 ∧ ∀ t ∈ q, trmF t = 0) : (lnS kNeeds (q.map tTx)).size ≤ 25000 := by
  have e : kNeeds.size = 5 := rfl
  have := lnS_size (w := kNeeds) (l := q.map tTx) (n := 6100) (by simpa using h.1) (by
    intro x hx
    obtain ⟨t, ht, rfl⟩ := List.mem_map.1 hx
    exact tTx_size (h.2 t ht))
  omega
theorem bar_size {t : Trm} (h : trmF t = 0) : (lnS kBars [tTx t]).size ≤ 25000 := by
  have e : kBars.size = 4 := rfl
  have := lnS_size (w := kBars) (l := [tTx t]) (n := 6100) (by simp) (by
    intro x hx
    simp only [List.mem_cons, List.not_mem_nil, or_false] at hx
    subst hx
    exact tTx_size h)
  omega

end Go.Proofs.YtokhnmchnfkiiaaDoor.Am
