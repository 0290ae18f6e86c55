import Derived.Test.YtokhnmchnfkiiaaAmCg5
import Derived.Test.YtokhnmchnfkiiaaAmCg4
/- Those of a set of which something holds; the packages that give a term. No conditions. -/
namespace Go.Proofs.Ytokhnmchnfkiiaa.Am
open Go Go.RowKit Go.Proofs
set_option linter.unusedSimpArgs false
set_option linter.unusedVariables false

@[simp] theorem tf_ag (own verT wr : Nat → Bool) (md : Nat) : Cfg.isAg ⟨Try.prog, own, verT, wr, md⟩ 140 = some false := by kernel_rfl

theorem stab_O {bs : List (List AV)} (h : Stab bs) (a : Nat → ArrSt) (o : Option Nat) : lentBoxesO ⟨bs, a⟩ o = bs := by
  have h1 := h a
  unfold lentBoxes at h1
  unfold lentBoxesO
  apply List.ext_getElem?
  intro i
  have h2 := congrArg (fun z => z[i]?) h1
  simp only [List.getElem?_map] at h2 ⊢
  cases hb : bs[i]? with
  | none => rfl
  | some r =>
    rw [hb] at h2
    simp only [Option.map_some, Option.some.injEq] at h2 ⊢
    apply List.ext_getElem?
    intro j
    have h3 := congrArg (fun z => z[j]?) h2
    simp only [List.getElem?_map] at h3 ⊢
    cases hc : r[j]? with
    | none => rfl
    | some c =>
      rw [hc] at h3
      simp only [Option.map_some, Option.some.injEq] at h3 ⊢
      cases c with
      | arr i n off len =>
        exfalso
        simp only [lend1] at h3
        split at h3 <;> cases h3
      | _ => exact h3

end Go.Proofs.Ytokhnmchnfkiiaa.Am

/- The packages that give a term, as the reference and the program find them. No conditions. -/
namespace Go.Proofs.Ytokhnmchnfkiiaa.Am
open Go Go.RowKit Go.Proofs
set_option linter.unusedSimpArgs false
set_option linter.unusedVariables false

/-- An array that is nil as long as it is empty. -/
def refN (p v n : Nat) : AV := if n = 0 then .nil else .arr p v 0 n
def arrN (p : Nat) (ver : Nat → Nat) (v : Nat) (e : TypeId) (es : List (List AV)) : Nat → ArrSt := if es = [] then noArrs ver else fun j => if j = p then ⟨v, true, e, es⟩ else ⟨ver j, false, 0, []⟩
def setRes (code : Int) (x : AV) : AV := .agg [.v (.int .i64 code), .v (.int .i64 0), x]

/-- Numbers are put behind an array that is nil as long as it is empty. -/
theorem append_refN {G : Cfg} {t e : TypeId} (he : G.elemT t = some e) (hz : G.csz e = some 1) (hb : G.bts e = some 8) (ho : G.zerOK e = true) (p : Nat) (ver : Nat → Nat) (v : Nat) (out : List Int) (n : Int) (bx : List (List AV)) (c : Bool) (h : (out.length + 1) * 8 ≤ 140737488355328) :
    ∃ w, aappend G (some p) t t ⟨bx, arrN p ver v e (out.map intCells)⟩ (refN p v out.length) (.sl c [intCells n]) = some (.arr p w 0 (out.length + 1), ⟨bx, arrN p ver w e ((out ++ [n]).map intCells)⟩) := by
  cases out with
  | nil =>
    refine ⟨ver p + 1, ?_⟩
    simp [aappend, he, hz, hb, ho, refN, arrN, Mem.made, sealRows, sealCells, noArrs]
  | cons a l =>
    refine ⟨v + 1, ?_⟩
    have h2 : (l.length + 1 + 1) * 8 ≤ 140737488355328 := by simpa using h
    simp [aappend, he, hz, hb, ho, refN, arrN, sealRows, sealCells, h2]
    funext j
    by_cases hj : j = p <;> simp [hj]

@[simp] theorem one_refN (p v n : Nat) : (refN p v n).one = true := by unfold refN; split <;> rfl
theorem fin1_refN (bx : List (List AV)) (p : Nat) (ver : Nat → Nat) (v : Nat) (e : TypeId) (es : List (List AV)) : fin1 ⟨bx, arrN p ver v e es⟩ (refN p v es.length) = .sl false es := by
  cases es with
  | nil => simp [refN, fin1]
  | cons a l => simp [refN, arrN, fin1]

noncomputable def giversF (c : List Pk) (s : List Int) (t : Trm) : Int × List Int := if setF c s ≠ 0 then (setF c s, []) else if trmF t ≠ 0 then (trmF t, []) else (0, s.filter fun x => givesF (pkAt c x) t)

end Go.Proofs.Ytokhnmchnfkiiaa.Am

/- The packages that give a term, as the program finds them. No conditions. -/
namespace Go.Proofs.Ytokhnmchnfkiiaa.Am
open Go Go.RowKit Go.Proofs
set_option linter.unusedSimpArgs false
set_option linter.unusedVariables false

end Go.Proofs.Ytokhnmchnfkiiaa.Am

/- What stays, what ages, what is handed on as wild: data of the laws' functions. No conditions. -/
namespace Go.Proofs.Ytokhnmchnfkiiaa.Am
open Go Go.RowKit Go.Proofs
set_option linter.unusedSimpArgs false
set_option linter.unusedVariables false

noncomputable def Gt : Cfg := ⟨Try.prog, fun _ => false, fun t => t == 26, fun _ => true, 1⟩
theorem verst : Gt.Vers := fun t h => vers0 t h

@[simp] theorem stay_v (x : Value) : (AV.v x).Stay = True := eq_true (.v x)
@[simp] theorem stay_nil : AV.nil.Stay = True := eq_true .nil
@[simp] theorem stay_dead : AV.dead.Stay = True := eq_true .dead
@[simp] theorem stay_box (k o : Nat) : (AV.box k o).Stay = True := eq_true (.box k o)
@[simp] theorem stay_arr (i n o l : Nat) : (AV.arr i n o l).Stay = True := eq_true (.arr i n o l)
@[simp] theorem stay_e (c : Bool) : (AV.sl c []).Stay = True := eq_true (.sl0 c)
theorem stay_rows {α : Type} {g : α → List AV} (l : List α) (h : ∀ a, ∀ c ∈ g a, c.Stay) : (AV.sl true (l.map g)).Stay := .sl _ fun e he c hc => by
  obtain ⟨a, _, rfl⟩ := List.mem_map.1 he
  exact h a c hc
theorem stayc_int (a : Int) : ∀ c ∈ intCells a, c.Stay := fun c hc => by simp at hc; subst hc; exact .v _
theorem stayc_str (a : ByteArray) : ∀ c ∈ strCells a, c.Stay := fun c hc => by simp at hc; subst hc; exact .v _
theorem stayc_byte (a : Int) : ∀ c ∈ byteCells a, c.Stay := fun c hc => by simp at hc; subst hc; exact .v _
theorem stayc_trm (a : Trm) : ∀ c ∈ a.cells, c.Stay := fun c hc => by simp at hc; rcases hc with rfl | rfl | rfl | rfl | rfl | rfl | rfl <;> exact .v _
@[simp] theorem stay_ints (l : List Int) : (AV.sl true (l.map intCells)).Stay = True := eq_true (stay_rows l stayc_int)
@[simp] theorem stay_bytes (l : List Int) : (AV.sl true (l.map byteCells)).Stay = True := eq_true (stay_rows l stayc_byte)
@[simp] theorem stay_strs (l : List ByteArray) : (AV.sl true (l.map strCells)).Stay = True := eq_true (stay_rows l stayc_str)
@[simp] theorem stay_trms (l : List Trm) : (AV.sl true (l.map Trm.cells)).Stay = True := eq_true (stay_rows l stayc_trm)
@[simp] theorem stay_cls (l : List (List Trm)) : (AV.sl true (l.map (clauseCells true))).Stay = True := eq_true (stay_rows l fun a c hc => by simp at hc; subst hc; exact stay_rows a stayc_trm)
theorem stayc_pk (p : Pk) : ∀ c ∈ p.cells true, c.Stay := fun c hc => by
  simp at hc
  rcases hc with rfl | rfl | rfl | rfl | rfl | rfl | rfl | rfl
  iterate 5 exact .v _
  · exact stay_rows _ stayc_str
  · rw [stay_cls]; trivial
  · exact stay_rows _ stayc_trm
@[simp] theorem stay_pks (l : List Pk) : (AV.sl true (l.map (Pk.cells true))).Stay = True := eq_true (stay_rows l stayc_pk)
@[simp] theorem stay_agg (cs : List AV) : (AV.agg cs).Stay = ∀ c ∈ cs, c.Stay := propext ⟨fun h => by cases h with | agg _ h => exact h, .agg cs⟩

theorem olds_rows {α : Type} {g : α → List AV} (c : Bool) (l : List α) (h : ∀ a, ∀ c ∈ g a, Olds c c) : Olds (.sl c (l.map g)) (.sl true (l.map g)) := by
  refine .sl c _ _ rfl (fun i e e' h1 h2 => by rw [h1] at h2; cases h2; rfl) fun i j e e' c c' h1 h2 h3 h4 => ?_
  rw [h1] at h2
  cases h2
  rw [h3] at h4
  cases h4
  obtain ⟨a, _, rfl⟩ := List.mem_map.1 (List.mem_of_getElem? h1)
  exact h a c (List.mem_of_getElem? h3)
theorem oldc_int (a : Int) : ∀ c ∈ intCells a, Olds c c := fun c hc => by simp at hc; subst hc; exact .v _
theorem oldc_str (a : ByteArray) : ∀ c ∈ strCells a, Olds c c := fun c hc => by simp at hc; subst hc; exact .v _
theorem oldc_byte (a : Int) : ∀ c ∈ byteCells a, Olds c c := fun c hc => by simp at hc; subst hc; exact .v _
theorem oldc_trm (a : Trm) : ∀ c ∈ a.cells, Olds c c := fun c hc => by simp at hc; rcases hc with rfl | rfl | rfl | rfl | rfl | rfl | rfl <;> exact .v _
theorem oldc_cls (a : List Trm) : ∀ c ∈ clauseCells true a, Olds c c := fun c hc => by simp at hc; subst hc; exact olds_rows true a oldc_trm
theorem oldc_pk (p : Pk) : ∀ c ∈ p.cells true, Olds c c := fun c hc => by
  simp at hc
  rcases hc with rfl | rfl | rfl | rfl | rfl | rfl | rfl | rfl
  iterate 5 exact .v _
  · exact olds_rows true _ oldc_str
  · exact olds_rows true _ oldc_cls
  · exact olds_rows true _ oldc_trm
@[simp] theorem olds_v (x : Value) : Olds (.v x) (.v x) = True := eq_true (.v x)
@[simp] theorem olds_nil : Olds .nil .nil = True := eq_true .nil
@[simp] theorem olds_e (c : Bool) : Olds (.sl c []) (.sl true []) = True := eq_true (.sl c [] [] rfl (fun i e e' h => by simp at h) fun i j e e' c c' h => by simp at h)
@[simp] theorem olds_ints (c : Bool) (l : List Int) : Olds (.sl c (l.map intCells)) (.sl true (l.map intCells)) = True := eq_true (olds_rows c l oldc_int)
@[simp] theorem olds_bytes (c : Bool) (l : List Int) : Olds (.sl c (l.map byteCells)) (.sl true (l.map byteCells)) = True := eq_true (olds_rows c l oldc_byte)
@[simp] theorem olds_strs (c : Bool) (l : List ByteArray) : Olds (.sl c (l.map strCells)) (.sl true (l.map strCells)) = True := eq_true (olds_rows c l oldc_str)
@[simp] theorem olds_trms (c : Bool) (l : List Trm) : Olds (.sl c (l.map Trm.cells)) (.sl true (l.map Trm.cells)) = True := eq_true (olds_rows c l oldc_trm)
@[simp] theorem olds_pks (l : List Pk) : Olds (.sl true (l.map (Pk.cells true))) (.sl true (l.map (Pk.cells true))) = True := eq_true (olds_rows true l oldc_pk)
theorem olds_flat {cs : List AV} (h : ∀ c ∈ cs, Olds c c) : Olds (.agg cs) (.agg cs) := .agg cs cs rfl fun j c c' h1 h2 => by rw [h1] at h2; cases h2; exact h c (List.mem_of_getElem? h1)
@[simp] theorem olds_trm (t : Trm) : Olds t.av t.av = True := eq_true (olds_flat (oldc_trm t))
theorem olds_pk (p : Pk) : Olds (p.av true) (p.av true) = True := eq_true (olds_flat (oldc_pk p))

/-- Cells, boxes: each as old. -/
def OldsR : List AV → List AV → Prop
  | [], [] => True
  | c :: cs, d :: ds => Olds c d ∧ OldsR cs ds
  | _, _ => False
def OldsB : List (List AV) → List (List AV) → Prop
  | [], [] => True
  | c :: cs, d :: ds => OldsR c d ∧ OldsB cs ds
  | _, _ => False
theorem OldsR.get : ∀ {cs ds : List AV}, OldsR cs ds → ds.length = cs.length ∧ ∀ (j : Nat) (c c' : AV), cs[j]? = some c → ds[j]? = some c' → Olds c c'
  | [], [], _ => ⟨rfl, fun j c c' h => by simp at h⟩
  | c :: cs, d :: ds, h => by
    obtain ⟨h1, h2⟩ := OldsR.get h.2
    refine ⟨by simp [h1], ?_⟩
    intro j a b ha hb
    cases j with
    | zero => simp at ha hb; subst ha hb; exact h.1
    | succ j => exact h2 j a b (by simpa using ha) (by simpa using hb)
  | [], _ :: _, h => h.elim
  | _ :: _, [], h => h.elim
theorem OldsB.get : ∀ {B D : List (List AV)}, OldsB B D → D.length = B.length ∧ ∀ (k : Nat) (cs cs' : List AV), B[k]? = some cs → D[k]? = some cs' → cs'.length = cs.length ∧ ∀ (j : Nat) (c c' : AV), cs[j]? = some c → cs'[j]? = some c' → Olds c c'
  | [], [], _ => ⟨rfl, fun j c c' h => by simp at h⟩
  | c :: cs, d :: ds, h => by
    obtain ⟨h1, h2⟩ := OldsB.get h.2
    refine ⟨by simp [h1], ?_⟩
    intro j a b ha hb
    cases j with
    | zero => simp at ha hb; subst ha hb; exact OldsR.get h.1
    | succ j => exact h2 j a b (by simpa using ha) (by simpa using hb)
  | [], _ :: _, h => h.elim
  | _ :: _, [], h => h.elim

section
variable {nt : Nat} {st : St}
/-- The rules of the laws' functions, as they are used. -/
theorem reg_o2 {P : Program} {own : Nat → Bool} {verT : TypeId → Bool} {wr : Nat → Bool} {l : List Oper} {L : St → Prop} (n : Nat) (bs bs' : List (List AV)) (e1 : st.mem.boxes = bs) (hlive : ∀ i, (st.mem.arrs i).live = false) (hs : ∀ t ∈ List.range n, Olds (st.env t) (st.env t))
    (hb : OldsB bs bs') (h : aops ⟨P, own, verT, wr, 1⟩ nt l.toArray l L ⟨envStay n st.env, ⟨bs', st.mem.arrs⟩⟩) :
    onRegion ⟨P, own, verT, wr, 1⟩ nt l L st := by
  subst e1
  exact reg_o n bs' hlive hs hb.get.1 hb.get.2 h
def WildsL : List AV → List AV → Prop
  | [], [] => True
  | c :: cs, d :: ds => Wilds c d ∧ WildsL cs ds
  | _, _ => False
theorem WildsL.get : ∀ {cs ds : List AV}, WildsL cs ds → cs.length = ds.length ∧ ∀ (j : Nat) (c c' : AV), cs[j]? = some c → ds[j]? = some c' → Wilds c c'
  | [], [], _ => ⟨rfl, fun j c c' h => by simp at h⟩
  | c :: cs, d :: ds, h => by
    obtain ⟨h1, h2⟩ := WildsL.get h.2
    refine ⟨by simp [h1], ?_⟩
    intro j a b ha hb
    cases j with
    | zero => simp at ha hb; subst ha hb; exact h.1
    | succ j => exact h2 j a b (by simpa using ha) (by simpa using hb)
  | [], _ :: _, h => h.elim
  | _ :: _, [], h => h.elim
end
@[simp] theorem wilds_v (x : Value) : Wilds (.v x) (.v x) = True := eq_true (.v x)
@[simp] theorem wildsS_ints (l : List Int) : Wilds (.sl false (l.map intCells)) (.wsl (l.map wintCells)) = True := eq_true (wilds_ints l)
@[simp] theorem wildsS_strs (l : List ByteArray) : Wilds (.sl false (l.map strCells)) (.wsl (l.map wstrCells)) = True := eq_true (wilds_strs l)
@[simp] theorem wildsS_trms (l : List Trm) : Wilds (.sl false (l.map Trm.cells)) (.wsl (l.map wtrmCells)) = True := eq_true (wilds_trms l)
@[simp] theorem wildsS_pks (l : List Pk) : Wilds (.sl false (l.map (Pk.cells false))) (.wsl (l.map wpkCells)) = True := eq_true (wilds_pks l)

/-- Arguments of a mark call. -/
def WArgL : List AV → List AV → Prop
  | [], [] => True
  | c :: cs, d :: ds => WArg c d ∧ WArgL cs ds
  | _, _ => False
theorem WArgL.get : ∀ {cs ds : List AV}, WArgL cs ds → cs.length = ds.length ∧ ∀ (j : Nat) (c c' : AV), cs[j]? = some c → ds[j]? = some c' → WArg c c'
  | [], [], _ => ⟨rfl, fun j c c' h => by simp at h⟩
  | c :: cs, d :: ds, h => by
    obtain ⟨h1, h2⟩ := WArgL.get h.2
    refine ⟨by simp [h1], ?_⟩
    intro j a b ha hb
    cases j with
    | zero => simp at ha hb; subst ha hb; exact h.1
    | succ j => exact h2 j a b (by simpa using ha) (by simpa using hb)
  | [], _ :: _, h => h.elim
  | _ :: _, [], h => h.elim
@[simp] theorem warg_v (x : Value) : WArg (.v x) (.v x) = True := eq_true (.inr ⟨rfl, trivial⟩)
@[simp] theorem warg_w (es : List (List AV)) : WArg (.wsl es) (.wsl es) = True := eq_true (.inr ⟨rfl, trivial⟩)
@[simp] theorem warg_ints (l : List Int) : WArg (.sl false (l.map intCells)) (.wsl (l.map wintCells)) = True := eq_true (.inl (wilds_ints l))
@[simp] theorem warg_strs (l : List ByteArray) : WArg (.sl false (l.map strCells)) (.wsl (l.map wstrCells)) = True := eq_true (.inl (wilds_strs l))
@[simp] theorem warg_trms (l : List Trm) : WArg (.sl false (l.map Trm.cells)) (.wsl (l.map wtrmCells)) = True := eq_true (.inl (wilds_trms l))
@[simp] theorem warg_pks (l : List Pk) : WArg (.sl false (l.map (Pk.cells false))) (.wsl (l.map wpkCells)) = True := eq_true (.inl (wilds_pks l))
section
variable {nt : Nat} {st : St} {dst : Option Tmp}
theorem mark_k {P : Program} {own : Nat → Bool} {verT : TypeId → Bool} {wr : Nat → Bool} {ops : Array Oper} {f : FuncId} {xs : List AV} {rest : List Oper} {L : St → Prop} {las : List AV} {x : Value} (n : Nat) (keep : List (Nat × AV)) (hp : MCall P f las x)
    (hw : WArgL xs las) (hd : dstOK nt dst = true) (hb : ∀ cs ∈ st.mem.boxes, ∀ c ∈ cs, c.Stay) (ha : ∀ i, (st.mem.arrs i).live = true → ∀ r ∈ (st.mem.arrs i).es, ∀ c ∈ r, c.Stay)
    (hs : ∀ t ∈ List.range n, (st.env t).Stay) (hk : WArgs st.env keep) (h : aops ⟨P, own, verT, wr, 1⟩ nt ops rest L (St.put ⟨envOr keep (envStay n st.env), st.mem⟩ dst (.v x))) :
    onMark ⟨P, own, verT, wr, 1⟩ nt ops dst f xs rest L st := mark_c n keep hp hw.get hd hb ha hs hk h
end

end Go.Proofs.Ytokhnmchnfkiiaa.Am
