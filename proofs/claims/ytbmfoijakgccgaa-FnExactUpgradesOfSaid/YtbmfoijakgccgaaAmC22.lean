/- The packages that give a term, as the reference and the program find them. No conditions. -/
import Derived.Test.YtbmfoijakgccgaaAmC21
namespace Go.Proofs.Ytbmfoijakgccgaa.Am
open Go Go.RowKit Go.Proofs
set_option linter.unusedSimpArgs false
set_option linter.unusedVariables false

/-- An array that is nil as long as it is empty. -/
def refN (p v n : Nat) : AV := if n = 0 then .nil else .arr p v 0 n
def arrN (p : Nat) (ver : Nat → Nat) (v : Nat) (e : TypeId) (es : List (List AV)) : Nat → ArrSt := if es = [] then noArrs ver else fun j => if j = p then ⟨v, true, e, es⟩ else ⟨ver j, false, 0, []⟩
def setRes (code : Int) (x : AV) : AV := .agg [.v (.int .i64 code), .v (.int .i64 0), x]

/-- Numbers are put behind an array that is nil as long as it is empty. -/
theorem append_refN {G : Cfg} {t e : TypeId} (he : G.elemT t = some e) (hz : G.csz e = some 1) (hb : G.bts e = some 8) (ho : G.zerOK e = true) (p : Nat) (ver : Nat → Nat) (v : Nat) (out : List Int) (n : Int) (bx : List (List AV)) (c : Bool) (h : (out.length + 1) * 8 ≤ 140737488355328) :
    ∃ w, aappend G (some p) t t ⟨bx, arrN p ver v e (out.map intCells)⟩ (refN p v out.length) (.sl c [intCells n]) = some (.arr p w 0 (out.length + 1), ⟨bx, arrN p ver w e ((out ++ [n]).map intCells)⟩) := by
  cases out with
  | nil =>
    refine ⟨ver p + 1, ?_⟩
    simp [aappend, he, hz, hb, ho, refN, arrN, Mem.made, sealRows, sealCells, noArrs]
  | cons a l =>
    refine ⟨v + 1, ?_⟩
    have h2 : (l.length + 1 + 1) * 8 ≤ 140737488355328 := by simpa using h
    simp [aappend, he, hz, hb, ho, refN, arrN, sealRows, sealCells, h2]
    funext j
    by_cases hj : j = p <;> simp [hj]

@[simp] theorem one_refN (p v n : Nat) : (refN p v n).one = true := by unfold refN; split <;> rfl
theorem fin1_refN (bx : List (List AV)) (p : Nat) (ver : Nat → Nat) (v : Nat) (e : TypeId) (es : List (List AV)) : fin1 ⟨bx, arrN p ver v e es⟩ (refN p v es.length) = .sl false es := by
  cases es with
  | nil => simp [refN, fin1]
  | cons a l => simp [refN, arrN, fin1]

noncomputable def giversF (c : List Pk) (s : List Int) (t : Trm) : Int × List Int := if setF c s ≠ 0 then (setF c s, []) else if trmF t ≠ 0 then (trmF t, []) else (0, s.filter fun x => givesF (pkAt c x) t)

set_option maxHeartbeats 4000000 in
theorem p_givers (a b k : Bool) (c : List Pk) (hc : c.length ≤ 4611686018427387904) (hb : ∀ p ∈ c, p.Len) (s : List Int) (hs : s.length * 8 ≤ 140737488355328) (t : Trm) : Pure Try.prog 72 [pksAV a b c, intsAV k s, t.av] (setRes (giversF c s t).1 (intsAV false (giversF c s t).2)) := by
  have hs2 : s.length ≤ 4611686018427387904 := by omega
  by_cases h1 : setF c s = 0
  · by_cases h2 : trmF t = 0
    · have e : giversF c s t = (0, s.filter fun x => givesF (pkAt c x) t) := by simp [giversF, h1, h2]
      rw [e]
      obtain ⟨hcat, hpl, _, _⟩ := setF_facts h1
      simp only [setRes]
      obtain ⟨L, hL⟩ : ∃ L, L = s.filter fun x => givesF (pkAt c x) t := ⟨_, rfl⟩
      rw [← hL]
      refine pure_of_code (G := Go1 47) (verso 47) mixed0 Try.func72 rfl (by decide) (by simp [Try.f72]) (by simp) fun ver => ?_
      simp only [Try.f72, Go1]
      simp
      refine call_p (p_setFault a b k c hc hb s hs2) (by simp) ?_
      simp [h1]
      refine call_p (p_trm t) (by simp) ?_
      simp [h2]
      refine aloop (α := Nat × Nat × List Int) (fun d => ⟨envOf [(0, pksAV a b c), (1, intsAV k s), (5, .box 0 0), (6, .box 1 0), (9, .box 2 0), (10, .v (.int .i64 d.1))], ⟨[t.cells, [.v (.int .i64 0), .v (.int .i64 0), .nil], [.v (.int .i64 0), .v (.int .i64 0), refN 47 d.2.1 d.2.2.length]], arrN 47 ver d.2.1 2 (d.2.2.map intCells)⟩⟩)
        (fun d => d.1 ≤ s.length ∧ d.2.2 ++ (s.drop d.1).filter (fun x => givesF (pkAt c x) t) = L) (fun d => s.length - d.1) (0, 0, []) (less_envOf (by simp) (by simp [refN]) (by simp [arrN])) (by simp [hL]) ?_
      rintro ⟨i, v, out⟩ ⟨hk, hm⟩
      simp only at hk hm ⊢
      by_cases hlt : i < s.length
      · have hw := wrapS hlt hs2
        obtain ⟨q1, q2⟩ := hpl _ (List.getElem_mem hlt)
        have hg := pkAt_get q2
        have hok := hcat _ (pkAt_mem q2)
        rw [drop_get hlt] at hm
        simp [hlt]
        refine adraw_all (by kernel_rfl) ?_
        simp [hlt, q1, hg]
        refine call_p (p_gives b (pkAt c s[i]) (by have := hok.1; omega) t) (by simp) ?_
        cases hgv : givesF (pkAt c s[i]) t with
        | false =>
          rw [List.filter_cons_of_neg (by simp [hgv])] at hm
          simp
          exact ⟨i + 1, v, out, less_envOf (by simp [hw]) rfl fun _ => rfl, ⟨by omega, hm⟩, by omega⟩
        | true =>
          rw [List.filter_cons_of_pos (by simp [hgv])] at hm
          have hlen : (out.length + 1) * 8 ≤ 140737488355328 := by
            have h3 := congrArg List.length (hm.trans hL)
            have h4 := List.length_filter_le (fun x => givesF (pkAt c x) t) s
            simp at h3
            omega
          simp
          refine adraw_cut 7 (by kernel_rfl) ?_
          obtain ⟨w, happ⟩ := append_refN (G := ⟨Try.prog, fun t => t == 47, fun t => t == 31, fun _ => true, 0⟩) (t := 69) (e := 2) (by simp) (by simp) (by simp) (by simp) 47 ver v out s[i] [t.cells, [.v (.int .i64 0), .v (.int .i64 0), .nil], [.v (.int .i64 0), .v (.int .i64 0), refN 47 v out.length]] false hlen
          simp at happ
          simp [hlt, List.range_succ, sealRows, sealCells, happ]
          exact ⟨i + 1, w, out ++ [s[i]], less_envOf (by simp [hw]) (by simp [refN]) (by simp), ⟨by omega, by simpa using hm⟩, by omega⟩
      · rw [List.drop_eq_nil_of_le (by omega), List.filter_nil, List.append_nil] at hm
        rw [← hm]
        cases out with
        | nil => simp [hlt, refN, arrN]
        | cons x out => simp [hlt, refN, arrN]
    · have e : giversF c s t = (trmF t, []) := by simp [giversF, h1, h2]
      rw [e]
      simp only [setRes]
      refine pure_of_code (G := (G0)) vers0 mixed0 Try.func72 rfl (by decide) (by simp [Try.f72]) (by simp) fun ver => ?_
      simp only [Try.f72, G0]
      simp
      refine call_p (p_setFault a b k c hc hb s hs2) (by simp) ?_
      simp [h1]
      refine call_p (p_trm t) (by simp) ?_
      simp [h2]
  · have e : giversF c s t = (setF c s, []) := by simp [giversF, h1]
    rw [e]
    simp only [setRes]
    refine pure_of_code (G := (G0)) vers0 mixed0 Try.func72 rfl (by decide) (by simp [Try.f72]) (by simp) fun ver => ?_
    simp only [Try.f72, G0]
    simp
    refine call_p (p_setFault a b k c hc hb s hs2) (by simp) ?_
    simp [h1]

end Go.Proofs.Ytbmfoijakgccgaa.Am
