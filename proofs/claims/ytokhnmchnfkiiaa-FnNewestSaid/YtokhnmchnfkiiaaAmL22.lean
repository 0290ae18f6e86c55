/- The law FnNewest: what is to be shown of the row's function. No conditions. -/
import Derived.Test.YtokhnmchnfkiiaaAmCg22
namespace Go.Proofs.Ytokhnmchnfkiiaa.Am
open Go Go.RowKit Go.Proofs
set_option linter.unusedSimpArgs false
set_option linter.unusedVariables false

theorem p_big (l : List Int) : Pure Try.prog 7 [.sl true (l.map bytCells)] (.v (.bool (decide (1048576 < l.length)))) := by
  refine pure_of_code (G := (G0)) vers0 mixed0 Try.func7 rfl (by decide) (by simp [Try.f7]) (by simp) fun ver => ?_
  simp only [Try.f7, G0]
  simp
  by_cases h : 1048576 < l.length
  · have hi : (1048576 : Int) < l.length := by omega
    simp [h, hi]
  · have hi : ¬ (1048576 : Int) < l.length := by omega
    simp [h, hi]

theorem DPn.len {n : Nat} {p : Pk} (h : DPn n p) (hn : n ≤ 100) : p.Len := ⟨by have := h.pr; omega, by have := h.ne; omega, fun c hc => by have := h.cl c hc; omega, by have := h.ba; omega⟩

set_option maxHeartbeats 8000000 in
set_option maxRecDepth 20000 in
theorem l_fnNewest (l : List Int) (hl : ∀ b ∈ l, 0 ≤ b ∧ b < 256) : Pure Try.prog 3 [.sl true (l.map bytCells)] (.v (.bool true)) := by
  refine pure_of_code (G := (G0)) vers0 mixed0 Try.func3 rfl (by decide) (by simp [Try.f3]) (by simp) fun ver => ?_
  simp only [Try.f3, G0]
  simp
  refine call_p (p_big l) (by simp) ?_
  by_cases hbig : 1048576 < l.length
  · simp [hbig]
  have hb : Byt l := ⟨by omega, hl⟩
  simp [hbig]
  refine call_ic (i_drawNewest l hb ⟨[], noArrs ver⟩) rfl (by simp) (icok (by decide) (by decide)) ?_
  rintro r m' ⟨⟨c, t, rfl, hc, hp⟩, rfl⟩
  have hlen : c.length ≤ 4611686018427387904 := by omega
  have hpl : ∀ p ∈ c, p.Len := fun p h => (hp p h).len (by decide)
  simp
  refine call_p (q_newest false false c hlen hpl t) (by simp) ?_
  have hnew := @new_ok c t
  have hpn := p_newest false false c hlen hpl t
  obtain ⟨R, hR⟩ : ∃ R, R = newA c t := ⟨_, rfl⟩
  rw [← hR] at hnew hpn ⊢
  obtain ⟨K, V⟩ := R
  simp only at hnew hpn ⊢
  by_cases hK : K = 0
  case neg =>
    simp [hK]
    refine adraw_all (by kernel_rfl) ?_
    simp
    refine call_p hpn (by simp) ?_
    simp
  obtain ⟨hcat, htrm, i, hi, hKV, hn, hg, hno⟩ := hnew hK
  cases hKV
  have hpk := (catF_ok hcat).2 _ (List.getElem_mem hi)
  have hci : c[i]? = some c[i] := List.getElem?_eq_getElem hi
  have hpi := hpl _ (List.getElem_mem hi)
  have hno' : ∀ (j : Nat) (hj : j < c.length), c[j].n = t.n → givesF c[j] t = true → ¬ 0 < cmpF c[j].v.a c[j].v.b c[j].v.c c[i].v.a c[i].v.b c[i].v.c := fun j hj q1 q2 => by have := hno j hj q1 q2; omega
  have huniq := cat_uniq hcat hi
  have hbl := bytesP_lenI hpk
  obtain ⟨P, hP⟩ : ∃ P, P = c[i] := ⟨_, rfl⟩
  rw [← hP] at hn hg hno' hpk hci hpi huniq hbl
  have hmem : P ∈ c := by rw [hP]; exact List.getElem_mem hi
  clear hno
  simp [hi, hK, ← hP]
  refine aloop (α := Nat) (fun j => ⟨envOf [(3, pksAV false false c), (4, .box 0 0), (5, .box 1 0), (6, .box 2 0), (7, .v (.int .i64 j))], ⟨[t.cells, [.v (.int .i64 0), .v (.int .i64 i)], P.cells false], noArrs ver⟩⟩)
    (fun j => j ≤ c.length) (fun j => c.length - j) 0 (less_envOf (by simp) (by simp) fun _ => rfl) (by simp) ?_
  intro j hj
  by_cases hlt : j < c.length
  · have hw := wrapS hlt hlen
    have hmj := List.getElem_mem hlt
    have hgj := hno' j hlt
    obtain ⟨X, hX⟩ : ∃ X, X = c[j] := ⟨_, rfl⟩
    rw [← hX] at hmj hgj
    have hpkx := (catF_ok hcat).2 _ hmj
    simp [hlt]
    refine adraw_all (by kernel_rfl) ?_
    simp [hlt, ← hX]
    by_cases hnx : X.n = t.n
    · have hn2 : (X.n = t.n) = True := eq_true hnx
      simp (config := { maxSteps := 4000000 }) [hn2, hlt, ← hX]
      refine call_p (q_givesTerm false X (hpl _ hmj) t) (by simp) ?_
      cases hgx : givesF X t with
      | false =>
        simp [hpkx, htrm, hgx]
        exact ⟨j + 1, less_envOf (by simp [hw]) rfl fun _ => rfl, by omega, by omega⟩
      | true =>
        simp [hpkx, htrm, hgx, hlt, ← hX]
        refine call_p (q_compareVersions _ _ _ _ _ _) (by simp) ?_
        have hc0 := hgj hnx hgx
        simp [hc0]
        exact ⟨j + 1, less_envOf (by simp [hw]) rfl fun _ => rfl, by omega, by omega⟩
    · simp (config := { maxSteps := 4000000 }) [hnx]
      exact ⟨j + 1, less_envOf (by simp [hw]) rfl fun _ => rfl, by omega, by omega⟩
  · simp [hlt]
    refine call_p ((q_packBytesB false P hpi hpk).pure (by simp) (by simp [sealR, sealR1, fr_byte])) (by simp) ?_
    simp
    refine adraw_all (by kernel_rfl) ?_
    simp
    refine call_p (q_givesTerm false P hpi t) (by simp) ?_
    simp [hpk, htrm, hg, hn, hbl]
    have hQ := q_findPack false false c hlen hpl P.n P.v
    have hF2 : findPackF c P.n P.v = intRes 0 i := by
      unfold findPackF
      rw [if_neg (by simp [hcat]), huniq, if_neg (by omega)]
    rw [hF2, hn] at hQ
    refine call_p hQ (by simp) ?_
    simp

end Go.Proofs.Ytokhnmchnfkiiaa.Am
