/- Functions that write marks into what they are handed: terms, packages. No conditions. -/
import Derived.Test.YtokhnmchnfkiiaaAmC17
namespace Go.Proofs.Ytokhnmchnfkiiaa.Am
open Go Go.RowKit Go.Proofs
set_option linter.unusedSimpArgs false
set_option linter.unusedVariables false

theorem cond_t {G : Cfg} {nt : Nat} {c : Operand} {x y : Code} {K : Exit → St → Prop} {st : St} (h : st.ev c = .v (.bool true)) (hx : acode G nt x K st) : acode G nt (.cond c x y) K st := by
  rw [acode_cond, h, onBool_b]
  exact ⟨fun _ => hx, fun e => by cases e⟩

theorem w_trms (l : List Trm) (k : Int) (h0 : 0 ≤ k) (hk : k + mkT l ≤ 1099511627776) : MCall Try.prog 34 [wtrmsAV l, .v (.int .i64 k)] (.int .i64 (k + mkT l)) := by
  unfold mkT at hk ⊢
  have hl : l.length ≤ 4611686018427387904 := by omega
  refine mcall_of_code (G := Gw) versw mixed0 Try.func34 rfl (by decide) (by simp [Try.f34]) fun ver => ?_
  simp only [Try.f34, Gw]
  simp
  refine aloop (α := Nat) (fun i => ⟨envOf [(0, wtrmsAV l), (1, .v (.int .i64 (k + ((7 * i : Nat) : Int)))), (5, .v (.int .i64 i))], ⟨[], noArrs ver⟩⟩)
    (fun i => i ≤ l.length) (fun i => l.length - i) 0 (less_envOf (by simp) rfl fun _ => rfl) (by simp) ?_
  intro i hi
  by_cases hlt : i < l.length
  · have hw := wrapS hlt hl
    have b : ∀ m : Int, 0 ≤ m → m ≤ 1099511627786 → IntKind.i64.wrap (m + 1) = m + 1 := fun m _ _ => IntWalk.i64_in _ (by omega)
    obtain ⟨m, hm⟩ : ∃ m : Int, m = k + ((7 * i : Nat) : Int) := ⟨_, rfl⟩
    rw [← hm]
    repeat first | rw [acode_seq] | rw [acode_block]
    refine acode_cutE ⟨[], noArrs ver⟩ (fun E => E 0 = wtrmsAV l ∧ E 1 = .v (.int .i64 (m)) ∧ E 5 = .v (.int .i64 i) ∧ E 9 = .v (.bool true)) ?_ ?_
    · simp [hlt]
    rintro E ⟨z0, z1, z5, z9⟩
    repeat first | rw [kSeq_normal] | rw [acode_seq]
    refine cond_t z9 ?_
    repeat first | rw [acode_skip] | rw [kSeq_normal] | rw [acode_seq] | rw [acode_block]
    refine acode_cutE ⟨[], noArrs ver⟩ (fun E => E 0 = wtrmsAV l ∧ E 1 = .v (.int .i64 (m)) ∧ E 5 = .v (.int .i64 i)) ?_ ?_
    · simp [z0, z1, z5, hlt]
      refine call_p (p_markText _ (by omega)) (by simp) ?_
      simp [z0, z1, z5, hlt]
    rintro E ⟨z0, z1, z5⟩
    repeat first | rw [kSeq_normal] | rw [acode_seq]
    have hb0 := b m (by omega) (by omega)
    refine acode_cutE ⟨[], noArrs ver⟩ (fun E => E 0 = wtrmsAV l ∧ E 1 = .v (.int .i64 (m + 1)) ∧ E 5 = .v (.int .i64 i)) ?_ ?_
    · simp [z0, z1, z5, hlt, hb0]
    rintro E ⟨z0, z1, z5⟩
    repeat first | rw [kSeq_normal] | rw [acode_seq]
    refine acode_cutE ⟨[], noArrs ver⟩ (fun E => E 0 = wtrmsAV l ∧ E 1 = .v (.int .i64 (m + 1)) ∧ E 5 = .v (.int .i64 i)) ?_ ?_
    · simp [z0, z1, z5, hlt]
    rintro E ⟨z0, z1, z5⟩
    repeat first | rw [kSeq_normal] | rw [acode_seq]
    have hb1 : IntKind.i64.wrap (m + 1 + 1) = m + 2 := by rw [b _ (by omega) (by omega)]; omega
    refine acode_cutE ⟨[], noArrs ver⟩ (fun E => E 0 = wtrmsAV l ∧ E 1 = .v (.int .i64 (m + 2)) ∧ E 5 = .v (.int .i64 i)) ?_ ?_
    · simp [z0, z1, z5, hlt, hb1]
    rintro E ⟨z0, z1, z5⟩
    repeat first | rw [kSeq_normal] | rw [acode_seq]
    refine acode_cutE ⟨[], noArrs ver⟩ (fun E => E 0 = wtrmsAV l ∧ E 1 = .v (.int .i64 (m + 2)) ∧ E 5 = .v (.int .i64 i)) ?_ ?_
    · simp [z0, z1, z5, hlt]
    rintro E ⟨z0, z1, z5⟩
    repeat first | rw [kSeq_normal] | rw [acode_seq]
    have hb2 : IntKind.i64.wrap (m + 2 + 1) = m + 3 := by rw [b _ (by omega) (by omega)]; omega
    refine acode_cutE ⟨[], noArrs ver⟩ (fun E => E 0 = wtrmsAV l ∧ E 1 = .v (.int .i64 (m + 3)) ∧ E 5 = .v (.int .i64 i)) ?_ ?_
    · simp [z0, z1, z5, hlt, hb2]
    rintro E ⟨z0, z1, z5⟩
    repeat first | rw [kSeq_normal] | rw [acode_seq]
    refine acode_cutE ⟨[], noArrs ver⟩ (fun E => E 0 = wtrmsAV l ∧ E 1 = .v (.int .i64 (m + 3)) ∧ E 5 = .v (.int .i64 i)) ?_ ?_
    · simp [z0, z1, z5, hlt]
    rintro E ⟨z0, z1, z5⟩
    repeat first | rw [kSeq_normal] | rw [acode_seq]
    have hb3 : IntKind.i64.wrap (m + 3 + 1) = m + 4 := by rw [b _ (by omega) (by omega)]; omega
    refine acode_cutE ⟨[], noArrs ver⟩ (fun E => E 0 = wtrmsAV l ∧ E 1 = .v (.int .i64 (m + 4)) ∧ E 5 = .v (.int .i64 i)) ?_ ?_
    · simp [z0, z1, z5, hlt, hb3]
    rintro E ⟨z0, z1, z5⟩
    repeat first | rw [kSeq_normal] | rw [acode_seq]
    refine acode_cutE ⟨[], noArrs ver⟩ (fun E => E 0 = wtrmsAV l ∧ E 1 = .v (.int .i64 (m + 4)) ∧ E 5 = .v (.int .i64 i)) ?_ ?_
    · simp [z0, z1, z5, hlt]
    rintro E ⟨z0, z1, z5⟩
    repeat first | rw [kSeq_normal] | rw [acode_seq]
    have hb4 : IntKind.i64.wrap (m + 4 + 1) = m + 5 := by rw [b _ (by omega) (by omega)]; omega
    refine acode_cutE ⟨[], noArrs ver⟩ (fun E => E 0 = wtrmsAV l ∧ E 1 = .v (.int .i64 (m + 5)) ∧ E 5 = .v (.int .i64 i)) ?_ ?_
    · simp [z0, z1, z5, hlt, hb4]
    rintro E ⟨z0, z1, z5⟩
    repeat first | rw [kSeq_normal] | rw [acode_seq]
    refine acode_cutE ⟨[], noArrs ver⟩ (fun E => E 0 = wtrmsAV l ∧ E 1 = .v (.int .i64 (m + 5)) ∧ E 5 = .v (.int .i64 i)) ?_ ?_
    · simp [z0, z1, z5, hlt]
    rintro E ⟨z0, z1, z5⟩
    repeat first | rw [kSeq_normal] | rw [acode_seq]
    have hb5 : IntKind.i64.wrap (m + 5 + 1) = m + 6 := by rw [b _ (by omega) (by omega)]; omega
    refine acode_cutE ⟨[], noArrs ver⟩ (fun E => E 0 = wtrmsAV l ∧ E 1 = .v (.int .i64 (m + 6)) ∧ E 5 = .v (.int .i64 i)) ?_ ?_
    · simp [z0, z1, z5, hlt, hb5]
    rintro E ⟨z0, z1, z5⟩
    repeat first | rw [kSeq_normal] | rw [acode_seq]
    refine acode_cutE ⟨[], noArrs ver⟩ (fun E => E 0 = wtrmsAV l ∧ E 1 = .v (.int .i64 (m + 6)) ∧ E 5 = .v (.int .i64 i)) ?_ ?_
    · simp [z0, z1, z5, hlt]
    rintro E ⟨z0, z1, z5⟩
    repeat first | rw [kSeq_normal] | rw [acode_seq]
    have hb6 : IntKind.i64.wrap (m + 6 + 1) = m + 7 := by rw [b _ (by omega) (by omega)]; omega
    refine acode_cutE ⟨[], noArrs ver⟩ (fun E => E 0 = wtrmsAV l ∧ E 1 = .v (.int .i64 (m + 7)) ∧ E 5 = .v (.int .i64 i)) ?_ ?_
    · simp [z0, z1, z5, hlt, hb6]
    rintro E ⟨z0, z1, z5⟩
    repeat first | rw [kSeq_normal] | rw [acode_seq]
    simp [z5]
    exact ⟨i + 1, less_envOf (by simp [z0, z1, z5, hw, hm]; omega) rfl fun _ => rfl, by omega, by omega⟩
  · have e : i = l.length := by omega
    subst e
    simp

theorem w_cls (l : List (List Trm)) (k : Int) (h0 : 0 ≤ k) (hk : k + mkC l ≤ 1099511627776) (hl : l.length ≤ 4611686018427387904) : MCall Try.prog 69 [wclsAV l, .v (.int .i64 k)] (.int .i64 (k + mkC l)) := by
  refine mcall_of_code (G := Gw) versw mixed0 Try.func69 rfl (by decide) (by simp [Try.f69]) fun ver => ?_
  simp only [Try.f69, Gw]
  simp
  refine aloop (α := Nat × Int) (fun d => ⟨envOf [(0, wclsAV l), (1, .v (.int .i64 d.2)), (5, .v (.int .i64 d.1))], ⟨[], noArrs ver⟩⟩)
    (fun d => d.1 ≤ l.length ∧ 0 ≤ d.2 ∧ d.2 + mkC (l.drop d.1) = k + mkC l) (fun d => l.length - d.1) (0, k) (less_envOf (by simp) rfl fun _ => rfl) ⟨by simp, h0, rfl⟩ ?_
  rintro ⟨i, m⟩ ⟨hi, hm0, hm⟩
  simp only at hi hm0 hm ⊢
  by_cases hlt : i < l.length
  · have hw := wrapS hlt hl
    rw [drop_get hlt, mkC] at hm
    simp [hlt]
    refine call_w (w_trms l[i] m hm0 (by omega)) (by simp) ?_
    simp
    exact ⟨i + 1, m + mkT l[i], less_envOf (by simp [hw]) rfl fun _ => rfl, ⟨by omega, by omega, by omega⟩, by omega⟩
  · rw [List.drop_eq_nil_of_le (by omega), mkC] at hm
    simp [hlt]
    omega

theorem w_pk (p : Pk) (hp : p.Len) (k : Int) (h0 : 0 ≤ k) (hk : k + mkP p ≤ 1099511627776) : MCall Try.prog 20 [.agg (wpkCells p), .v (.int .i64 k)] (.int .i64 (k + mkP p)) := by
  obtain ⟨hp1, hp2, hp3, hp4⟩ := hp
  unfold mkP at hk ⊢
  refine mcall_of_code (G := Gw) versw mixed0 Try.func20 rfl (by decide) (by simp [Try.f20]) fun ver => ?_
  simp only [Try.f20, Gw]
  simp
  refine call_w (w_strs p.pr k h0 (by omega)) (by simp) ?_
  simp
  refine call_w (w_cls p.ne _ (by omega) (by omega) hp2) (by simp) ?_
  simp
  refine call_w (w_trms p.ba _ (by omega) (by omega)) (by simp) ?_
  simp
  omega

theorem w_pks (l : List Pk) (hb : ∀ p ∈ l, p.Len) (hl : l.length ≤ 4611686018427387904) (k : Int) (h0 : 0 ≤ k) (hk : k + mkPs l ≤ 1099511627776) : MCall Try.prog 33 [wpksAV l, .v (.int .i64 k)] (.int .i64 (k + mkPs l)) := by
  refine mcall_of_code (G := Gw) versw mixed0 Try.func33 rfl (by decide) (by simp [Try.f33]) fun ver => ?_
  simp only [Try.f33, Gw]
  simp
  refine aloop (α := Nat × Int) (fun d => ⟨envOf [(0, wpksAV l), (1, .v (.int .i64 d.2)), (5, .v (.int .i64 d.1))], ⟨[], noArrs ver⟩⟩)
    (fun d => d.1 ≤ l.length ∧ 0 ≤ d.2 ∧ d.2 + mkPs (l.drop d.1) = k + mkPs l) (fun d => l.length - d.1) (0, k) (less_envOf (by simp) rfl fun _ => rfl) ⟨by simp, h0, rfl⟩ ?_
  rintro ⟨i, m⟩ ⟨hi, hm0, hm⟩
  simp only at hi hm0 hm ⊢
  by_cases hlt : i < l.length
  · have hw := wrapS hlt hl
    rw [drop_get hlt, mkPs, mkP] at hm
    obtain ⟨hp1, hp2, hp3, hp4⟩ := hb _ (List.getElem_mem hlt)
    have b : ∀ m : Int, 0 ≤ m → m ≤ 1099511627786 → IntKind.i64.wrap (m + 1) = m + 1 := fun m _ _ => IntWalk.i64_in _ (by omega)
    repeat first | rw [acode_seq] | rw [acode_block]
    refine acode_cutE ⟨[], noArrs ver⟩ (fun E => E 0 = wpksAV l ∧ E 1 = .v (.int .i64 (m)) ∧ E 5 = .v (.int .i64 i) ∧ E 9 = .v (.bool true)) ?_ ?_
    · simp [hlt]
    rintro E ⟨z0, z1, z5, z9⟩
    repeat first | rw [kSeq_normal] | rw [acode_seq]
    refine cond_t z9 ?_
    repeat first | rw [acode_skip] | rw [kSeq_normal] | rw [acode_seq] | rw [acode_block]
    refine acode_cutE ⟨[], noArrs ver⟩ (fun E => E 0 = wpksAV l ∧ E 1 = .v (.int .i64 (m)) ∧ E 5 = .v (.int .i64 i)) ?_ ?_
    · simp [z0, z1, z5, hlt]
      refine call_p (p_markText _ (by omega)) (by simp) ?_
      simp [z0, z1, z5, hlt]
    rintro E ⟨z0, z1, z5⟩
    repeat first | rw [kSeq_normal] | rw [acode_seq]
    have hb0 := b m (by omega) (by omega)
    refine acode_cutE ⟨[], noArrs ver⟩ (fun E => E 0 = wpksAV l ∧ E 1 = .v (.int .i64 (m + 1)) ∧ E 5 = .v (.int .i64 i)) ?_ ?_
    · simp [z0, z1, z5, hlt, hb0]
    rintro E ⟨z0, z1, z5⟩
    repeat first | rw [kSeq_normal] | rw [acode_seq]
    refine acode_cutE ⟨[], noArrs ver⟩ (fun E => E 0 = wpksAV l ∧ E 1 = .v (.int .i64 (m + 1)) ∧ E 5 = .v (.int .i64 i)) ?_ ?_
    · simp [z0, z1, z5, hlt]
    rintro E ⟨z0, z1, z5⟩
    repeat first | rw [kSeq_normal] | rw [acode_seq]
    have hb1 : IntKind.i64.wrap (m + 1 + 1) = m + 2 := by rw [b _ (by omega) (by omega)]; omega
    refine acode_cutE ⟨[], noArrs ver⟩ (fun E => E 0 = wpksAV l ∧ E 1 = .v (.int .i64 (m + 2)) ∧ E 5 = .v (.int .i64 i)) ?_ ?_
    · simp [z0, z1, z5, hlt, hb1]
    rintro E ⟨z0, z1, z5⟩
    repeat first | rw [kSeq_normal] | rw [acode_seq]
    refine acode_cutE ⟨[], noArrs ver⟩ (fun E => E 0 = wpksAV l ∧ E 1 = .v (.int .i64 (m + 2)) ∧ E 5 = .v (.int .i64 i)) ?_ ?_
    · simp [z0, z1, z5, hlt]
    rintro E ⟨z0, z1, z5⟩
    repeat first | rw [kSeq_normal] | rw [acode_seq]
    have hb2 : IntKind.i64.wrap (m + 2 + 1) = m + 3 := by rw [b _ (by omega) (by omega)]; omega
    refine acode_cutE ⟨[], noArrs ver⟩ (fun E => E 0 = wpksAV l ∧ E 1 = .v (.int .i64 (m + 3)) ∧ E 5 = .v (.int .i64 i)) ?_ ?_
    · simp [z0, z1, z5, hlt, hb2]
    rintro E ⟨z0, z1, z5⟩
    repeat first | rw [kSeq_normal] | rw [acode_seq]
    refine acode_cutE ⟨[], noArrs ver⟩ (fun E => E 0 = wpksAV l ∧ E 1 = .v (.int .i64 (m + 3)) ∧ E 5 = .v (.int .i64 i)) ?_ ?_
    · simp [z0, z1, z5, hlt]
    rintro E ⟨z0, z1, z5⟩
    repeat first | rw [kSeq_normal] | rw [acode_seq]
    have hb3 : IntKind.i64.wrap (m + 3 + 1) = m + 4 := by rw [b _ (by omega) (by omega)]; omega
    refine acode_cutE ⟨[], noArrs ver⟩ (fun E => E 0 = wpksAV l ∧ E 1 = .v (.int .i64 (m + 4)) ∧ E 5 = .v (.int .i64 i)) ?_ ?_
    · simp [z0, z1, z5, hlt, hb3]
    rintro E ⟨z0, z1, z5⟩
    repeat first | rw [kSeq_normal] | rw [acode_seq]
    refine acode_cutE ⟨[], noArrs ver⟩ (fun E => E 0 = wpksAV l ∧ E 1 = .v (.int .i64 (m + 4)) ∧ E 5 = .v (.int .i64 i)) ?_ ?_
    · simp [z0, z1, z5, hlt]
    rintro E ⟨z0, z1, z5⟩
    repeat first | rw [kSeq_normal] | rw [acode_seq]
    have hb4 : IntKind.i64.wrap (m + 4 + 1) = m + 5 := by rw [b _ (by omega) (by omega)]; omega
    refine acode_cutE ⟨[], noArrs ver⟩ (fun E => E 0 = wpksAV l ∧ E 1 = .v (.int .i64 (m + 5)) ∧ E 5 = .v (.int .i64 i)) ?_ ?_
    · simp [z0, z1, z5, hlt, hb4]
    rintro E ⟨z0, z1, z5⟩
    repeat first | rw [kSeq_normal] | rw [acode_seq]
    refine acode_cutE ⟨[], noArrs ver⟩ (fun E => E 0 = wpksAV l ∧ E 1 = .v (.int .i64 (m + 5 + l[i].pr.length)) ∧ E 5 = .v (.int .i64 i)) ?_ ?_
    · simp [z0, z1, z5, hlt]
      refine call_w (w_strs l[i].pr (m + 5) (by omega) (by omega)) (by simp) ?_
      simp [z0, z1, z5, hlt]
    rintro E ⟨z0, z1, z5⟩
    repeat first | rw [kSeq_normal] | rw [acode_seq]
    refine acode_cutE ⟨[], noArrs ver⟩ (fun E => E 0 = wpksAV l ∧ E 1 = .v (.int .i64 (m + 5 + l[i].pr.length + mkC l[i].ne)) ∧ E 5 = .v (.int .i64 i)) ?_ ?_
    · simp [z0, z1, z5, hlt]
      refine call_w (w_cls l[i].ne _ (by omega) (by omega) hp2) (by simp) ?_
      simp [z0, z1, z5, hlt]
    rintro E ⟨z0, z1, z5⟩
    repeat first | rw [kSeq_normal] | rw [acode_seq]
    refine acode_cutE ⟨[], noArrs ver⟩ (fun E => E 0 = wpksAV l ∧ E 1 = .v (.int .i64 (m + 5 + l[i].pr.length + mkC l[i].ne + mkT l[i].ba)) ∧ E 5 = .v (.int .i64 i)) ?_ ?_
    · simp [z0, z1, z5, hlt]
      refine call_w (w_trms l[i].ba _ (by omega) (by omega)) (by simp) ?_
      simp [z0, z1, z5, hlt]
    rintro E ⟨z0, z1, z5⟩
    repeat first | rw [kSeq_normal] | rw [acode_seq]
    simp [z5]
    exact ⟨i + 1, m + 5 + l[i].pr.length + mkC l[i].ne + mkT l[i].ba, less_envOf (by simp [z0, z1, z5, hw]) rfl fun _ => rfl, ⟨by omega, by omega, by omega⟩, by omega⟩
  · rw [List.drop_eq_nil_of_le (by omega), mkPs] at hm
    simp [hlt]
    omega


end Go.Proofs.Ytokhnmchnfkiiaa.Am
