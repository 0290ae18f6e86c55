/- The abstract machine: a region that draws its order is sound. No conditions. -/
import Derived.Test.YtbmfoijakgccgaaAmP
namespace Go.Proofs.Ytbmfoijakgccgaa.Am
open Go Go.RowKit
set_option linter.unusedSimpArgs false
set_option linter.unusedVariables false

variable {ops : Array Oper} {pre suf : List Nat}

structure Fine (ops : Array Oper) (pre suf : List Nat) : Prop where
  nodup : (pre ++ suf).Nodup
  all : ∀ i, i < ops.size → i ∈ pre ++ suf
  back : ∀ i, i < ops.size → ∀ k ∈ direct ops i, k < i
  bound : ∀ i ∈ pre ++ suf, i < ops.size
  pp : ∀ l1 i l2, pre = l1 ++ i :: l2 → (∀ k ∈ l1, conflict ops k i = true → k ∈ (clos ops ops.size).getD i []) ∧ (∀ k ∈ l2, conflict ops i k = true → i ∈ (clos ops ops.size).getD k [])
  sp : ∀ j ∈ suf, ∀ i ∈ pre, i ∈ (clos ops ops.size).getD j []
  ss : ∀ l1 i l2, suf = l1 ++ i :: l2 → ∀ k ∈ l2, i ∈ (clos ops ops.size).getD k []

theorem fine_of (h : drawOK ops pre suf = true) : Fine ops pre suf := by
  simp only [drawOK, Bool.and_eq_true] at h
  obtain ⟨⟨⟨⟨⟨h1, h2⟩, h3⟩, h4⟩, h5⟩, h6⟩ := h
  rw [List.all_eq_true] at h2 h3 h5
  refine ⟨nodupB_iff h1, ?_, ?_, ?_, ?_, ?_, ?_⟩
  · intro i hi
    have := h2 i (List.mem_range.2 hi)
    simp only [Bool.and_eq_true, List.contains_eq_mem, decide_eq_true_eq] at this
    exact this.1
  · intro i hi k hk
    have := h2 i (List.mem_range.2 hi)
    simp only [Bool.and_eq_true, List.contains_eq_mem, List.all_eq_true, decide_eq_true_eq] at this
    exact this.2 k hk
  · intro i hi
    simpa using h3 i hi
  · intro l1 i l2 e
    obtain ⟨a, b⟩ := pairsB_split h4 l1 i l2 e
    refine ⟨fun k hk hc => ?_, fun k hk hc => ?_⟩
    · simpa [hc] using a k hk
    · simpa [hc] using b k hk
  · intro j hj i hi
    have := h5 j hj
    rw [List.all_eq_true] at this
    simpa using this i hi
  · intro l1 i l2 e k hk
    obtain ⟨_, b⟩ := pairsB_split h6 l1 i l2 e
    simpa using b k hk

/-- What is listed is closed: whatever has to be before it is listed. -/
def Closed (ops : Array Oper) (L : Array Bool) : Prop := ∀ k, L.getD k false = true → ∀ i ∈ direct ops k, L.getD i false = true

theorem ready_direct {L : Array Bool} {j : Nat} (h : j ∈ Region.ready .any ops L) : L.getD j true = false ∧ (∃ o, ops[j]? = some o) ∧ ∀ i ∈ direct ops j, L.getD i false = true := by
  obtain ⟨h0, o, ho, hall⟩ := mem_ready.1 h
  refine ⟨h0, ⟨o, ho⟩, ?_⟩
  intro i hi
  simp only [direct, ho, List.mem_map, List.mem_filter] at hi
  obtain ⟨e, ⟨he, hb⟩, rfl⟩ := hi
  exact hall e (Array.mem_toList_iff.1 he) hb

theorem direct_ready {L : Array Bool} {j : Nat} {o : Oper} (ho : ops[j]? = some o) (h0 : L.getD j true = false) (h : ∀ i ∈ direct ops j, L.getD i false = true) : j ∈ Region.ready .any ops L := by
  refine mem_ready.2 ⟨h0, o, ho, fun e he hb => h _ ?_⟩
  simp only [direct, ho, List.mem_map, List.mem_filter]
  exact ⟨e, ⟨Array.mem_toList_iff.2 he, hb⟩, rfl⟩

theorem getD_tf {L : Array Bool} {j : Nat} (h : j < L.size) : L.getD j true = L.getD j false := by
  simp [h]

theorem ready_nil {L : Array Bool} (F : Fine ops pre suf) (hs : L.size = ops.size) (h : Region.ready .any ops L = []) : ∀ i, i < ops.size → L.getD i false = true := by
  intro i
  induction i using Nat.strongRecOn with
  | _ i ih =>
    intro hi
    cases hL : L.getD i false with
    | true => rfl
    | false =>
      have : i ∈ Region.ready .any ops L := direct_ready (Array.getElem?_eq_getElem hi) (by rw [getD_tf (by omega)]; exact hL) fun k hk => ih k (F.back i hi k hk) (Nat.lt_trans (F.back i hi k hk) hi)
      rw [h] at this
      cases this

theorem closed_clos {L : Array Bool} (hc : Closed ops L) {j : Nat} (hj : ∀ i ∈ direct ops j, L.getD i false = true) {x : Nat} (hx : x ∈ (clos ops ops.size).getD j []) : L.getD x false = true :=
  clos_spec ops (L := fun k => L.getD k false = true) hc _ j hj x hx

theorem closed_set {L : Array Bool} (hc : Closed ops L) {j : Nat} (hj : ∀ i ∈ direct ops j, L.getD i false = true) : Closed ops (L.setIfInBounds j true) := by
  intro k hk i hi
  by_cases hkj : k = j
  · subst hkj
    exact getD_set_true (hj i hi)
  · rw [getD_set_ne false (Ne.symm hkj)] at hk
    exact getD_set_true (hc k hk i hi)

theorem set_self {L : Array Bool} {j : Nat} (h : j < L.size) : (L.setIfInBounds j true).getD j false = true := by
  simp [h]

theorem wpOp_of {G : Cfg} (V : G.Vers) {nt base : Nat} {bx0 : List Nat} {C : Ctx} {st : St} {a : Act} {i : Nat} {o : Oper} (ho : ops[i]? = some o) {K : St → Prop} (R : Rel G nt base bx0 C st a) (hd : dstOK nt o.dst = true)
    (h : (runs ops st o = some true ∧ aop G o K st) ∨ (runs ops st o = some false ∧ K (st.put o.dst (.v undef))))
    {next : Act → World → Prop} {Q : Exit → Act → World → Prop}
    (hnext : ∀ (D : Ctx) (st' : St) (a' : Act), K st' → Rel G nt base bx0 D st' a' → Keeps C D → D.N0 = C.N0 → WExt base bx0 C.w D.w → next a' D.w) : wpOp G.P ops Q i next a C.w := by
  unfold wpOp
  rw [ho]
  simp only
  rcases h with ⟨hr, h⟩ | ⟨hr, h⟩
  · rw [runs_wanted R hr]
    simp only [if_true]
    exact .inl (aop_sound V R hd h hnext)
  · rw [runs_wanted R hr]
    simp only [Bool.false_eq_true, if_false]
    exact hnext C _ _ h (R.put (Keeps.refl C) R.mem hd (.v undef)) (Keeps.refl C) rfl (WExt.refl _ _ _)

/-- The second part: one behind the other. -/
theorem suf_sound {G : Cfg} (V : G.Vers) {nt base : Nat} {bx0 : List Nat} (F : Fine ops pre suf) {K : St → Prop} {C0 : Ctx} {Q : Exit → Act → World → Prop}
    (hQ : ∀ (D : Ctx) (st' : St) (a' : Act), K st' → Rel G nt base bx0 D st' a' → Keeps C0 D → D.N0 = C0.N0 → WExt base bx0 C0.w D.w → Q .normal a' D.w) :
    ∀ (fuel : Nat) (done rest : List Nat) (L : Array Bool) (C : Ctx) (st : St) (a : Act), suf = done ++ rest → rest.length ≤ fuel → L.size = ops.size → Closed ops L →
      (∀ i ∈ pre ++ done, L.getD i false = true) → (∀ i ∈ rest, L.getD i false = false) → Rel G nt base bx0 C st a → Keeps C0 C → C.N0 = C0.N0 → WExt base bx0 C0.w C.w → asuf G nt ops rest K st →
      wpAny G.P .any ops Q fuel L a C.w := by
  intro fuel
  have only : ∀ (done rest : List Nat) (L : Array Bool), suf = done ++ rest → L.size = ops.size → Closed ops L → (∀ i ∈ pre ++ done, L.getD i false = true) → (∀ i ∈ rest, L.getD i false = false) → ∀ j ∈ Region.ready .any ops L, ∃ tl, rest = j :: tl := by
    intro done rest L hsuf hs hc hin hout j hj
    obtain ⟨h0, ⟨o, ho⟩, hdir⟩ := ready_direct hj
    have hlt : j < ops.size := (Array.getElem?_eq_some_iff.1 ho).1
    have hjr : j ∈ rest := by
      have := F.all j hlt
      rw [hsuf, ← List.append_assoc] at this
      rcases List.mem_append.1 this with h | h
      · have h1 := hin j h
        rw [getD_tf (by omega)] at h0
        rw [h0] at h1
        cases h1
      · exact h
    cases rest with
    | nil => cases hjr
    | cons x tl =>
      by_cases hx : j = x
      · exact ⟨tl, by rw [hx]⟩
      · have hjt : j ∈ tl := by
          rcases List.mem_cons.1 hjr with h | h
          · exact (hx h).elim
          · exact h
        have h1 := closed_clos hc hdir (F.ss done x tl hsuf j hjt)
        rw [hout x (by simp)] at h1
        cases h1
  have endQ : ∀ (done rest : List Nat) (L : Array Bool) (C : Ctx) (st : St) (a : Act), suf = done ++ rest → L.size = ops.size → (∀ i ∈ rest, L.getD i false = false) → Rel G nt base bx0 C st a → Keeps C0 C → C.N0 = C0.N0 → WExt base bx0 C0.w C.w → asuf G nt ops rest K st →
      Region.ready .any ops L = [] → Q .normal a C.w := by
    intro done rest L C st a hsuf hs hout R K0 hN W h hr
    cases rest with
    | nil => exact hQ C st a h R K0 hN W
    | cons x tl =>
      have h1 := ready_nil F hs hr x (F.bound x (by rw [hsuf]; simp))
      rw [hout x (by simp)] at h1
      cases h1
  induction fuel with
  | zero =>
    intro done rest L C st a hsuf hlen hs hc hin hout R K0 hN W h
    have : rest = [] := by
      cases rest with
      | nil => rfl
      | cons => simp at hlen
    subst this
    have hr : Region.ready .any ops L = [] := by
      cases hr : Region.ready .any ops L with
      | nil => rfl
      | cons j js =>
        obtain ⟨tl, ht⟩ := only done [] L hsuf hs hc hin hout j (by rw [hr]; simp)
        cases ht
    exact ⟨hr, endQ done [] L C st a hsuf hs hout R K0 hN W h hr⟩
  | succ fuel ih =>
    intro done rest L C st a hsuf hlen hs hc hin hout R K0 hN W h
    refine ⟨endQ done rest L C st a hsuf hs hout R K0 hN W h, ?_⟩
    intro j hj
    obtain ⟨tl, rfl⟩ := only done rest L hsuf hs hc hin hout j hj
    obtain ⟨h0, ⟨o, ho⟩, hdir⟩ := ready_direct hj
    have hlt : j < ops.size := (Array.getElem?_eq_some_iff.1 ho).1
    simp only [asuf, ho] at h
    obtain ⟨hd, h⟩ := h
    have hnd : (j :: tl).Nodup := by
      have := F.nodup
      rw [hsuf] at this
      exact (List.nodup_append.1 (List.nodup_append.1 this).2.1).2.1
    have hjt : j ∉ tl := (List.nodup_cons.1 hnd).1
    refine wpOp_of V ho (K := asuf G nt ops tl K) R hd ?_ ?_
    · exact byGuard_cases h
    · intro D st' a' hK R' Kp hn W'
      refine ih (done ++ [j]) tl _ D st' a' (by rw [hsuf]; simp) (by simp at hlen; omega) (by simp [hs]) (closed_set hc hdir) ?_ ?_ R' (K0.trans Kp) (hn.trans hN) (W.trans W') hK
      · intro i hi
        rw [← List.append_assoc] at hi
        rcases List.mem_append.1 hi with hi | hi
        · exact getD_set_true (hin i hi)
        · simp only [List.mem_singleton] at hi
          subst hi
          exact set_self (by omega)
      · intro i hi
        have hne : j ≠ i := fun e => hjt (e ▸ hi)
        rw [getD_set_ne false hne]
        exact hout i (by simp [hi])

def ltF (L : Array Bool) : Nat → Bool := fun i => L.getD i false

theorem runs_congr {st : St} {o : Oper} {env : Nat → AV} (h : ∀ t ∈ o.looksAt ops, env t = st.env t) : runs ops ⟨env, st.mem⟩ o = runs ops st o := by
  unfold runs
  cases hg : o.guard with
  | none => rfl
  | some g =>
    obtain ⟨j, want⟩ := g
    simp only
    cases hd : (ops[j]?).bind (·.dst) with
    | none => rfl
    | some t =>
      simp only
      rw [h t (by simp [Oper.looksAt, hg, hd])]

theorem draw_soundS {G : Cfg} (V : G.Vers) (hm : G.P.follows .mixedOrders = true) : ∀ (nt base : Nat) (bx0 : List Nat) (id : Nat) (ops : Array Oper) (K : St → Prop) (C0 C : Ctx) (st : St) (a : Act), Rel G nt base bx0 C st a → Keeps C0 C → C.N0 = C0.N0 → WExt base bx0 C0.w C.w → adrawS G nt ops K st →
    (Code.region id ops true).wp G.P (Post G nt base bx0 C0 fun e st' => e = .normal ∧ K st') a C.w := by
  intro nt base bx0 id ops K C0 C st a R K0 hN W h
  obtain ⟨pre, suf, hok, h⟩ := h
  have F := fine_of hok
  have hpn : pre.Nodup := (List.nodup_append.1 F.nodup).1
  obtain ⟨xs, htold, hend⟩ := apre_told hpn h
  -- the first part
  have key : ∀ (fuel : Nat) (L : Array Bool) (C : Ctx) (a : Act), pre.countP (fun i => !L.getD i false) + suf.length ≤ fuel → L.size = ops.size → Closed ops L → (∀ i ∈ suf, L.getD i false = false) →
      Rel G nt base bx0 C ⟨after ops xs (ltF L) pre st.env, st.mem⟩ a → Keeps C0 C → C.N0 = C0.N0 → WExt base bx0 C0.w C.w →
      wpAny G.P .any ops (Post G nt base bx0 C0 fun e st' => e = .normal ∧ K st') fuel L a C.w := by
    have toSuf : ∀ (fuel : Nat) (L : Array Bool) (C : Ctx) (a : Act), suf.length ≤ fuel → L.size = ops.size → Closed ops L → (∀ i ∈ suf, L.getD i false = false) → (∀ i ∈ pre, L.getD i false = true) →
        Rel G nt base bx0 C ⟨after ops xs (ltF L) pre st.env, st.mem⟩ a → Keeps C0 C → C.N0 = C0.N0 → WExt base bx0 C0.w C.w →
        wpAny G.P .any ops (Post G nt base bx0 C0 fun e st' => e = .normal ∧ K st') fuel L a C.w := by
      intro fuel L C a hlen hs hc hout hin R K0 hN W
      have e : after ops xs (ltF L) pre st.env = after ops xs (fun _ => true) pre st.env := by
        funext t
        exact after_congr rfl fun i hi _ => hin i hi
      rw [e] at R
      exact suf_sound V F (fun D st' a' hK R' K' hN' W' => ⟨D, st', rfl, ⟨rfl, hK⟩, R', K', hN', W'⟩) fuel [] suf L C _ a rfl hlen hs hc (by simpa using hin) hout R K0 hN W hend
    intro fuel
    induction fuel with
    | zero =>
      intro L C a hlen hs hc hout R K0 hN W
      refine toSuf 0 L C a (by omega) hs hc hout ?_ R K0 hN W
      have : pre.countP (fun i => !L.getD i false) = 0 := by omega
      rw [List.countP_eq_zero] at this
      intro i hi
      simpa using this i hi
    | succ fuel ih =>
      intro L C a hlen hs hc hout R K0 hN W
      by_cases hall : ∀ i ∈ pre, L.getD i false = true
      · exact toSuf (fuel + 1) L C a (by omega) hs hc hout hall R K0 hN W
      refine ⟨fun hr => (hall fun i hi => ready_nil F hs hr i (F.bound i (by simp [hi]))).elim, ?_⟩
      intro j hj
      obtain ⟨h0, ⟨o, ho⟩, hdir⟩ := ready_direct hj
      have hlt : j < ops.size := (Array.getElem?_eq_some_iff.1 ho).1
      rw [getD_tf (by omega)] at h0
      have hjp : j ∈ pre := by
        rcases List.mem_append.1 (F.all j hlt) with h | h
        · exact h
        · exact (hall fun i hi => closed_clos hc hdir (F.sp j h i hi)).elim
      obtain ⟨l1, l2, hpre⟩ := List.append_of_mem hjp
      obtain ⟨hp1, hp2⟩ := F.pp l1 j l2 hpre
      have hn1 : j ∉ l1 := by
        rw [hpre] at hpn
        intro hc
        exact (List.nodup_append.1 hpn).2.2 j hc j (by simp) rfl
      have hn2 : j ∉ l2 := by
        rw [hpre] at hpn
        exact (List.nodup_cons.1 (List.nodup_append.1 hpn).2.1).1
      obtain ⟨o', ho', hd, hcase⟩ := htold l1 j l2 hpre
      rw [ho] at ho'
      cases ho'
      have hwj : writes ops j = o.dst := by simp [writes, ho]
      have hnm : names ops j = o.dst.toList ++ o.looksAt ops := by simp [names, ho]
      -- who writes what this one names
      have c1 : ∀ k ∈ l1, ∀ t ∈ names ops j, writes ops k = some t → L.getD k false = true := by
        intro k hk t ht hw
        exact closed_clos hc hdir (hp1 k hk (by simp [conflict, hw, ht]))
      have c2 : ∀ k ∈ l2, ∀ t ∈ names ops j, writes ops k = some t → L.getD k false = false := by
        intro k hk t ht hw
        cases hL : L.getD k false with
        | false => rfl
        | true =>
          have := closed_clos hc (hc k hL) (hp2 k hk (by simp [conflict, hw, ht]))
          rw [h0] at this
          cases this
      have hsame : ∀ t ∈ names ops j, after ops xs (ltF L) pre st.env t = after ops xs (fun _ => true) l1 st.env t := by
        intro t ht
        rw [hpre, after_append]
        simp only [after]
        rw [show ltF L j = false from h0]
        simp only [Bool.false_eq_true, if_false]
        rw [after_none (L := ltF L) fun k hk hw => c2 k hk t ht hw]
        exact after_congr rfl fun k hk hw => c1 k hk t ht hw
      have hops : ∀ y ∈ o.op.operands, St.ev ⟨after ops xs (ltF L) pre st.env, st.mem⟩ y = St.ev ⟨after ops xs (fun _ => true) l1 st.env, st.mem⟩ y := by
        intro y hy
        cases y <;> simp only [St.ev]
        rename_i t
        refine hsame t ?_
        rw [hnm]
        refine List.mem_append_right _ (List.mem_append_left _ (List.mem_filterMap.2 ⟨.tmp t, by simpa using hy, rfl⟩))
      have hput : St.put ⟨after ops xs (ltF L) pre st.env, st.mem⟩ o.dst (xs j) = ⟨after ops xs (ltF (L.setIfInBounds j true)) pre st.env, st.mem⟩ := by
        rw [put_upd]
        congr 1
        funext t
        by_cases hdt : o.dst = some t
        · have ht : t ∈ names ops j := by rw [hnm, hdt]; simp
          rw [hdt]
          simp only [upd, if_true]
          rw [hpre, after_append]
          simp only [after]
          rw [show ltF (L.setIfInBounds j true) j = true from set_self (by omega)]
          simp only [if_true]
          rw [after_none]
          · rw [hwj, hdt]; simp [upd]
          · intro k hk hw
            have hne : j ≠ k := fun e => hn2 (e ▸ hk)
            show (L.setIfInBounds j true).getD k false = false
            rw [getD_set_ne false hne]
            exact c2 k hk t ht hw
        · have e1 : upd (after ops xs (ltF L) pre st.env) o.dst (xs j) t = after ops xs (ltF L) pre st.env t := by
            cases hq : o.dst with
            | none => rfl
            | some d => simp only [upd]; rw [if_neg (fun e => hdt (by rw [hq, e]))]
          simp only
          rw [e1]
          refine after_congr rfl fun k hk hw => ?_
          have hne : j ≠ k := fun e => hdt (by rw [← hwj, e, hw])
          exact (getD_set_ne false hne).symm
      refine wpOp_of V ho (K := fun s => s = ⟨after ops xs (ltF (L.setIfInBounds j true)) pre st.env, st.mem⟩) R hd ?_ ?_
      · rcases hcase with ⟨hr, hy⟩ | ⟨hr, hx⟩
        · refine .inl ⟨?_, hy _ hops _ hput⟩
          rw [← hr]
          exact runs_congr (st := ⟨after ops xs (fun _ => true) l1 st.env, st.mem⟩) fun t ht => hsame t (by rw [hnm]; simp [ht])
        · refine .inr ⟨?_, by rw [← hx]; exact hput⟩
          rw [← hr]
          exact runs_congr (st := ⟨after ops xs (fun _ => true) l1 st.env, st.mem⟩) fun t ht => hsame t (by rw [hnm]; simp [ht])
      · rintro D st' a' rfl R' Kp hn W'
        refine ih _ D a' ?_ (by simp [hs]) (closed_set hc hdir) ?_ R' (K0.trans Kp) (hn.trans hN) (W.trans W')
        · have mono : ∀ l : List Nat, l.countP (fun i => !(L.setIfInBounds j true).getD i false) ≤ l.countP (fun i => !L.getD i false) := by
            intro l
            refine List.countP_mono_left fun i _ h => ?_
            cases hL : L.getD i false with
            | false => rfl
            | true => rw [getD_set_true hL] at h; cases h
          have h1 := mono l1
          have h2 := mono l2
          rw [hpre, List.countP_append, List.countP_cons] at hlen ⊢
          rw [h0] at hlen
          rw [set_self (by omega)]
          simp only [Bool.not_false, Bool.not_true, if_true, Bool.false_eq_true, if_false] at hlen ⊢
          omega
        · intro i hi
          have hne : j ≠ i := by
            intro e
            have := (List.nodup_append.1 F.nodup).2.2 j hjp i hi
            exact this e
          rw [getD_set_ne false hne]
          exact hout i hi
  -- the draw
  refine wp_region_any hm ?_
  obtain ⟨C', hw, hn, Kp, M, W', hR⟩ := Nxt.still (R := fun D => ∀ t, RV D (st.env t) (a.tmps.getD t undef)) R.mem { C.w with drawn := C.w.drawn + 1 } rfl rfl rfl rfl (fun D hK _ _ _ _ _ t => (R.env t).keep hK)
  have e : after ops xs (ltF (Array.replicate ops.size false)) pre st.env = st.env := by
    funext t
    refine after_none fun i _ _ => ?_
    simp only [ltF]
    by_cases hlt : i < ops.size
    · simp [hlt]
    · simp [hlt]
  have := key ops.size (Array.replicate ops.size false) C' a ?_ (by simp) ?_ ?_ ⟨M, by rw [e]; exact hR, R.size, R.defers⟩ (K0.trans Kp) (hn.trans hN) (hw ▸ W.trans W')
  · rw [hw] at this
    exact this
  · have h1 : (pre ++ suf).length ≤ ops.size := by
      have := List.Nodup.length_le_of_subset F.nodup (l₂ := List.range ops.size) fun i hi => List.mem_range.2 (F.bound i hi)
      simpa using this
    have h2 := List.countP_le_length (p := fun i => !(Array.replicate ops.size false).getD i false) (l := pre)
    simp only [List.length_append] at h1
    omega
  · intro k hk
    exfalso
    by_cases hlt : k < ops.size
    · simp [hlt] at hk
    · simp [hlt] at hk
  · intro i hi
    by_cases hlt : i < ops.size
    · simp [hlt]
    · simp [hlt]

theorem allocAt_spec {ops : Array Oper} {a : Nat} {d : Tmp} {t : TypeId} (h : allocAt ops a = some (d, t)) : ∃ o, ops[a]? = some o ∧ o.dst = some d ∧ o.op = .alloc t ∧ o.guard = none := by
  unfold allocAt at h
  split at h
  · rename_i d' t' ty pos aft ho
    cases h
    exact ⟨_, ho, rfl, rfl, rfl⟩
  · cases h

theorem aop_alloc_eq {G : Cfg} {o : Oper} {t : TypeId} (ho : o.op = .alloc t) (hz : G.zerOK t = true) {zs : List AV} (hzs : G.zer t = some zs) {K : St → Prop} {st : St} : aop G o K st = K (St.put ⟨st.env, ⟨st.mem.boxes ++ [zs], st.mem.arrs⟩⟩ o.dst (.box st.mem.boxes.length 0)) := by
  obtain ⟨dst, op, ty, pos, aft, gd⟩ := o
  simp only at ho
  subst ho
  simp only [aop, aval, hz, hzs, if_true, Option.map_some]

/-- Told at both memories. -/
def ToldF (G : Cfg) (nt : Nat) (ops : Array Oper) (zs : List AV) (m : Mem) (i : Nat) (e : Nat → AV) (x : AV) : Prop :=
  ∃ o, ops[i]? = some o ∧ o.guard = none ∧ dstOK nt o.dst = true ∧ ∀ mm, (mm = m ∨ mm = ⟨m.boxes ++ [zs], m.arrs⟩) → ∀ env, (∀ y ∈ o.op.operands, St.ev ⟨env, mm⟩ y = St.ev ⟨e, m⟩ y) → ∀ K' : St → Prop, K' (St.put ⟨env, mm⟩ o.dst x) → aop G o K' ⟨env, mm⟩

theorem lend_more (m : Mem) (zs : List AV) (a : AV) : lend ⟨m.boxes ++ [zs], m.arrs⟩ a = lend m a := by
  cases a <;> rfl

theorem cells_more {m : Mem} {zs : List AV} {p : AV} {cs : List AV} (h : m.cellsAt p = some cs) : Mem.cellsAt ⟨m.boxes ++ [zs], m.arrs⟩ p = some cs := by
  cases p with
  | box k off =>
    simp only [Mem.cellsAt] at h ⊢
    obtain ⟨b, hb, he⟩ := Option.map_eq_some_iff.1 h
    rw [List.getElem?_append_left (List.getElem?_eq_some_iff.1 hb).1, hb]
    exact congrArg some he
  | _ => exact h

theorem aopF_told {G : Cfg} {o : Oper} {st : St} {K : St → Prop} (zs : List AV) (h : aopF G o K st) : ∃ x, K (st.put o.dst x) ∧ ∀ mm, (mm = st.mem ∨ mm = ⟨st.mem.boxes ++ [zs], st.mem.arrs⟩) → ∀ env, (∀ y ∈ o.op.operands, St.ev ⟨env, mm⟩ y = st.ev y) → ∀ K' : St → Prop, K' (St.put ⟨env, mm⟩ o.dst x) → aop G o K' ⟨env, mm⟩ := by
  obtain ⟨dst, op, ty, pos, aft, gd⟩ := o
  cases op with
  | move x =>
    refine ⟨st.ev x, h, ?_⟩
    intro mm _ env he K' hK
    have hx := he x (by simp [Op.operands])
    simp only [aop, aval]
    rw [hx]
    exact hK
  | load t p =>
    simp only [aopF] at h
    split at h
    · rename_i x hx
      refine ⟨x, h, ?_⟩
      intro mm hmm env he K' hK
      have hp := he p (by simp [Op.operands])
      obtain ⟨cs, hc, hl⟩ := Option.bind_eq_some_iff.1 hx
      have hc2 : mm.cellsAt (st.ev p) = some cs := by
        rcases hmm with rfl | rfl
        · exact hc
        · exact cells_more hc
      simp only [aop, aval]
      rw [hp, hc2]
      simp only [Option.bind_some, hl, Option.map_some]
      exact hK
    · exact h.elim
  | call c =>
    obtain ⟨callee, args, tys⟩ := c
    cases callee with
    | value y =>
      cases y with
      | func f =>
        obtain ⟨r, hp, hf, hK0⟩ := h
        refine ⟨r, hK0, ?_⟩
        intro mm hmm env he K' hK
        have ha : args.toList.map (St.ev ⟨env, mm⟩) = args.toList.map st.ev := List.map_congr_left fun p hm => he p (by simp [Op.operands, Call.operands, Array.mem_toList_iff.1 hm])
        have hl : ∀ a, lend mm a = lend st.mem a := by
          rcases hmm with rfl | rfl
          · exact fun _ => rfl
          · exact lend_more st.mem zs
        have hl2 : (args.toList.map st.ev).map (lend mm) = (args.toList.map st.ev).map (lend st.mem) := List.map_congr_left fun a _ => hl a
        simp only [aop, St.ev, List.nil_append, List.append_nil]
        refine ⟨r, mm, ?_, hK⟩
        have e : (args.toList.map fun x => St.ev ⟨env, mm⟩ x) = args.toList.map st.ev := ha
        refine CallStep.pure r ?_ ?_
        · show Pure G.P f ((args.toList.map (St.ev ⟨env, mm⟩)).map (lend mm)) r
          rw [ha, hl2]
          exact hp
        · intro a hm
          have hm' : a ∈ args.toList.map (St.ev ⟨env, mm⟩) := hm
          rw [ha] at hm'
          show (lend mm a).Free _
          rw [hl]
          exact hf a hm'
      | _ => exact h.elim
    | _ => exact h.elim
  | _ => exact h.elim

theorem apreF_told {G : Cfg} {nt : Nat} {ops : Array Oper} {K : St → Prop} (zs : List AV) : ∀ {l : List Nat} {st : St}, l.Nodup → apreF G nt ops l K st → ∃ xs : Nat → AV,
    (∀ l1 i l2, l = l1 ++ i :: l2 → ToldF G nt ops zs st.mem i (after ops xs (fun _ => true) l1 st.env) (xs i)) ∧ K ⟨after ops xs (fun _ => true) l st.env, st.mem⟩
  | [], st, _, h => ⟨fun _ => .dead, fun l1 i l2 e => by simp at e, h⟩
  | i :: l, st, hn, h => by
    obtain ⟨hni, hn⟩ := List.nodup_cons.1 hn
    simp only [apreF] at h
    split at h
    · exact h.elim
    rename_i o ho
    obtain ⟨hg, hd, h⟩ := h
    have hwr : writes ops i = o.dst := by simp [writes, ho]
    obtain ⟨x, hK, hy⟩ := aopF_told zs h
    rw [put_upd] at hK
    obtain ⟨xs, h1, h2⟩ := apreF_told zs hn hK
    refine ⟨fun k => if k = i then x else xs k, ?_, ?_⟩
    · intro l1 k l2 e
      cases l1 with
      | nil =>
        simp only [List.nil_append, List.cons.injEq] at e
        obtain ⟨rfl, rfl⟩ := e
        simp only [after, if_pos]
        exact ⟨o, ho, hg, hd, hy⟩
      | cons b l1 =>
        simp only [List.cons_append, List.cons.injEq] at e
        obtain ⟨rfl, rfl⟩ := e
        have hk : k ≠ i := fun e => hni (by rw [← e]; simp)
        have := h1 l1 k l2 rfl
        simp only [after, if_neg hk, hwr, if_pos]
        rw [after_xs (ys := xs) (fun j hj => if_neg (fun e => hni (by rw [← e]; simp [hj])))]
        exact this
    · simp only [after, hwr, if_pos]
      rw [after_xs (ys := xs) (fun j hj => if_neg (fun e => hni (by rw [← e]; exact hj)))]
      exact h2

theorem draw_soundF {G : Cfg} (V : G.Vers) (hm : G.P.follows .mixedOrders = true) : ∀ (nt base : Nat) (bx0 : List Nat) (id : Nat) (ops : Array Oper) (K : St → Prop) (C0 C : Ctx) (st : St) (a : Act), Rel G nt base bx0 C st a → Keeps C0 C → C.N0 = C0.N0 → WExt base bx0 C0.w C.w → adrawF G nt ops K st →
    (Code.region id ops true).wp G.P (Post G nt base bx0 C0 fun e st' => e = .normal ∧ K st') a C.w := by
  intro nt base bx0 id ops K C0 C st a R K0 hN W h
  obtain ⟨b, pre0, suf, d, t0, zs, hok, hal, hdn, hzo, hzs, h⟩ := h
  simp only [drawF, Bool.and_eq_true, List.all_eq_true] at hok
  obtain ⟨hok, hcf⟩ := hok
  obtain ⟨pre, hpre0⟩ : ∃ pre, pre = b :: pre0 := ⟨_, rfl⟩
  rw [← hpre0] at hok
  have F := fine_of hok
  have hpn : pre.Nodup := (List.nodup_append.1 F.nodup).1
  have hpn0 : pre0.Nodup := by rw [hpre0] at hpn; exact (List.nodup_cons.1 hpn).2
  have hbn : b ∉ pre0 := by rw [hpre0] at hpn; exact (List.nodup_cons.1 hpn).1
  obtain ⟨xs0, htold, hend⟩ := apreF_told zs hpn0 h
  obtain ⟨xs, hxs⟩ : ∃ xs : Nat → AV, xs = fun k => if k = b then .box st.mem.boxes.length 0 else xs0 k := ⟨_, rfl⟩
  obtain ⟨ob, hob, hobd, hobop, hobg⟩ := allocAt_spec hal
  have hwb : writes ops b = some d := by simp [writes, hob, hobd]
  let M : Bool → Mem := fun q => bif q then ⟨st.mem.boxes ++ [zs], st.mem.arrs⟩ else st.mem
  have hxs0 : ∀ l : List Nat, b ∉ l → ∀ (L : Nat → Bool) (e : Nat → AV), after ops xs L l e = after ops xs0 L l e := fun l hl L e => after_xs fun k hk => by
    have hkb : k ≠ b := fun h => hl (by rw [← h]; exact hk)
    rw [hxs]
    exact if_neg hkb
  -- the first part
  have key : ∀ (fuel : Nat) (L : Array Bool) (C : Ctx) (a : Act), pre.countP (fun i => !L.getD i false) + suf.length ≤ fuel → L.size = ops.size → Closed ops L → (∀ i ∈ suf, L.getD i false = false) →
      Rel G nt base bx0 C ⟨after ops xs (ltF L) pre st.env, M (ltF L b)⟩ a → Keeps C0 C → C.N0 = C0.N0 → WExt base bx0 C0.w C.w →
      wpAny G.P .any ops (Post G nt base bx0 C0 fun e st' => e = .normal ∧ K st') fuel L a C.w := by
    have toSuf : ∀ (fuel : Nat) (L : Array Bool) (C : Ctx) (a : Act), suf.length ≤ fuel → L.size = ops.size → Closed ops L → (∀ i ∈ suf, L.getD i false = false) → (∀ i ∈ pre, L.getD i false = true) →
        Rel G nt base bx0 C ⟨after ops xs (ltF L) pre st.env, M (ltF L b)⟩ a → Keeps C0 C → C.N0 = C0.N0 → WExt base bx0 C0.w C.w →
        wpAny G.P .any ops (Post G nt base bx0 C0 fun e st' => e = .normal ∧ K st') fuel L a C.w := by
      intro fuel L C a hlen hs hc hout hin R K0 hN W
      have e : after ops xs (ltF L) pre st.env = after ops xs (fun _ => true) pre st.env := by
        funext t
        exact after_congr rfl fun i hi _ => hin i hi
      have hb1 : ltF L b = true := hin b (by rw [hpre0]; simp)
      rw [e, hb1] at R
      have hend' : asuf G nt ops suf K ⟨after ops xs (fun _ => true) pre st.env, M true⟩ := by
        have e2 : after ops xs (fun _ => true) pre st.env = fun u => if u = d then .box st.mem.boxes.length 0 else after ops xs0 (fun _ => true) pre0 st.env u := by
          funext u
          rw [hpre0]
          simp only [after, if_true]
          rw [hxs0 pre0 hbn]
          by_cases hu : u = d
          · subst hu
            rw [if_pos rfl, after_none fun i hi hw => by
              have h1 := hcf i hi
              simp [conflict, hwb, names, hob, hobd, hw] at h1]
            simp [upd, hwb, hxs]
          · rw [if_neg hu]
            refine after_congr ?_ fun _ _ _ => rfl
            simp [upd, hwb, hu]
        rw [e2]
        exact hend
      exact suf_sound V F (fun D st' a' hK R' K' hN' W' => ⟨D, st', rfl, ⟨rfl, hK⟩, R', K', hN', W'⟩) fuel [] suf L C _ a rfl hlen hs hc (by simpa using hin) hout R K0 hN W hend'
    intro fuel
    induction fuel with
    | zero =>
      intro L C a hlen hs hc hout R K0 hN W
      refine toSuf 0 L C a (by omega) hs hc hout ?_ R K0 hN W
      have : pre.countP (fun i => !L.getD i false) = 0 := by omega
      rw [List.countP_eq_zero] at this
      intro i hi
      simpa using this i hi
    | succ fuel ih =>
      intro L C a hlen hs hc hout R K0 hN W
      by_cases hall : ∀ i ∈ pre, L.getD i false = true
      · exact toSuf (fuel + 1) L C a (by omega) hs hc hout hall R K0 hN W
      refine ⟨fun hr => (hall fun i hi => ready_nil F hs hr i (F.bound i (by simp [hi]))).elim, ?_⟩
      intro j hj
      obtain ⟨h0, ⟨o, ho⟩, hdir⟩ := ready_direct hj
      have hlt : j < ops.size := (Array.getElem?_eq_some_iff.1 ho).1
      rw [getD_tf (by omega)] at h0
      have hjp : j ∈ pre := by
        rcases List.mem_append.1 (F.all j hlt) with h | h
        · exact h
        · exact (hall fun i hi => closed_clos hc hdir (F.sp j h i hi)).elim
      have hwj : ∀ o, ops[j]? = some o → writes ops j = o.dst := fun o ho => by simp [writes, ho]
      have hnm : ∀ o, ops[j]? = some o → names ops j = o.dst.toList ++ o.looksAt ops := fun o ho => by simp [names, ho]
      obtain ⟨l1, l2, hpre⟩ := List.append_of_mem hjp
      obtain ⟨hp1, hp2⟩ := F.pp l1 j l2 hpre
      have hn1 : j ∉ l1 := by
        rw [hpre] at hpn
        intro hc
        exact (List.nodup_append.1 hpn).2.2 j hc j (by simp) rfl
      have hn2 : j ∉ l2 := by
        rw [hpre] at hpn
        exact (List.nodup_cons.1 (List.nodup_append.1 hpn).2.1).1
      -- who writes what this one names
      have c1 : ∀ k ∈ l1, ∀ t ∈ names ops j, writes ops k = some t → L.getD k false = true := by
        intro k hk t ht hw
        exact closed_clos hc hdir (hp1 k hk (by simp [conflict, hw, ht]))
      have c2 : ∀ k ∈ l2, ∀ t ∈ names ops j, writes ops k = some t → L.getD k false = false := by
        intro k hk t ht hw
        cases hL : L.getD k false with
        | false => rfl
        | true =>
          have := closed_clos hc (hc k hL) (hp2 k hk (by simp [conflict, hw, ht]))
          rw [h0] at this
          cases this
      have hsame : ∀ t ∈ names ops j, after ops xs (ltF L) pre st.env t = after ops xs (fun _ => true) l1 st.env t := by
        intro t ht
        rw [hpre, after_append]
        simp only [after]
        rw [show ltF L j = false from h0]
        simp only [Bool.false_eq_true, if_false]
        rw [after_none (L := ltF L) fun k hk hw => c2 k hk t ht hw]
        exact after_congr rfl fun k hk hw => c1 k hk t ht hw
      have hput : ∀ mm, St.put ⟨after ops xs (ltF L) pre st.env, mm⟩ o.dst (xs j) = ⟨after ops xs (ltF (L.setIfInBounds j true)) pre st.env, mm⟩ := by
        intro mm
        rw [put_upd]
        congr 1
        funext t
        by_cases hdt : o.dst = some t
        · have ht : t ∈ names ops j := by rw [hnm o ho, hdt]; simp
          rw [hdt]
          simp only [upd, if_true]
          rw [hpre, after_append]
          simp only [after]
          rw [show ltF (L.setIfInBounds j true) j = true from set_self (by omega)]
          simp only [if_true]
          rw [after_none]
          · rw [hwj o ho, hdt]; simp [upd]
          · intro k hk hw
            have hne : j ≠ k := fun e => hn2 (e ▸ hk)
            show (L.setIfInBounds j true).getD k false = false
            rw [getD_set_ne false hne]
            exact c2 k hk t ht hw
        · have e1 : upd (after ops xs (ltF L) pre st.env) o.dst (xs j) t = after ops xs (ltF L) pre st.env t := by
            cases hq : o.dst with
            | none => rfl
            | some d => simp only [upd]; rw [if_neg (fun e => hdt (by rw [hq, e]))]
          simp only
          rw [e1]
          refine after_congr rfl fun k hk hw => ?_
          have hne : j ≠ k := fun e => hdt (by rw [← hwj o ho, e, hw])
          exact (getD_set_ne false hne).symm
      have hstep : dstOK nt o.dst = true ∧ runs ops ⟨after ops xs (ltF L) pre st.env, M (ltF L b)⟩ o = some true ∧ aop G o (fun s => s = ⟨after ops xs (ltF (L.setIfInBounds j true)) pre st.env, M (ltF (L.setIfInBounds j true) b)⟩) ⟨after ops xs (ltF L) pre st.env, M (ltF L b)⟩ := by
        by_cases hjb : j = b
        · subst hjb
          rw [ho] at hob
          cases hob
          have hL0 : ltF L j = false := h0
          have hL1 : ltF (L.setIfInBounds j true) j = true := set_self (by omega)
          refine ⟨by rw [hobd]; simpa [dstOK] using hdn, by simp [runs, hobg], ?_⟩
          rw [hL0, hL1, aop_alloc_eq hobop hzo hzs]
          rw [← hput]
          simp [M, hxs]
        · have hj0 : j ∈ pre0 := by
            rw [hpre0] at hjp
            rcases List.mem_cons.1 hjp with h | h
            · exact (hjb h).elim
            · exact h
          have hLb : ltF (L.setIfInBounds j true) b = ltF L b := getD_set_ne false (fun e => hjb e)
          rw [hLb]
          obtain ⟨m1, hm1⟩ : ∃ m1, l1 = b :: m1 := by
            rw [hpre0] at hpre
            cases l1 with
            | nil => simp only [List.nil_append, List.cons.injEq] at hpre; exact (hjb hpre.1.symm).elim
            | cons x m1 => simp only [List.cons_append, List.cons.injEq] at hpre; exact ⟨m1, by rw [hpre.1]⟩
          have hpm : pre0 = m1 ++ j :: l2 := by
            rw [hpre0, hm1] at hpre
            simpa using hpre
          obtain ⟨o', ho', hg, hd, hy⟩ := htold m1 j l2 hpm
          rw [ho] at ho'
          cases ho'
          refine ⟨hd, by simp [runs, hg], ?_⟩
          have hxj : xs j = xs0 j := by rw [hxs]; exact if_neg hjb
          refine hy (M (ltF L b)) ?_ _ ?_ _ (by rw [← hxj]; exact hput _)
          · cases ltF L b
            · exact .inl rfl
            · exact .inr rfl
          · intro y hyo
            cases y <;> simp only [St.ev]
            rename_i t
            have ht : t ∈ names ops j := by
              rw [hnm o ho]
              exact List.mem_append_right _ (List.mem_append_left _ (List.mem_filterMap.2 ⟨.tmp t, by simpa using hyo, rfl⟩))
            rw [hsame t ht, hm1]
            simp only [after, if_true]
            have hbm : b ∉ m1 := fun h => hbn (by rw [hpm]; simp [h])
            rw [hxs0 m1 hbm]
            refine after_congr ?_ fun _ _ _ => rfl
            have hne : t ≠ d := by
              rintro rfl
              have h1 := hcf j hj0
              simp [conflict, hwb, ht] at h1
            simp [upd, hwb, hne]
      obtain ⟨hd, hrun, hst⟩ := hstep
      refine wpOp_of V ho (K := fun s => s = ⟨after ops xs (ltF (L.setIfInBounds j true)) pre st.env, M (ltF (L.setIfInBounds j true) b)⟩) R hd (.inl ⟨hrun, hst⟩) ?_
      · rintro D st' a' rfl R' Kp hn W'
        refine ih _ D a' ?_ (by simp [hs]) (closed_set hc hdir) ?_ R' (K0.trans Kp) (hn.trans hN) (W.trans W')
        · have mono : ∀ l : List Nat, l.countP (fun i => !(L.setIfInBounds j true).getD i false) ≤ l.countP (fun i => !L.getD i false) := by
            intro l
            refine List.countP_mono_left fun i _ h => ?_
            cases hL : L.getD i false with
            | false => rfl
            | true => rw [getD_set_true hL] at h; cases h
          have h1 := mono l1
          have h2 := mono l2
          rw [hpre, List.countP_append, List.countP_cons] at hlen ⊢
          rw [h0] at hlen
          rw [set_self (by omega)]
          simp only [Bool.not_false, Bool.not_true, if_true, Bool.false_eq_true, if_false] at hlen ⊢
          omega
        · intro i hi
          have hne : j ≠ i := by
            intro e
            have := (List.nodup_append.1 F.nodup).2.2 j hjp i hi
            exact this e
          rw [getD_set_ne false hne]
          exact hout i hi
  -- the draw
  refine wp_region_any hm ?_
  obtain ⟨C', hw, hn, Kp, Mm, W', hR⟩ := Nxt.still (R := fun D => ∀ t, RV D (st.env t) (a.tmps.getD t undef)) R.mem { C.w with drawn := C.w.drawn + 1 } rfl rfl rfl rfl (fun D hK _ _ _ _ _ t => (R.env t).keep hK)
  have e : after ops xs (ltF (Array.replicate ops.size false)) pre st.env = st.env := by
    funext t
    refine after_none fun i _ _ => ?_
    simp only [ltF]
    by_cases hlt : i < ops.size
    · simp [hlt]
    · simp [hlt]
  have e0 : M (ltF (Array.replicate ops.size false) b) = st.mem := by
    have : ltF (Array.replicate ops.size false) b = false := by
      simp only [ltF]
      by_cases hlt : b < ops.size
      · simp [hlt]
      · simp [hlt]
    rw [this]
    rfl
  have := key ops.size (Array.replicate ops.size false) C' a ?_ (by simp) ?_ ?_ ⟨by rw [e0]; exact Mm, by rw [e]; exact hR, R.size, R.defers⟩ (K0.trans Kp) (hn.trans hN) (hw ▸ W.trans W')
  · rw [hw] at this
    exact this
  · have h1 : (pre ++ suf).length ≤ ops.size := by
      have := List.Nodup.length_le_of_subset F.nodup (l₂ := List.range ops.size) fun i hi => List.mem_range.2 (F.bound i hi)
      simpa using this
    have h2 := List.countP_le_length (p := fun i => !(Array.replicate ops.size false).getD i false) (l := pre)
    simp only [List.length_append] at h1
    omega
  · intro k hk
    exfalso
    by_cases hlt : k < ops.size
    · simp [hlt] at hk
    · simp [hlt] at hk
  · intro i hi
    by_cases hlt : i < ops.size
    · simp [hlt]
    · simp [hlt]

theorem draw_sound {G : Cfg} (V : G.Vers) (hm : G.P.follows .mixedOrders = true) : DrawSound G := by
  intro nt base bx0 id ops K C0 C st a R K0 hN W h
  rcases h with h | h
  · exact draw_soundS V hm nt base bx0 id ops K C0 C st a R K0 hN W h
  · exact draw_soundF V hm nt base bx0 id ops K C0 C st a R K0 hN W h

end Go.Proofs.Ytbmfoijakgccgaa.Am
