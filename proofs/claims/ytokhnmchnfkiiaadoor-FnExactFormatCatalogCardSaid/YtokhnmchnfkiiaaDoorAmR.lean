/- The abstract machine: a region that draws its order is sound. No conditions. -/
import Derived.Test.YtokhnmchnfkiiaaDoorAmP
namespace Go.Proofs.YtokhnmchnfkiiaaDoor.Am
open Go Go.RowKit
set_option linter.unusedSimpArgs false
set_option linter.unusedVariables false

variable {ops : Array Oper} {pre suf : List Nat}

structure Fine (ops : Array Oper) (pre suf : List Nat) : Prop where
  nodup : (pre ++ suf).Nodup
  all : ∀ i, i < ops.size → i ∈ pre ++ suf
  back : ∀ i, i < ops.size → ∀ k ∈ direct ops i, k < i
  bound : ∀ i ∈ pre ++ suf, i < ops.size
  pp : ∀ l1 i l2, pre = l1 ++ i :: l2 → (∀ k ∈ l1, conflict ops k i = true → k ∈ (clos ops ops.size).getD i []) ∧ (∀ k ∈ l2, conflict ops i k = true → i ∈ (clos ops ops.size).getD k [])
  sp : ∀ j ∈ suf, ∀ i ∈ pre, i ∈ (clos ops ops.size).getD j []
  ss : ∀ l1 i l2, suf = l1 ++ i :: l2 → ∀ k ∈ l2, i ∈ (clos ops ops.size).getD k []

theorem fine_of (h : drawOK ops pre suf = true) : Fine ops pre suf := by
  simp only [drawOK, Bool.and_eq_true] at h
  obtain ⟨⟨⟨⟨⟨h1, h2⟩, h3⟩, h4⟩, h5⟩, h6⟩ := h
  rw [List.all_eq_true] at h2 h3 h5
  refine ⟨nodupB_iff h1, ?_, ?_, ?_, ?_, ?_, ?_⟩
  · intro i hi
    have := h2 i (List.mem_range.2 hi)
    simp only [Bool.and_eq_true, List.contains_eq_mem, decide_eq_true_eq] at this
    exact this.1
  · intro i hi k hk
    have := h2 i (List.mem_range.2 hi)
    simp only [Bool.and_eq_true, List.contains_eq_mem, List.all_eq_true, decide_eq_true_eq] at this
    exact this.2 k hk
  · intro i hi
    simpa using h3 i hi
  · intro l1 i l2 e
    obtain ⟨a, b⟩ := pairsB_split h4 l1 i l2 e
    refine ⟨fun k hk hc => ?_, fun k hk hc => ?_⟩
    · simpa [hc] using a k hk
    · simpa [hc] using b k hk
  · intro j hj i hi
    have := h5 j hj
    rw [List.all_eq_true] at this
    simpa using this i hi
  · intro l1 i l2 e k hk
    obtain ⟨_, b⟩ := pairsB_split h6 l1 i l2 e
    simpa using b k hk

/-- What is listed is closed: whatever has to be before it is listed. -/
def Closed (ops : Array Oper) (L : Array Bool) : Prop := ∀ k, L.getD k false = true → ∀ i ∈ direct ops k, L.getD i false = true

theorem ready_direct {L : Array Bool} {j : Nat} (h : j ∈ Region.ready .any ops L) : L.getD j true = false ∧ (∃ o, ops[j]? = some o) ∧ ∀ i ∈ direct ops j, L.getD i false = true := by
  obtain ⟨h0, o, ho, hall⟩ := mem_ready.1 h
  refine ⟨h0, ⟨o, ho⟩, ?_⟩
  intro i hi
  simp only [direct, ho, List.mem_map, List.mem_filter] at hi
  obtain ⟨e, ⟨he, hb⟩, rfl⟩ := hi
  exact hall e (Array.mem_toList_iff.1 he) hb

theorem direct_ready {L : Array Bool} {j : Nat} {o : Oper} (ho : ops[j]? = some o) (h0 : L.getD j true = false) (h : ∀ i ∈ direct ops j, L.getD i false = true) : j ∈ Region.ready .any ops L := by
  refine mem_ready.2 ⟨h0, o, ho, fun e he hb => h _ ?_⟩
  simp only [direct, ho, List.mem_map, List.mem_filter]
  exact ⟨e, ⟨Array.mem_toList_iff.2 he, hb⟩, rfl⟩

theorem getD_tf {L : Array Bool} {j : Nat} (h : j < L.size) : L.getD j true = L.getD j false := by
  simp [h]

theorem ready_nil {L : Array Bool} (F : Fine ops pre suf) (hs : L.size = ops.size) (h : Region.ready .any ops L = []) : ∀ i, i < ops.size → L.getD i false = true := by
  intro i
  induction i using Nat.strongRecOn with
  | _ i ih =>
    intro hi
    cases hL : L.getD i false with
    | true => rfl
    | false =>
      have : i ∈ Region.ready .any ops L := direct_ready (Array.getElem?_eq_getElem hi) (by rw [getD_tf (by omega)]; exact hL) fun k hk => ih k (F.back i hi k hk) (Nat.lt_trans (F.back i hi k hk) hi)
      rw [h] at this
      cases this

theorem closed_clos {L : Array Bool} (hc : Closed ops L) {j : Nat} (hj : ∀ i ∈ direct ops j, L.getD i false = true) {x : Nat} (hx : x ∈ (clos ops ops.size).getD j []) : L.getD x false = true :=
  clos_spec ops (L := fun k => L.getD k false = true) hc _ j hj x hx

theorem closed_set {L : Array Bool} (hc : Closed ops L) {j : Nat} (hj : ∀ i ∈ direct ops j, L.getD i false = true) : Closed ops (L.setIfInBounds j true) := by
  intro k hk i hi
  by_cases hkj : k = j
  · subst hkj
    exact getD_set_true (hj i hi)
  · rw [getD_set_ne false (Ne.symm hkj)] at hk
    exact getD_set_true (hc k hk i hi)

theorem set_self {L : Array Bool} {j : Nat} (h : j < L.size) : (L.setIfInBounds j true).getD j false = true := by
  simp [h]

theorem wpOp_of {G : Cfg} (V : G.Vers) {nt base : Nat} {bx0 : List Nat} {C : Ctx} {st : St} {a : Act} {i : Nat} {o : Oper} (ho : ops[i]? = some o) {K : St → Prop} (R : Rel G nt base bx0 C st a) (hd : dstOK nt o.dst = true)
    {ic : Bool} (h : (runs ops st o = some true ∧ aop G ic o K st) ∨ (runs ops st o = some false ∧ K (st.put o.dst (.v undef))))
    {next : Act → World → Prop} {Q : Exit → Act → World → Prop}
    (hnext : ∀ (D : Ctx) (st' : St) (a' : Act), K st' → Rel G nt base bx0 D st' a' → Keeps C D → D.N0 = C.N0 → WExt base bx0 C.w D.w → next a' D.w) : wpOp G.P ops Q i next a C.w := by
  unfold wpOp
  rw [ho]
  simp only
  rcases h with ⟨hr, h⟩ | ⟨hr, h⟩
  · rw [runs_wanted R hr]
    simp only [if_true]
    exact .inl (aop_sound V R hd h hnext)
  · rw [runs_wanted R hr]
    simp only [Bool.false_eq_true, if_false]
    exact hnext C _ _ h (R.put (Keeps.refl C) R.mem hd (.v undef)) (Keeps.refl C) rfl (WExt.refl _ _ _)

/-- The second part: one behind the other. -/
theorem suf_sound {G : Cfg} (V : G.Vers) {nt base : Nat} {bx0 : List Nat} (F : Fine ops pre suf) {K : St → Prop} {C0 : Ctx} {Q : Exit → Act → World → Prop}
    (hQ : ∀ (D : Ctx) (st' : St) (a' : Act), K st' → Rel G nt base bx0 D st' a' → Keeps C0 D → D.N0 = C0.N0 → WExt base bx0 C0.w D.w → Q .normal a' D.w) :
    ∀ (fuel : Nat) (done rest : List Nat) (L : Array Bool) (C : Ctx) (st : St) (a : Act), suf = done ++ rest → rest.length ≤ fuel → L.size = ops.size → Closed ops L →
      (∀ i ∈ pre ++ done, L.getD i false = true) → (∀ i ∈ rest, L.getD i false = false) → Rel G nt base bx0 C st a → Keeps C0 C → C.N0 = C0.N0 → WExt base bx0 C0.w C.w → asuf G nt ops rest K st →
      wpAny G.P .any ops Q fuel L a C.w := by
  intro fuel
  have only : ∀ (done rest : List Nat) (L : Array Bool), suf = done ++ rest → L.size = ops.size → Closed ops L → (∀ i ∈ pre ++ done, L.getD i false = true) → (∀ i ∈ rest, L.getD i false = false) → ∀ j ∈ Region.ready .any ops L, ∃ tl, rest = j :: tl := by
    intro done rest L hsuf hs hc hin hout j hj
    obtain ⟨h0, ⟨o, ho⟩, hdir⟩ := ready_direct hj
    have hlt : j < ops.size := (Array.getElem?_eq_some_iff.1 ho).1
    have hjr : j ∈ rest := by
      have := F.all j hlt
      rw [hsuf, ← List.append_assoc] at this
      rcases List.mem_append.1 this with h | h
      · have h1 := hin j h
        rw [getD_tf (by omega)] at h0
        rw [h0] at h1
        cases h1
      · exact h
    cases rest with
    | nil => cases hjr
    | cons x tl =>
      by_cases hx : j = x
      · exact ⟨tl, by rw [hx]⟩
      · have hjt : j ∈ tl := by
          rcases List.mem_cons.1 hjr with h | h
          · exact (hx h).elim
          · exact h
        have h1 := closed_clos hc hdir (F.ss done x tl hsuf j hjt)
        rw [hout x (by simp)] at h1
        cases h1
  have endQ : ∀ (done rest : List Nat) (L : Array Bool) (C : Ctx) (st : St) (a : Act), suf = done ++ rest → L.size = ops.size → (∀ i ∈ rest, L.getD i false = false) → Rel G nt base bx0 C st a → Keeps C0 C → C.N0 = C0.N0 → WExt base bx0 C0.w C.w → asuf G nt ops rest K st →
      Region.ready .any ops L = [] → Q .normal a C.w := by
    intro done rest L C st a hsuf hs hout R K0 hN W h hr
    cases rest with
    | nil => exact hQ C st a h R K0 hN W
    | cons x tl =>
      have h1 := ready_nil F hs hr x (F.bound x (by rw [hsuf]; simp))
      rw [hout x (by simp)] at h1
      cases h1
  induction fuel with
  | zero =>
    intro done rest L C st a hsuf hlen hs hc hin hout R K0 hN W h
    have : rest = [] := by
      cases rest with
      | nil => rfl
      | cons => simp at hlen
    subst this
    have hr : Region.ready .any ops L = [] := by
      cases hr : Region.ready .any ops L with
      | nil => rfl
      | cons j js =>
        obtain ⟨tl, ht⟩ := only done [] L hsuf hs hc hin hout j (by rw [hr]; simp)
        cases ht
    exact ⟨hr, endQ done [] L C st a hsuf hs hout R K0 hN W h hr⟩
  | succ fuel ih =>
    intro done rest L C st a hsuf hlen hs hc hin hout R K0 hN W h
    refine ⟨endQ done rest L C st a hsuf hs hout R K0 hN W h, ?_⟩
    intro j hj
    obtain ⟨tl, rfl⟩ := only done rest L hsuf hs hc hin hout j hj
    obtain ⟨h0, ⟨o, ho⟩, hdir⟩ := ready_direct hj
    have hlt : j < ops.size := (Array.getElem?_eq_some_iff.1 ho).1
    simp only [asuf, ho] at h
    obtain ⟨hd, h⟩ := h
    have hnd : (j :: tl).Nodup := by
      have := F.nodup
      rw [hsuf] at this
      exact (List.nodup_append.1 (List.nodup_append.1 this).2.1).2.1
    have hjt : j ∉ tl := (List.nodup_cons.1 hnd).1
    refine wpOp_of V ho (K := asuf G nt ops tl K) (ic := true) R hd ?_ ?_
    · exact byGuard_cases h
    · intro D st' a' hK R' Kp hn W'
      refine ih (done ++ [j]) tl _ D st' a' (by rw [hsuf]; simp) (by simp at hlen; omega) (by simp [hs]) (closed_set hc hdir) ?_ ?_ R' (K0.trans Kp) (hn.trans hN) (W.trans W') hK
      · intro i hi
        rw [← List.append_assoc] at hi
        rcases List.mem_append.1 hi with hi | hi
        · exact getD_set_true (hin i hi)
        · simp only [List.mem_singleton] at hi
          subst hi
          exact set_self (by omega)
      · intro i hi
        have hne : j ≠ i := fun e => hjt (e ▸ hi)
        rw [getD_set_ne false hne]
        exact hout i (by simp [hi])

def ltF (L : Array Bool) : Nat → Bool := fun i => L.getD i false

theorem runs_congr {st : St} {o : Oper} {env : Nat → AV} (h : ∀ t ∈ o.looksAt ops, env t = st.env t) : runs ops ⟨env, st.mem⟩ o = runs ops st o := by
  unfold runs
  cases hg : o.guard with
  | none => rfl
  | some g =>
    obtain ⟨j, want⟩ := g
    simp only
    cases hd : (ops[j]?).bind (·.dst) with
    | none => rfl
    | some t =>
      simp only
      rw [h t (by simp [Oper.looksAt, hg, hd])]

theorem draw_soundS {G : Cfg} (V : G.Vers) (hm : G.P.follows .mixedOrders = true) : ∀ (nt base : Nat) (bx0 : List Nat) (id : Nat) (ops : Array Oper) (K : St → Prop) (C0 C : Ctx) (st : St) (a : Act), Rel G nt base bx0 C st a → Keeps C0 C → C.N0 = C0.N0 → WExt base bx0 C0.w C.w → adrawS G nt ops K st →
    (Code.region id ops true).wp G.P (Post G nt base bx0 C0 fun e st' => e = .normal ∧ K st') a C.w := by
  intro nt base bx0 id ops K C0 C st a R K0 hN W h
  obtain ⟨pre, suf, hok, h⟩ := h
  have F := fine_of hok
  have hpn : pre.Nodup := (List.nodup_append.1 F.nodup).1
  obtain ⟨xs, htold, hend⟩ := apre_told hpn h
  -- the first part
  have key : ∀ (fuel : Nat) (L : Array Bool) (C : Ctx) (a : Act), pre.countP (fun i => !L.getD i false) + suf.length ≤ fuel → L.size = ops.size → Closed ops L → (∀ i ∈ suf, L.getD i false = false) →
      Rel G nt base bx0 C ⟨after ops xs (ltF L) pre st.env, st.mem⟩ a → Keeps C0 C → C.N0 = C0.N0 → WExt base bx0 C0.w C.w →
      wpAny G.P .any ops (Post G nt base bx0 C0 fun e st' => e = .normal ∧ K st') fuel L a C.w := by
    have toSuf : ∀ (fuel : Nat) (L : Array Bool) (C : Ctx) (a : Act), suf.length ≤ fuel → L.size = ops.size → Closed ops L → (∀ i ∈ suf, L.getD i false = false) → (∀ i ∈ pre, L.getD i false = true) →
        Rel G nt base bx0 C ⟨after ops xs (ltF L) pre st.env, st.mem⟩ a → Keeps C0 C → C.N0 = C0.N0 → WExt base bx0 C0.w C.w →
        wpAny G.P .any ops (Post G nt base bx0 C0 fun e st' => e = .normal ∧ K st') fuel L a C.w := by
      intro fuel L C a hlen hs hc hout hin R K0 hN W
      have e : after ops xs (ltF L) pre st.env = after ops xs (fun _ => true) pre st.env := by
        funext t
        exact after_congr rfl fun i hi _ => hin i hi
      rw [e] at R
      exact suf_sound V F (fun D st' a' hK R' K' hN' W' => ⟨D, st', rfl, ⟨rfl, hK⟩, R', K', hN', W'⟩) fuel [] suf L C _ a rfl hlen hs hc (by simpa using hin) hout R K0 hN W hend
    intro fuel
    induction fuel with
    | zero =>
      intro L C a hlen hs hc hout R K0 hN W
      refine toSuf 0 L C a (by omega) hs hc hout ?_ R K0 hN W
      have : pre.countP (fun i => !L.getD i false) = 0 := by omega
      rw [List.countP_eq_zero] at this
      intro i hi
      simpa using this i hi
    | succ fuel ih =>
      intro L C a hlen hs hc hout R K0 hN W
      by_cases hall : ∀ i ∈ pre, L.getD i false = true
      · exact toSuf (fuel + 1) L C a (by omega) hs hc hout hall R K0 hN W
      refine ⟨fun hr => (hall fun i hi => ready_nil F hs hr i (F.bound i (by simp [hi]))).elim, ?_⟩
      intro j hj
      obtain ⟨h0, ⟨o, ho⟩, hdir⟩ := ready_direct hj
      have hlt : j < ops.size := (Array.getElem?_eq_some_iff.1 ho).1
      rw [getD_tf (by omega)] at h0
      have hjp : j ∈ pre := by
        rcases List.mem_append.1 (F.all j hlt) with h | h
        · exact h
        · exact (hall fun i hi => closed_clos hc hdir (F.sp j h i hi)).elim
      obtain ⟨l1, l2, hpre⟩ := List.append_of_mem hjp
      obtain ⟨hp1, hp2⟩ := F.pp l1 j l2 hpre
      have hn1 : j ∉ l1 := by
        rw [hpre] at hpn
        intro hc
        exact (List.nodup_append.1 hpn).2.2 j hc j (by simp) rfl
      have hn2 : j ∉ l2 := by
        rw [hpre] at hpn
        exact (List.nodup_cons.1 (List.nodup_append.1 hpn).2.1).1
      obtain ⟨o', ho', hd, hcase⟩ := htold l1 j l2 hpre
      rw [ho] at ho'
      cases ho'
      have hwj : writes ops j = o.dst := by simp [writes, ho]
      have hnm : names ops j = o.dst.toList ++ o.looksAt ops := by simp [names, ho]
      -- who writes what this one names
      have c1 : ∀ k ∈ l1, ∀ t ∈ names ops j, writes ops k = some t → L.getD k false = true := by
        intro k hk t ht hw
        exact closed_clos hc hdir (hp1 k hk (by simp [conflict, hw, ht]))
      have c2 : ∀ k ∈ l2, ∀ t ∈ names ops j, writes ops k = some t → L.getD k false = false := by
        intro k hk t ht hw
        cases hL : L.getD k false with
        | false => rfl
        | true =>
          have := closed_clos hc (hc k hL) (hp2 k hk (by simp [conflict, hw, ht]))
          rw [h0] at this
          cases this
      have hsame : ∀ t ∈ names ops j, after ops xs (ltF L) pre st.env t = after ops xs (fun _ => true) l1 st.env t := by
        intro t ht
        rw [hpre, after_append]
        simp only [after]
        rw [show ltF L j = false from h0]
        simp only [Bool.false_eq_true, if_false]
        rw [after_none (L := ltF L) fun k hk hw => c2 k hk t ht hw]
        exact after_congr rfl fun k hk hw => c1 k hk t ht hw
      have hops : ∀ y ∈ o.op.operands, St.ev ⟨after ops xs (ltF L) pre st.env, st.mem⟩ y = St.ev ⟨after ops xs (fun _ => true) l1 st.env, st.mem⟩ y := by
        intro y hy
        cases y <;> simp only [St.ev]
        rename_i t
        refine hsame t ?_
        rw [hnm]
        refine List.mem_append_right _ (List.mem_append_left _ (List.mem_filterMap.2 ⟨.tmp t, by simpa using hy, rfl⟩))
      have hput : St.put ⟨after ops xs (ltF L) pre st.env, st.mem⟩ o.dst (xs j) = ⟨after ops xs (ltF (L.setIfInBounds j true)) pre st.env, st.mem⟩ := by
        rw [put_upd]
        congr 1
        funext t
        by_cases hdt : o.dst = some t
        · have ht : t ∈ names ops j := by rw [hnm, hdt]; simp
          rw [hdt]
          simp only [upd, if_true]
          rw [hpre, after_append]
          simp only [after]
          rw [show ltF (L.setIfInBounds j true) j = true from set_self (by omega)]
          simp only [if_true]
          rw [after_none]
          · rw [hwj, hdt]; simp [upd]
          · intro k hk hw
            have hne : j ≠ k := fun e => hn2 (e ▸ hk)
            show (L.setIfInBounds j true).getD k false = false
            rw [getD_set_ne false hne]
            exact c2 k hk t ht hw
        · have e1 : upd (after ops xs (ltF L) pre st.env) o.dst (xs j) t = after ops xs (ltF L) pre st.env t := by
            cases hq : o.dst with
            | none => rfl
            | some d => simp only [upd]; rw [if_neg (fun e => hdt (by rw [hq, e]))]
          simp only
          rw [e1]
          refine after_congr rfl fun k hk hw => ?_
          have hne : j ≠ k := fun e => hdt (by rw [← hwj, e, hw])
          exact (getD_set_ne false hne).symm
      refine wpOp_of V ho (K := fun s => s = ⟨after ops xs (ltF (L.setIfInBounds j true)) pre st.env, st.mem⟩) (ic := false) R hd ?_ ?_
      · rcases hcase with ⟨hr, hy⟩ | ⟨hr, hx⟩
        · refine .inl ⟨?_, hy _ hops _ hput⟩
          rw [← hr]
          exact runs_congr (st := ⟨after ops xs (fun _ => true) l1 st.env, st.mem⟩) fun t ht => hsame t (by rw [hnm]; simp [ht])
        · refine .inr ⟨?_, by rw [← hx]; exact hput⟩
          rw [← hr]
          exact runs_congr (st := ⟨after ops xs (fun _ => true) l1 st.env, st.mem⟩) fun t ht => hsame t (by rw [hnm]; simp [ht])
      · rintro D st' a' rfl R' Kp hn W'
        refine ih _ D a' ?_ (by simp [hs]) (closed_set hc hdir) ?_ R' (K0.trans Kp) (hn.trans hN) (W.trans W')
        · have mono : ∀ l : List Nat, l.countP (fun i => !(L.setIfInBounds j true).getD i false) ≤ l.countP (fun i => !L.getD i false) := by
            intro l
            refine List.countP_mono_left fun i _ h => ?_
            cases hL : L.getD i false with
            | false => rfl
            | true => rw [getD_set_true hL] at h; cases h
          have h1 := mono l1
          have h2 := mono l2
          rw [hpre, List.countP_append, List.countP_cons] at hlen ⊢
          rw [h0] at hlen
          rw [set_self (by omega)]
          simp only [Bool.not_false, Bool.not_true, if_true, Bool.false_eq_true, if_false] at hlen ⊢
          omega
        · intro i hi
          have hne : j ≠ i := by
            intro e
            have := (List.nodup_append.1 F.nodup).2.2 j hjp i hi
            exact this e
          rw [getD_set_ne false hne]
          exact hout i hi
  -- the draw
  refine wp_region_any hm ?_
  obtain ⟨C', hw, hn, Kp, M, W', hR⟩ := Nxt.still (R := fun D => ∀ t, RV D (st.env t) (a.tmps.getD t undef)) R.mem { C.w with drawn := C.w.drawn + 1 } rfl rfl rfl rfl (fun D hK _ _ _ _ _ t => (R.env t).keep hK)
  have e : after ops xs (ltF (Array.replicate ops.size false)) pre st.env = st.env := by
    funext t
    refine after_none fun i _ _ => ?_
    simp only [ltF]
    by_cases hlt : i < ops.size
    · simp [hlt]
    · simp [hlt]
  have := key ops.size (Array.replicate ops.size false) C' a ?_ (by simp) ?_ ?_ ⟨M, by rw [e]; exact hR, R.size, R.defers⟩ (K0.trans Kp) (hn.trans hN) (hw ▸ W.trans W')
  · rw [hw] at this
    exact this
  · have h1 : (pre ++ suf).length ≤ ops.size := by
      have := List.Nodup.length_le_of_subset F.nodup (l₂ := List.range ops.size) fun i hi => List.mem_range.2 (F.bound i hi)
      simpa using this
    have h2 := List.countP_le_length (p := fun i => !(Array.replicate ops.size false).getD i false) (l := pre)
    simp only [List.length_append] at h1
    omega
  · intro k hk
    exfalso
    by_cases hlt : k < ops.size
    · simp [hlt] at hk
    · simp [hlt] at hk
  · intro i hi
    by_cases hlt : i < ops.size
    · simp [hlt]
    · simp [hlt]

theorem allocAt_spec {ops : Array Oper} {a : Nat} {d : Tmp} {t : TypeId} (h : allocAt ops a = some (d, t)) : ∃ o, ops[a]? = some o ∧ o.dst = some d ∧ o.op = .alloc t ∧ o.guard = none := by
  unfold allocAt at h
  split at h
  · rename_i d' t' ty pos aft ho
    cases h
    exact ⟨_, ho, rfl, rfl, rfl⟩
  · cases h

theorem aop_alloc_eq {G : Cfg} {o : Oper} {t : TypeId} (ho : o.op = .alloc t) (hz : G.zerOK t = true) {zs : List AV} (hzs : G.zer t = some zs) {K : St → Prop} {st : St} {ic : Bool} : aop G ic o K st = K (St.put ⟨st.env, ⟨st.mem.boxes ++ [zs], st.mem.arrs⟩⟩ o.dst (.box st.mem.boxes.length 0)) := by
  obtain ⟨dst, op, ty, pos, aft, gd⟩ := o
  simp only at ho
  subst ho
  simp only [aop, aval, hz, hzs, if_true, Option.map_some]

/-- Told at both memories. -/
def ToldF (G : Cfg) (nt : Nat) (ops : Array Oper) (zs : List AV) (m : Mem) (i : Nat) (e : Nat → AV) (x : AV) : Prop :=
  ∃ o, ops[i]? = some o ∧ o.guard = none ∧ dstOK nt o.dst = true ∧ ∀ mm, (mm = m ∨ mm = ⟨m.boxes ++ [zs], m.arrs⟩) → ∀ env, (∀ y ∈ o.op.operands, St.ev ⟨env, mm⟩ y = St.ev ⟨e, m⟩ y) → ∀ K' : St → Prop, K' (St.put ⟨env, mm⟩ o.dst x) → aop G false o K' ⟨env, mm⟩

theorem lend_more (m : Mem) (zs : List AV) (a : AV) : lend ⟨m.boxes ++ [zs], m.arrs⟩ a = lend m a := by
  cases a <;> rfl

theorem cells_more {m : Mem} {zs : List AV} {p : AV} {cs : List AV} (h : m.cellsAt p = some cs) : Mem.cellsAt ⟨m.boxes ++ [zs], m.arrs⟩ p = some cs := by
  cases p with
  | box k off =>
    simp only [Mem.cellsAt] at h ⊢
    obtain ⟨b, hb, he⟩ := Option.map_eq_some_iff.1 h
    rw [List.getElem?_append_left (List.getElem?_eq_some_iff.1 hb).1, hb]
    exact congrArg some he
  | _ => exact h

theorem aopF_told {G : Cfg} {o : Oper} {st : St} {K : St → Prop} (zs : List AV) (h : aopF G o K st) : ∃ x, K (st.put o.dst x) ∧ ∀ mm, (mm = st.mem ∨ mm = ⟨st.mem.boxes ++ [zs], st.mem.arrs⟩) → ∀ env, (∀ y ∈ o.op.operands, St.ev ⟨env, mm⟩ y = st.ev y) → ∀ K' : St → Prop, K' (St.put ⟨env, mm⟩ o.dst x) → aop G false o K' ⟨env, mm⟩ := by
  obtain ⟨dst, op, ty, pos, aft, gd⟩ := o
  cases op with
  | move x =>
    refine ⟨st.ev x, h, ?_⟩
    intro mm _ env he K' hK
    have hx := he x (by simp [Op.operands])
    simp only [aop, aval]
    rw [hx]
    exact hK
  | load t p =>
    simp only [aopF] at h
    split at h
    · rename_i x hx
      refine ⟨x, h, ?_⟩
      intro mm hmm env he K' hK
      have hp := he p (by simp [Op.operands])
      obtain ⟨cs, hc, hl⟩ := Option.bind_eq_some_iff.1 hx
      have hc2 : mm.cellsAt (st.ev p) = some cs := by
        rcases hmm with rfl | rfl
        · exact hc
        · exact cells_more hc
      simp only [aop, aval]
      rw [hp, hc2]
      simp only [Option.bind_some, hl, Option.map_some]
      exact hK
    · exact h.elim
  | call c =>
    obtain ⟨callee, args, tys⟩ := c
    cases callee with
    | value y =>
      cases y with
      | func f =>
        obtain ⟨r, hp, hf, hK0⟩ := h
        refine ⟨r, hK0, ?_⟩
        intro mm hmm env he K' hK
        have ha : args.toList.map (St.ev ⟨env, mm⟩) = args.toList.map st.ev := List.map_congr_left fun p hm => he p (by simp [Op.operands, Call.operands, Array.mem_toList_iff.1 hm])
        have hl : ∀ a, lend mm a = lend st.mem a := by
          rcases hmm with rfl | rfl
          · exact fun _ => rfl
          · exact lend_more st.mem zs
        have hl2 : (args.toList.map st.ev).map (lend mm) = (args.toList.map st.ev).map (lend st.mem) := List.map_congr_left fun a _ => hl a
        simp only [aop, St.ev, List.nil_append, List.append_nil]
        refine .inl ⟨r, mm, ?_, hK⟩
        have e : (args.toList.map fun x => St.ev ⟨env, mm⟩ x) = args.toList.map st.ev := ha
        refine CallStep.pure r ?_ ?_
        · show Pure G.P f ((args.toList.map (St.ev ⟨env, mm⟩)).map (lend mm)) r
          rw [ha, hl2]
          exact hp
        · intro a hm
          have hm' : a ∈ args.toList.map (St.ev ⟨env, mm⟩) := hm
          rw [ha] at hm'
          show (lend mm a).Free _
          rw [hl]
          exact hf a hm'
      | _ => exact h.elim
    | _ => exact h.elim
  | _ => exact h.elim

theorem apreF_told {G : Cfg} {nt : Nat} {ops : Array Oper} {K : St → Prop} (zs : List AV) : ∀ {l : List Nat} {st : St}, l.Nodup → apreF G nt ops l K st → ∃ xs : Nat → AV,
    (∀ l1 i l2, l = l1 ++ i :: l2 → ToldF G nt ops zs st.mem i (after ops xs (fun _ => true) l1 st.env) (xs i)) ∧ K ⟨after ops xs (fun _ => true) l st.env, st.mem⟩
  | [], st, _, h => ⟨fun _ => .dead, fun l1 i l2 e => by simp at e, h⟩
  | i :: l, st, hn, h => by
    obtain ⟨hni, hn⟩ := List.nodup_cons.1 hn
    simp only [apreF] at h
    split at h
    · exact h.elim
    rename_i o ho
    obtain ⟨hg, hd, h⟩ := h
    have hwr : writes ops i = o.dst := by simp [writes, ho]
    obtain ⟨x, hK, hy⟩ := aopF_told zs h
    rw [put_upd] at hK
    obtain ⟨xs, h1, h2⟩ := apreF_told zs hn hK
    refine ⟨fun k => if k = i then x else xs k, ?_, ?_⟩
    · intro l1 k l2 e
      cases l1 with
      | nil =>
        simp only [List.nil_append, List.cons.injEq] at e
        obtain ⟨rfl, rfl⟩ := e
        simp only [after, if_pos]
        exact ⟨o, ho, hg, hd, hy⟩
      | cons b l1 =>
        simp only [List.cons_append, List.cons.injEq] at e
        obtain ⟨rfl, rfl⟩ := e
        have hk : k ≠ i := fun e => hni (by rw [← e]; simp)
        have := h1 l1 k l2 rfl
        simp only [after, if_neg hk, hwr, if_pos]
        rw [after_xs (ys := xs) (fun j hj => if_neg (fun e => hni (by rw [← e]; simp [hj])))]
        exact this
    · simp only [after, hwr, if_pos]
      rw [after_xs (ys := xs) (fun j hj => if_neg (fun e => hni (by rw [← e]; exact hj)))]
      exact h2

theorem draw_soundF {G : Cfg} (V : G.Vers) (hm : G.P.follows .mixedOrders = true) : ∀ (nt base : Nat) (bx0 : List Nat) (id : Nat) (ops : Array Oper) (K : St → Prop) (C0 C : Ctx) (st : St) (a : Act), Rel G nt base bx0 C st a → Keeps C0 C → C.N0 = C0.N0 → WExt base bx0 C0.w C.w → adrawF G nt ops K st →
    (Code.region id ops true).wp G.P (Post G nt base bx0 C0 fun e st' => e = .normal ∧ K st') a C.w := by
  intro nt base bx0 id ops K C0 C st a R K0 hN W h
  obtain ⟨b, pre0, suf, d, t0, zs, hok, hal, hdn, hzo, hzs, h⟩ := h
  simp only [drawF, Bool.and_eq_true, List.all_eq_true] at hok
  obtain ⟨hok, hcf⟩ := hok
  obtain ⟨pre, hpre0⟩ : ∃ pre, pre = b :: pre0 := ⟨_, rfl⟩
  rw [← hpre0] at hok
  have F := fine_of hok
  have hpn : pre.Nodup := (List.nodup_append.1 F.nodup).1
  have hpn0 : pre0.Nodup := by rw [hpre0] at hpn; exact (List.nodup_cons.1 hpn).2
  have hbn : b ∉ pre0 := by rw [hpre0] at hpn; exact (List.nodup_cons.1 hpn).1
  obtain ⟨xs0, htold, hend⟩ := apreF_told zs hpn0 h
  obtain ⟨xs, hxs⟩ : ∃ xs : Nat → AV, xs = fun k => if k = b then .box st.mem.boxes.length 0 else xs0 k := ⟨_, rfl⟩
  obtain ⟨ob, hob, hobd, hobop, hobg⟩ := allocAt_spec hal
  have hwb : writes ops b = some d := by simp [writes, hob, hobd]
  let M : Bool → Mem := fun q => bif q then ⟨st.mem.boxes ++ [zs], st.mem.arrs⟩ else st.mem
  have hxs0 : ∀ l : List Nat, b ∉ l → ∀ (L : Nat → Bool) (e : Nat → AV), after ops xs L l e = after ops xs0 L l e := fun l hl L e => after_xs fun k hk => by
    have hkb : k ≠ b := fun h => hl (by rw [← h]; exact hk)
    rw [hxs]
    exact if_neg hkb
  -- the first part
  have key : ∀ (fuel : Nat) (L : Array Bool) (C : Ctx) (a : Act), pre.countP (fun i => !L.getD i false) + suf.length ≤ fuel → L.size = ops.size → Closed ops L → (∀ i ∈ suf, L.getD i false = false) →
      Rel G nt base bx0 C ⟨after ops xs (ltF L) pre st.env, M (ltF L b)⟩ a → Keeps C0 C → C.N0 = C0.N0 → WExt base bx0 C0.w C.w →
      wpAny G.P .any ops (Post G nt base bx0 C0 fun e st' => e = .normal ∧ K st') fuel L a C.w := by
    have toSuf : ∀ (fuel : Nat) (L : Array Bool) (C : Ctx) (a : Act), suf.length ≤ fuel → L.size = ops.size → Closed ops L → (∀ i ∈ suf, L.getD i false = false) → (∀ i ∈ pre, L.getD i false = true) →
        Rel G nt base bx0 C ⟨after ops xs (ltF L) pre st.env, M (ltF L b)⟩ a → Keeps C0 C → C.N0 = C0.N0 → WExt base bx0 C0.w C.w →
        wpAny G.P .any ops (Post G nt base bx0 C0 fun e st' => e = .normal ∧ K st') fuel L a C.w := by
      intro fuel L C a hlen hs hc hout hin R K0 hN W
      have e : after ops xs (ltF L) pre st.env = after ops xs (fun _ => true) pre st.env := by
        funext t
        exact after_congr rfl fun i hi _ => hin i hi
      have hb1 : ltF L b = true := hin b (by rw [hpre0]; simp)
      rw [e, hb1] at R
      have hend' : asuf G nt ops suf K ⟨after ops xs (fun _ => true) pre st.env, M true⟩ := by
        have e2 : after ops xs (fun _ => true) pre st.env = fun u => if u = d then .box st.mem.boxes.length 0 else after ops xs0 (fun _ => true) pre0 st.env u := by
          funext u
          rw [hpre0]
          simp only [after, if_true]
          rw [hxs0 pre0 hbn]
          by_cases hu : u = d
          · subst hu
            rw [if_pos rfl, after_none fun i hi hw => by
              have h1 := hcf i hi
              simp [conflict, hwb, names, hob, hobd, hw] at h1]
            simp [upd, hwb, hxs]
          · rw [if_neg hu]
            refine after_congr ?_ fun _ _ _ => rfl
            simp [upd, hwb, hu]
        rw [e2]
        exact hend
      exact suf_sound V F (fun D st' a' hK R' K' hN' W' => ⟨D, st', rfl, ⟨rfl, hK⟩, R', K', hN', W'⟩) fuel [] suf L C _ a rfl hlen hs hc (by simpa using hin) hout R K0 hN W hend'
    intro fuel
    induction fuel with
    | zero =>
      intro L C a hlen hs hc hout R K0 hN W
      refine toSuf 0 L C a (by omega) hs hc hout ?_ R K0 hN W
      have : pre.countP (fun i => !L.getD i false) = 0 := by omega
      rw [List.countP_eq_zero] at this
      intro i hi
      simpa using this i hi
    | succ fuel ih =>
      intro L C a hlen hs hc hout R K0 hN W
      by_cases hall : ∀ i ∈ pre, L.getD i false = true
      · exact toSuf (fuel + 1) L C a (by omega) hs hc hout hall R K0 hN W
      refine ⟨fun hr => (hall fun i hi => ready_nil F hs hr i (F.bound i (by simp [hi]))).elim, ?_⟩
      intro j hj
      obtain ⟨h0, ⟨o, ho⟩, hdir⟩ := ready_direct hj
      have hlt : j < ops.size := (Array.getElem?_eq_some_iff.1 ho).1
      rw [getD_tf (by omega)] at h0
      have hjp : j ∈ pre := by
        rcases List.mem_append.1 (F.all j hlt) with h | h
        · exact h
        · exact (hall fun i hi => closed_clos hc hdir (F.sp j h i hi)).elim
      have hwj : ∀ o, ops[j]? = some o → writes ops j = o.dst := fun o ho => by simp [writes, ho]
      have hnm : ∀ o, ops[j]? = some o → names ops j = o.dst.toList ++ o.looksAt ops := fun o ho => by simp [names, ho]
      obtain ⟨l1, l2, hpre⟩ := List.append_of_mem hjp
      obtain ⟨hp1, hp2⟩ := F.pp l1 j l2 hpre
      have hn1 : j ∉ l1 := by
        rw [hpre] at hpn
        intro hc
        exact (List.nodup_append.1 hpn).2.2 j hc j (by simp) rfl
      have hn2 : j ∉ l2 := by
        rw [hpre] at hpn
        exact (List.nodup_cons.1 (List.nodup_append.1 hpn).2.1).1
      -- who writes what this one names
      have c1 : ∀ k ∈ l1, ∀ t ∈ names ops j, writes ops k = some t → L.getD k false = true := by
        intro k hk t ht hw
        exact closed_clos hc hdir (hp1 k hk (by simp [conflict, hw, ht]))
      have c2 : ∀ k ∈ l2, ∀ t ∈ names ops j, writes ops k = some t → L.getD k false = false := by
        intro k hk t ht hw
        cases hL : L.getD k false with
        | false => rfl
        | true =>
          have := closed_clos hc (hc k hL) (hp2 k hk (by simp [conflict, hw, ht]))
          rw [h0] at this
          cases this
      have hsame : ∀ t ∈ names ops j, after ops xs (ltF L) pre st.env t = after ops xs (fun _ => true) l1 st.env t := by
        intro t ht
        rw [hpre, after_append]
        simp only [after]
        rw [show ltF L j = false from h0]
        simp only [Bool.false_eq_true, if_false]
        rw [after_none (L := ltF L) fun k hk hw => c2 k hk t ht hw]
        exact after_congr rfl fun k hk hw => c1 k hk t ht hw
      have hput : ∀ mm, St.put ⟨after ops xs (ltF L) pre st.env, mm⟩ o.dst (xs j) = ⟨after ops xs (ltF (L.setIfInBounds j true)) pre st.env, mm⟩ := by
        intro mm
        rw [put_upd]
        congr 1
        funext t
        by_cases hdt : o.dst = some t
        · have ht : t ∈ names ops j := by rw [hnm o ho, hdt]; simp
          rw [hdt]
          simp only [upd, if_true]
          rw [hpre, after_append]
          simp only [after]
          rw [show ltF (L.setIfInBounds j true) j = true from set_self (by omega)]
          simp only [if_true]
          rw [after_none]
          · rw [hwj o ho, hdt]; simp [upd]
          · intro k hk hw
            have hne : j ≠ k := fun e => hn2 (e ▸ hk)
            show (L.setIfInBounds j true).getD k false = false
            rw [getD_set_ne false hne]
            exact c2 k hk t ht hw
        · have e1 : upd (after ops xs (ltF L) pre st.env) o.dst (xs j) t = after ops xs (ltF L) pre st.env t := by
            cases hq : o.dst with
            | none => rfl
            | some d => simp only [upd]; rw [if_neg (fun e => hdt (by rw [hq, e]))]
          simp only
          rw [e1]
          refine after_congr rfl fun k hk hw => ?_
          have hne : j ≠ k := fun e => hdt (by rw [← hwj o ho, e, hw])
          exact (getD_set_ne false hne).symm
      have hstep : dstOK nt o.dst = true ∧ runs ops ⟨after ops xs (ltF L) pre st.env, M (ltF L b)⟩ o = some true ∧ aop G false o (fun s => s = ⟨after ops xs (ltF (L.setIfInBounds j true)) pre st.env, M (ltF (L.setIfInBounds j true) b)⟩) ⟨after ops xs (ltF L) pre st.env, M (ltF L b)⟩ := by
        by_cases hjb : j = b
        · subst hjb
          rw [ho] at hob
          cases hob
          have hL0 : ltF L j = false := h0
          have hL1 : ltF (L.setIfInBounds j true) j = true := set_self (by omega)
          refine ⟨by rw [hobd]; simpa [dstOK] using hdn, by simp [runs, hobg], ?_⟩
          rw [hL0, hL1, aop_alloc_eq hobop hzo hzs]
          rw [← hput]
          simp [M, hxs]
        · have hj0 : j ∈ pre0 := by
            rw [hpre0] at hjp
            rcases List.mem_cons.1 hjp with h | h
            · exact (hjb h).elim
            · exact h
          have hLb : ltF (L.setIfInBounds j true) b = ltF L b := getD_set_ne false (fun e => hjb e)
          rw [hLb]
          obtain ⟨m1, hm1⟩ : ∃ m1, l1 = b :: m1 := by
            rw [hpre0] at hpre
            cases l1 with
            | nil => simp only [List.nil_append, List.cons.injEq] at hpre; exact (hjb hpre.1.symm).elim
            | cons x m1 => simp only [List.cons_append, List.cons.injEq] at hpre; exact ⟨m1, by rw [hpre.1]⟩
          have hpm : pre0 = m1 ++ j :: l2 := by
            rw [hpre0, hm1] at hpre
            simpa using hpre
          obtain ⟨o', ho', hg, hd, hy⟩ := htold m1 j l2 hpm
          rw [ho] at ho'
          cases ho'
          refine ⟨hd, by simp [runs, hg], ?_⟩
          have hxj : xs j = xs0 j := by rw [hxs]; exact if_neg hjb
          refine hy (M (ltF L b)) ?_ _ ?_ _ (by rw [← hxj]; exact hput _)
          · cases ltF L b
            · exact .inl rfl
            · exact .inr rfl
          · intro y hyo
            cases y <;> simp only [St.ev]
            rename_i t
            have ht : t ∈ names ops j := by
              rw [hnm o ho]
              exact List.mem_append_right _ (List.mem_append_left _ (List.mem_filterMap.2 ⟨.tmp t, by simpa using hyo, rfl⟩))
            rw [hsame t ht, hm1]
            simp only [after, if_true]
            have hbm : b ∉ m1 := fun h => hbn (by rw [hpm]; simp [h])
            rw [hxs0 m1 hbm]
            refine after_congr ?_ fun _ _ _ => rfl
            have hne : t ≠ d := by
              rintro rfl
              have h1 := hcf j hj0
              simp [conflict, hwb, ht] at h1
            simp [upd, hwb, hne]
      obtain ⟨hd, hrun, hst⟩ := hstep
      refine wpOp_of V ho (K := fun s => s = ⟨after ops xs (ltF (L.setIfInBounds j true)) pre st.env, M (ltF (L.setIfInBounds j true) b)⟩) R hd (.inl ⟨hrun, hst⟩) ?_
      · rintro D st' a' rfl R' Kp hn W'
        refine ih _ D a' ?_ (by simp [hs]) (closed_set hc hdir) ?_ R' (K0.trans Kp) (hn.trans hN) (W.trans W')
        · have mono : ∀ l : List Nat, l.countP (fun i => !(L.setIfInBounds j true).getD i false) ≤ l.countP (fun i => !L.getD i false) := by
            intro l
            refine List.countP_mono_left fun i _ h => ?_
            cases hL : L.getD i false with
            | false => rfl
            | true => rw [getD_set_true hL] at h; cases h
          have h1 := mono l1
          have h2 := mono l2
          rw [hpre, List.countP_append, List.countP_cons] at hlen ⊢
          rw [h0] at hlen
          rw [set_self (by omega)]
          simp only [Bool.not_false, Bool.not_true, if_true, Bool.false_eq_true, if_false] at hlen ⊢
          omega
        · intro i hi
          have hne : j ≠ i := by
            intro e
            have := (List.nodup_append.1 F.nodup).2.2 j hjp i hi
            exact this e
          rw [getD_set_ne false hne]
          exact hout i hi
  -- the draw
  refine wp_region_any hm ?_
  obtain ⟨C', hw, hn, Kp, Mm, W', hR⟩ := Nxt.still (R := fun D => ∀ t, RV D (st.env t) (a.tmps.getD t undef)) R.mem { C.w with drawn := C.w.drawn + 1 } rfl rfl rfl rfl (fun D hK _ _ _ _ _ t => (R.env t).keep hK)
  have e : after ops xs (ltF (Array.replicate ops.size false)) pre st.env = st.env := by
    funext t
    refine after_none fun i _ _ => ?_
    simp only [ltF]
    by_cases hlt : i < ops.size
    · simp [hlt]
    · simp [hlt]
  have e0 : M (ltF (Array.replicate ops.size false) b) = st.mem := by
    have : ltF (Array.replicate ops.size false) b = false := by
      simp only [ltF]
      by_cases hlt : b < ops.size
      · simp [hlt]
      · simp [hlt]
    rw [this]
    rfl
  have := key ops.size (Array.replicate ops.size false) C' a ?_ (by simp) ?_ ?_ ⟨by rw [e0]; exact Mm, by rw [e]; exact hR, R.size, R.defers⟩ (K0.trans Kp) (hn.trans hN) (hw ▸ W.trans W')
  · rw [hw] at this
    exact this
  · have h1 : (pre ++ suf).length ≤ ops.size := by
      have := List.Nodup.length_le_of_subset F.nodup (l₂ := List.range ops.size) fun i hi => List.mem_range.2 (F.bound i hi)
      simpa using this
    have h2 := List.countP_le_length (p := fun i => !(Array.replicate ops.size false).getD i false) (l := pre)
    simp only [List.length_append] at h1
    omega
  · intro k hk
    exfalso
    by_cases hlt : k < ops.size
    · simp [hlt] at hk
    · simp [hlt] at hk
  · intro i hi
    by_cases hlt : i < ops.size
    · simp [hlt]
    · simp [hlt]

/-! ### Some operations turn the memory, in their order -/

theorem yields_to {G : Cfg} {o : Oper} {e : Nat → AV} {m m' : Mem} {x : AV} (h : yieldsTo G o x e m m') : ∀ env, (∀ y ∈ o.op.operands, St.ev ⟨env, m⟩ y = St.ev ⟨e, m⟩ y) → ∀ K' : St → Prop, K' (St.put ⟨env, m'⟩ o.dst x) → aop G false o K' ⟨env, m⟩ := by
  obtain ⟨x1, m1, hc, he⟩ := Yields.mk h
  intro env hop K' hK
  refine hc env hop K' ?_
  cases hd : o.dst with
  | none =>
    rw [hd] at hK he
    have hm : m1 = m' := congrArg St.mem he
    subst hm
    exact hK
  | some d =>
    rw [hd] at hK he
    have hm : m1 = m' := congrArg St.mem he
    subst hm
    have hx : x1 = x := by
      have := congrFun (congrArg St.env he) d
      simpa [St.put] using this
    subst hx
    exact hK
def ToldG (G : Cfg) (nt : Nat) (ops : Array Oper) (ms : List Mem) (ch : List Nat) (rg : List (Nat × Nat)) (i : Nat) (e : Nat → AV) (x : AV) : Prop :=
  ∃ o, ops[i]? = some o ∧ o.guard = none ∧ dstOK nt o.dst = true ∧ (ch.contains i = true → ∃ m m', ms[ch.idxOf i]? = some m ∧ ms[ch.idxOf i + 1]? = some m' ∧ yieldsTo G o x e m m') ∧ (ch.contains i = false → ∀ m ∈ (ms.take ((rg.getD i (0, ch.length)).2 + 1)).drop (rg.getD i (0, ch.length)).1, yieldsTo G o x e m m)
theorem tellG_told {G : Cfg} {nt : Nat} {ops : Array Oper} {ms : List Mem} {ch : List Nat} {rg : List (Nat × Nat)} {K : (Nat → AV) → Prop} : ∀ {l : List Nat} {ys : List AV} {e : Nat → AV}, l.Nodup → tellG G nt ops ms ch rg l ys e K → ∃ xs : Nat → AV,
    (∀ l1 i l2, l = l1 ++ i :: l2 → ToldG G nt ops ms ch rg i (after ops xs (fun _ => true) l1 e) (xs i)) ∧ K (after ops xs (fun _ => true) l e)
  | [], ys, e, _, h => ⟨fun _ => .dead, fun l1 i l2 e => by simp at e, h⟩
  | _ :: _, [], _, _, h => h.elim
  | i :: l, x :: ys, e, hn, h => by
    obtain ⟨hni, hn⟩ := List.nodup_cons.1 hn
    simp only [tellG] at h
    split at h
    · exact h.elim
    rename_i o ho
    obtain ⟨⟨hg, hd⟩, hy, hK⟩ := h
    have hwr : writes ops i = o.dst := by simp [writes, ho]
    rw [put_upd] at hK
    obtain ⟨xs, h1, h2⟩ := tellG_told hn hK
    refine ⟨fun k => if k = i then x else xs k, ?_, ?_⟩
    · intro l1 k l2 e2
      cases l1 with
      | nil =>
        simp only [List.nil_append, List.cons.injEq] at e2
        obtain ⟨rfl, rfl⟩ := e2
        simp only [after, if_pos]
        refine ⟨o, ho, hg, hd, fun hc => ?_, fun hc => ?_⟩
        · rw [if_pos hc] at hy
          split at hy
          · rename_i m m' q1 q2
            exact ⟨m, m', q1, q2, hy⟩
          · exact hy.elim
        · rw [if_neg (by rw [hc]; decide)] at hy
          exact hy
      | cons b l1 =>
        simp only [List.cons_append, List.cons.injEq] at e2
        obtain ⟨rfl, rfl⟩ := e2
        have hk : k ≠ i := fun e => hni (by rw [← e]; simp)
        have := h1 l1 k l2 rfl
        simp only [after, if_neg hk, hwr, if_pos]
        rw [after_xs (ys := xs) (fun j hj => if_neg (fun e => hni (by rw [← e]; simp [hj])))]
        exact this
    · simp only [after, hwr, if_pos]
      rw [after_xs (ys := xs) (fun j hj => if_neg (fun e => hni (by rw [← e]; exact hj)))]
      exact h2
/-- How many of the chain are done. -/
theorem chain_count {c1 c2 : List Nat} {j : Nat} {p : Nat → Bool} (h1 : ∀ k ∈ c1, p k = true) (hj : p j = false) (h2 : ∀ k ∈ c2, p k = false) : (c1 ++ j :: c2).countP p = c1.length := by
  rw [List.countP_append, List.countP_cons, hj, List.countP_eq_length.2 h1, List.countP_eq_zero.2 (fun k hk => by rw [h2 k hk]; decide)]
  simp
theorem idxOf_split {c1 c2 : List Nat} {j : Nat} (h : j ∉ c1) : (c1 ++ j :: c2).idxOf j = c1.length := by
  rw [List.idxOf_append, if_neg h]
  simp

theorem draw_soundH {G : Cfg} (V : G.Vers) (hm : G.P.follows .mixedOrders = true) : ∀ (nt base : Nat) (bx0 : List Nat) (id : Nat) (ops : Array Oper) (K : St → Prop) (C0 C : Ctx) (st : St) (a : Act), Rel G nt base bx0 C st a → Keeps C0 C → C.N0 = C0.N0 → WExt base bx0 C0.w C.w → adrawH G nt ops K st →
    (Code.region id ops true).wp G.P (Post G nt base bx0 C0 fun e st' => e = .normal ∧ K st') a C.w := by
  intro nt base bx0 id ops K C0 C st a R K0 hN W h
  obtain ⟨pre, ch, rg, ms, ys, hok, hlen0, hm0, h⟩ := h
  obtain ⟨suf, hsuf⟩ : ∃ suf : List Nat, suf = [] := ⟨_, rfl⟩
  simp only [Bool.and_eq_true] at hok
  obtain ⟨⟨⟨⟨hok, hchain⟩, hchl⟩, hchn⟩, hrg⟩ := hok
  rw [← hsuf] at hok
  have F := fine_of hok
  have hpn : pre.Nodup := (List.nodup_append.1 F.nodup).1
  have hchnd := nodupB_iff hchn
  obtain ⟨xs, htold, hend⟩ := tellG_told hpn h
  let M : (Nat → Bool) → Mem := fun p => (ms[ch.countP p]?).getD st.mem
  -- the first part
  have key : ∀ (fuel : Nat) (L : Array Bool) (C : Ctx) (a : Act), pre.countP (fun i => !L.getD i false) + suf.length ≤ fuel → L.size = ops.size → Closed ops L → (∀ i ∈ suf, L.getD i false = false) →
      Rel G nt base bx0 C ⟨after ops xs (ltF L) pre st.env, M (ltF L)⟩ a → Keeps C0 C → C.N0 = C0.N0 → WExt base bx0 C0.w C.w →
      wpAny G.P .any ops (Post G nt base bx0 C0 fun e st' => e = .normal ∧ K st') fuel L a C.w := by
    have toSuf : ∀ (fuel : Nat) (L : Array Bool) (C : Ctx) (a : Act), suf.length ≤ fuel → L.size = ops.size → Closed ops L → (∀ i ∈ suf, L.getD i false = false) → (∀ i ∈ pre, L.getD i false = true) →
        Rel G nt base bx0 C ⟨after ops xs (ltF L) pre st.env, M (ltF L)⟩ a → Keeps C0 C → C.N0 = C0.N0 → WExt base bx0 C0.w C.w →
        wpAny G.P .any ops (Post G nt base bx0 C0 fun e st' => e = .normal ∧ K st') fuel L a C.w := by
      intro fuel L C a hlen hs hc hout hin R K0 hN W
      have e : after ops xs (ltF L) pre st.env = after ops xs (fun _ => true) pre st.env := by
        funext t
        exact after_congr rfl fun i hi _ => hin i hi
      have hcnt : ch.countP (ltF L) = ch.length := List.countP_eq_length.2 fun k hk => hin k (by
        have := List.all_eq_true.1 hchl k hk
        simpa using this)
      obtain ⟨mk, hmk⟩ : ∃ mk, ms[ch.length]? = some mk := ⟨_, List.getElem?_eq_getElem (by omega)⟩
      have hM : M (ltF L) = mk := by
        show (ms[ch.countP (ltF L)]?).getD st.mem = mk
        rw [hcnt, hmk]
        rfl
      rw [e, hM] at R
      have hend' : asuf G nt ops suf K ⟨after ops xs (fun _ => true) pre st.env, mk⟩ := by
        rw [hsuf]
        exact hend mk hmk
      exact suf_sound V F (fun D st' a' hK R' K' hN' W' => ⟨D, st', rfl, ⟨rfl, hK⟩, R', K', hN', W'⟩) fuel [] suf L C _ a rfl hlen hs hc (by simpa using hin) hout R K0 hN W hend'
    intro fuel
    induction fuel with
    | zero =>
      intro L C a hlen hs hc hout R K0 hN W
      refine toSuf 0 L C a (by omega) hs hc hout ?_ R K0 hN W
      have : pre.countP (fun i => !L.getD i false) = 0 := by omega
      rw [List.countP_eq_zero] at this
      intro i hi
      simpa using this i hi
    | succ fuel ih =>
      intro L C a hlen hs hc hout R K0 hN W
      by_cases hall : ∀ i ∈ pre, L.getD i false = true
      · exact toSuf (fuel + 1) L C a (by omega) hs hc hout hall R K0 hN W
      refine ⟨fun hr => (hall fun i hi => ready_nil F hs hr i (F.bound i (by simp [hi]))).elim, ?_⟩
      intro j hj
      obtain ⟨h0, ⟨o, ho⟩, hdir⟩ := ready_direct hj
      have hlt : j < ops.size := (Array.getElem?_eq_some_iff.1 ho).1
      rw [getD_tf (by omega)] at h0
      have hjp : j ∈ pre := by
        rcases List.mem_append.1 (F.all j hlt) with h | h
        · exact h
        · exact (hall fun i hi => closed_clos hc hdir (F.sp j h i hi)).elim
      have hwj : ∀ o, ops[j]? = some o → writes ops j = o.dst := fun o ho => by simp [writes, ho]
      have hnm : ∀ o, ops[j]? = some o → names ops j = o.dst.toList ++ o.looksAt ops := fun o ho => by simp [names, ho]
      obtain ⟨l1, l2, hpre⟩ := List.append_of_mem hjp
      obtain ⟨hp1, hp2⟩ := F.pp l1 j l2 hpre
      have hn1 : j ∉ l1 := by
        rw [hpre] at hpn
        intro hc
        exact (List.nodup_append.1 hpn).2.2 j hc j (by simp) rfl
      have hn2 : j ∉ l2 := by
        rw [hpre] at hpn
        exact (List.nodup_cons.1 (List.nodup_append.1 hpn).2.1).1
      -- who writes what this one names
      have c1 : ∀ k ∈ l1, ∀ t ∈ names ops j, writes ops k = some t → L.getD k false = true := by
        intro k hk t ht hw
        exact closed_clos hc hdir (hp1 k hk (by simp [conflict, hw, ht]))
      have c2 : ∀ k ∈ l2, ∀ t ∈ names ops j, writes ops k = some t → L.getD k false = false := by
        intro k hk t ht hw
        cases hL : L.getD k false with
        | false => rfl
        | true =>
          have := closed_clos hc (hc k hL) (hp2 k hk (by simp [conflict, hw, ht]))
          rw [h0] at this
          cases this
      have hsame : ∀ t ∈ names ops j, after ops xs (ltF L) pre st.env t = after ops xs (fun _ => true) l1 st.env t := by
        intro t ht
        rw [hpre, after_append]
        simp only [after]
        rw [show ltF L j = false from h0]
        simp only [Bool.false_eq_true, if_false]
        rw [after_none (L := ltF L) fun k hk hw => c2 k hk t ht hw]
        exact after_congr rfl fun k hk hw => c1 k hk t ht hw
      have hput : ∀ mm, St.put ⟨after ops xs (ltF L) pre st.env, mm⟩ o.dst (xs j) = ⟨after ops xs (ltF (L.setIfInBounds j true)) pre st.env, mm⟩ := by
        intro mm
        rw [put_upd]
        congr 1
        funext t
        by_cases hdt : o.dst = some t
        · have ht : t ∈ names ops j := by rw [hnm o ho, hdt]; simp
          rw [hdt]
          simp only [upd, if_true]
          rw [hpre, after_append]
          simp only [after]
          rw [show ltF (L.setIfInBounds j true) j = true from set_self (by omega)]
          simp only [if_true]
          rw [after_none]
          · rw [hwj o ho, hdt]; simp [upd]
          · intro k hk hw
            have hne : j ≠ k := fun e => hn2 (e ▸ hk)
            show (L.setIfInBounds j true).getD k false = false
            rw [getD_set_ne false hne]
            exact c2 k hk t ht hw
        · have e1 : upd (after ops xs (ltF L) pre st.env) o.dst (xs j) t = after ops xs (ltF L) pre st.env t := by
            cases hq : o.dst with
            | none => rfl
            | some d => simp only [upd]; rw [if_neg (fun e => hdt (by rw [hq, e]))]
          simp only
          rw [e1]
          refine after_congr rfl fun k hk hw => ?_
          have hne : j ≠ k := fun e => hdt (by rw [← hwj o ho, e, hw])
          exact (getD_set_ne false hne).symm
      have hstep : dstOK nt o.dst = true ∧ runs ops ⟨after ops xs (ltF L) pre st.env, M (ltF L)⟩ o = some true ∧ aop G false o (fun s => s = ⟨after ops xs (ltF (L.setIfInBounds j true)) pre st.env, M (ltF (L.setIfInBounds j true))⟩) ⟨after ops xs (ltF L) pre st.env, M (ltF L)⟩ := by
        obtain ⟨o', ho', hg, hd, hyc, hyf⟩ := htold l1 j l2 hpre
        rw [ho] at ho'
        cases ho'
        refine ⟨hd, by simp [runs, hg], ?_⟩
        have opn : ∀ (mm : Mem), ∀ y ∈ o.op.operands, St.ev ⟨after ops xs (ltF L) pre st.env, mm⟩ y = St.ev ⟨after ops xs (fun _ => true) l1 st.env, mm⟩ y := by
          intro mm y hyo
          cases y <;> simp only [St.ev]
          rename_i t
          have ht : t ∈ names ops j := by
            rw [hnm o ho]
            exact List.mem_append_right _ (List.mem_append_left _ (List.mem_filterMap.2 ⟨.tmp t, by simpa using hyo, rfl⟩))
          exact hsame t ht
        cases hcj : ch.contains j with
        | false =>
          have hjc : j ∉ ch := by simpa using hcj
          have hcn : ch.countP (ltF (L.setIfInBounds j true)) = ch.countP (ltF L) := List.countP_congr fun k hk => by
            have hne : j ≠ k := fun e => hjc (by rw [e]; exact hk)
            show (L.setIfInBounds j true).getD k false = true ↔ L.getD k false = true
            rw [getD_set_ne false hne]
          have hlt2 : ch.countP (ltF L) < ms.length := by have := List.countP_le_length (p := ltF L) (l := ch); omega
          have hr := List.all_eq_true.1 hrg j hjp
          simp only [hcj, Bool.false_or, Bool.and_eq_true, decide_eq_true_eq] at hr
          obtain ⟨hr1, hr2⟩ := hr
          have hlo : (rg.getD j (0, ch.length)).1 ≤ ch.countP (ltF L) := Nat.le_trans hr1 (List.countP_mono_left fun y _ hy => closed_clos hc hdir (by simpa using hy))
          have hhi : ch.countP (ltF L) ≤ (rg.getD j (0, ch.length)).2 := Nat.le_trans (List.countP_mono_left fun y _ hy => by
            cases hq : ((clos ops ops.size).getD y []).contains j with
            | false => rfl
            | true =>
              have := closed_clos hc (hc y hy) (x := j) (by simpa using hq)
              rw [h0] at this
              cases this) hr2
          have hM : M (ltF L) ∈ (ms.take ((rg.getD j (0, ch.length)).2 + 1)).drop (rg.getD j (0, ch.length)).1 := by
            show (ms[ch.countP (ltF L)]?).getD st.mem ∈ _
            rw [List.getElem?_eq_getElem hlt2]
            refine List.mem_of_getElem? (i := ch.countP (ltF L) - (rg.getD j (0, ch.length)).1) ?_
            rw [List.getElem?_drop, List.getElem?_take_of_lt (by omega), show (rg.getD j (0, ch.length)).1 + (ch.countP (ltF L) - (rg.getD j (0, ch.length)).1) = ch.countP (ltF L) by omega, List.getElem?_eq_getElem hlt2]
            rfl
          have hM2 : M (ltF (L.setIfInBounds j true)) = M (ltF L) := by
            show (ms[ch.countP (ltF (L.setIfInBounds j true))]?).getD st.mem = (ms[ch.countP (ltF L)]?).getD st.mem
            rw [hcn]
          rw [hM2]
          exact yields_to (hyf hcj _ hM) _ (opn _) _ (hput _)
        | true =>
          have hjc : j ∈ ch := by simpa using hcj
          obtain ⟨c1, c2, hch⟩ := List.append_of_mem hjc
          have hjn1 : j ∉ c1 := by
            rw [hch] at hchnd
            intro hq
            exact (List.nodup_append.1 hchnd).2.2 j hq j (by simp) rfl
          have hjn2 : j ∉ c2 := by
            rw [hch] at hchnd
            exact (List.nodup_cons.1 (List.nodup_append.1 hchnd).2.1).1
          obtain ⟨hcp1, hcp2⟩ := pairsB_split hchain c1 j c2 hch
          have d1 : ∀ k ∈ c1, ltF L k = true := fun k hk => closed_clos hc hdir (by simpa using hcp1 k hk)
          have d2 : ∀ k ∈ c2, ltF L k = false := by
            intro k hk
            cases hL : ltF L k with
            | false => rfl
            | true =>
              have := closed_clos hc (hc k hL) (by simpa using hcp2 k hk)
              rw [h0] at this
              cases this
          have n1 : ch.countP (ltF L) = c1.length := by rw [hch]; exact chain_count d1 h0 d2
          have n2 : ch.countP (ltF (L.setIfInBounds j true)) = c1.length + 1 := by
            have e2 : ∀ k, j ≠ k → ltF (L.setIfInBounds j true) k = ltF L k := fun k hne => getD_set_ne false hne
            rw [hch, List.countP_append, List.countP_cons, show ltF (L.setIfInBounds j true) j = true from set_self (by omega),
              List.countP_eq_length.2 (fun k hk => by rw [e2 k (fun e => hjn1 (e ▸ hk))]; exact d1 k hk), List.countP_eq_zero.2 (fun k hk => by rw [e2 k (fun e => hjn2 (e ▸ hk)), d2 k hk]; decide)]
            simp
          obtain ⟨m, m', q1, q2, hy⟩ := hyc hcj
          rw [hch, idxOf_split hjn1] at q1 q2
          have hM : M (ltF L) = m := by
            show (ms[ch.countP (ltF L)]?).getD st.mem = m
            rw [n1, q1]
            rfl
          have hM2 : M (ltF (L.setIfInBounds j true)) = m' := by
            show (ms[ch.countP (ltF (L.setIfInBounds j true))]?).getD st.mem = m'
            rw [n2, q2]
            rfl
          rw [hM, hM2]
          exact yields_to hy _ (opn _) _ (hput _)
      obtain ⟨hd, hrun, hst⟩ := hstep
      refine wpOp_of V ho (K := fun s => s = ⟨after ops xs (ltF (L.setIfInBounds j true)) pre st.env, M (ltF (L.setIfInBounds j true))⟩) R hd (.inl ⟨hrun, hst⟩) ?_
      · rintro D st' a' rfl R' Kp hn W'
        refine ih _ D a' ?_ (by simp [hs]) (closed_set hc hdir) ?_ R' (K0.trans Kp) (hn.trans hN) (W.trans W')
        · have mono : ∀ l : List Nat, l.countP (fun i => !(L.setIfInBounds j true).getD i false) ≤ l.countP (fun i => !L.getD i false) := by
            intro l
            refine List.countP_mono_left fun i _ h => ?_
            cases hL : L.getD i false with
            | false => rfl
            | true => rw [getD_set_true hL] at h; cases h
          have h1 := mono l1
          have h2 := mono l2
          rw [hpre, List.countP_append, List.countP_cons] at hlen ⊢
          rw [h0] at hlen
          rw [set_self (by omega)]
          simp only [Bool.not_false, Bool.not_true, if_true, Bool.false_eq_true, if_false] at hlen ⊢
          omega
        · intro i hi
          have hne : j ≠ i := by
            intro e
            have := (List.nodup_append.1 F.nodup).2.2 j hjp i hi
            exact this e
          rw [getD_set_ne false hne]
          exact hout i hi
  -- the draw
  refine wp_region_any hm ?_
  obtain ⟨C', hw, hn, Kp, Mm, W', hR⟩ := Nxt.still (R := fun D => ∀ t, RV D (st.env t) (a.tmps.getD t undef)) R.mem { C.w with drawn := C.w.drawn + 1 } rfl rfl rfl rfl (fun D hK _ _ _ _ _ t => (R.env t).keep hK)
  have e : after ops xs (ltF (Array.replicate ops.size false)) pre st.env = st.env := by
    funext t
    refine after_none fun i _ _ => ?_
    simp only [ltF]
    by_cases hlt : i < ops.size
    · simp [hlt]
    · simp [hlt]
  have e0 : M (ltF (Array.replicate ops.size false)) = st.mem := by
    have : ch.countP (ltF (Array.replicate ops.size false)) = 0 := List.countP_eq_zero.2 fun b _ => by
      simp only [ltF]
      by_cases hlt : b < ops.size
      · simp [hlt]
      · simp [hlt]
    show (ms[ch.countP (ltF (Array.replicate ops.size false))]?).getD st.mem = st.mem
    rw [this, hm0]
    rfl
  have := key ops.size (Array.replicate ops.size false) C' a ?_ (by simp) ?_ ?_ ⟨by rw [e0]; exact Mm, by rw [e]; exact hR, R.size, R.defers⟩ (K0.trans Kp) (hn.trans hN) (hw ▸ W.trans W')
  · rw [hw] at this
    exact this
  · have h1 : (pre ++ suf).length ≤ ops.size := by
      have := List.Nodup.length_le_of_subset F.nodup (l₂ := List.range ops.size) fun i hi => List.mem_range.2 (F.bound i hi)
      simpa using this
    have h2 := List.countP_le_length (p := fun i => !(Array.replicate ops.size false).getD i false) (l := pre)
    simp only [List.length_append] at h1
    omega
  · intro k hk
    exfalso
    by_cases hlt : k < ops.size
    · simp [hlt] at hk
    · simp [hlt] at hk
  · intro i hi
    by_cases hlt : i < ops.size
    · simp [hlt]
    · simp [hlt]

/-! ### Operations that turn the memory as they will, others beside them -/

def ToldM (G : Cfg) (nt : Nat) (ops : Array Oper) (MM : Mem → Prop) (i : Nat) (e : Nat → AV) (x : AV) : Prop :=
  ∃ o, ops[i]? = some o ∧ o.guard = none ∧ dstOK nt o.dst = true ∧ ∀ m, MM m → yieldsTo G o x e m m
theorem apreM_told {G : Cfg} {nt : Nat} {ops : Array Oper} {MM : Mem → Prop} {K : (Nat → AV) → Prop} : ∀ {l : List Nat} {ys : List AV} {e : Nat → AV}, l.Nodup → apreM G nt ops MM l ys e K → ∃ xs : Nat → AV,
    (∀ l1 i l2, l = l1 ++ i :: l2 → ToldM G nt ops MM i (after ops xs (fun _ => true) l1 e) (xs i)) ∧ K (after ops xs (fun _ => true) l e)
  | [], ys, e, _, h => ⟨fun _ => .dead, fun l1 i l2 e => by simp at e, h⟩
  | _ :: _, [], _, _, h => h.elim
  | i :: l, x :: ys, e, hn, h => by
    obtain ⟨hni, hn⟩ := List.nodup_cons.1 hn
    simp only [apreM] at h
    split at h
    · exact h.elim
    rename_i o ho
    obtain ⟨⟨hg, hd⟩, hy, hK⟩ := h
    have hwr : writes ops i = o.dst := by simp [writes, ho]
    rw [put_upd] at hK
    obtain ⟨xs, h1, h2⟩ := apreM_told hn hK
    refine ⟨fun k => if k = i then x else xs k, ?_, ?_⟩
    · intro l1 k l2 e2
      cases l1 with
      | nil =>
        simp only [List.nil_append, List.cons.injEq] at e2
        obtain ⟨rfl, rfl⟩ := e2
        simp only [after, if_pos]
        exact ⟨o, ho, hg, hd, hy⟩
      | cons b l1 =>
        simp only [List.cons_append, List.cons.injEq] at e2
        obtain ⟨rfl, rfl⟩ := e2
        have hk : k ≠ i := fun e => hni (by rw [← e]; simp)
        have := h1 l1 k l2 rfl
        simp only [after, if_neg hk, hwr, if_pos]
        rw [after_xs (ys := xs) (fun j hj => if_neg (fun e => hni (by rw [← e]; simp [hj])))]
        exact this
    · simp only [after, hwr, if_pos]
      rw [after_xs (ys := xs) (fun j hj => if_neg (fun e => hni (by rw [← e]; exact hj)))]
      exact h2
/-- A slot that none of them writes may be written before or behind them. -/
theorem after_upd {ops : Array Oper} {xs : Nat → AV} {L : Nat → Bool} {d : Option Tmp} {x : AV} : ∀ {l : List Nat} {e : Nat → AV}, (∀ i ∈ l, ∀ t, d = some t → writes ops i ≠ some t) → after ops xs L l (upd e d x) = upd (after ops xs L l e) d x
  | [], _, _ => rfl
  | i :: l, e, h => by
    simp only [after]
    have hc : upd (upd e d x) (writes ops i) (xs i) = upd (upd e (writes ops i) (xs i)) d x := by
      funext t
      cases hd : d with
      | none => rfl
      | some t1 =>
        cases hw : writes ops i with
        | none => rfl
        | some t2 =>
          have hne : t2 ≠ t1 := fun e => h i (by simp) t1 hd (by rw [hw, e])
          simp only [upd]
          by_cases h1 : t = t1
          · subst h1
            simp [Ne.symm hne]
          · simp [h1]
    by_cases hL : L i = true
    · rw [if_pos hL, if_pos hL, hc]
      exact after_upd fun k hk => h k (by simp [hk])
    · rw [if_neg hL, if_neg hL]
      exact after_upd fun k hk => h k (by simp [hk])

theorem draw_soundI {G : Cfg} (V : G.Vers) (hm : G.P.follows .mixedOrders = true) : ∀ (nt base : Nat) (bx0 : List Nat) (id : Nat) (ops : Array Oper) (K : St → Prop) (C0 C : Ctx) (st : St) (a : Act), Rel G nt base bx0 C st a → Keeps C0 C → C.N0 = C0.N0 → WExt base bx0 C0.w C.w → adrawI G nt ops K st →
    (Code.region id ops true).wp G.P (Post G nt base bx0 C0 fun e st' => e = .normal ∧ K st') a C.w := by
  intro nt base bx0 id ops K C0 C st a R K0 hN W h
  obtain ⟨pre, ch, suf, MM, ys, hok, hm0, h⟩ := h
  simp only [drawIOK, Bool.and_eq_true] at hok
  obtain ⟨⟨hok, hchain⟩, hpc⟩ := hok
  have F := fine_of hok
  have hpcn : (pre ++ ch).Nodup := (List.nodup_append.1 F.nodup).1
  have hpn : pre.Nodup := (List.nodup_append.1 hpcn).1
  have hcn : ch.Nodup := (List.nodup_append.1 hpcn).2.1
  have hdis : ∀ i ∈ pre, ∀ j ∈ ch, i ≠ j := (List.nodup_append.1 hpcn).2.2
  have hpcw : ∀ i ∈ pre, ∀ j ∈ ch, j ∉ (clos ops ops.size).getD i [] ∧ ∀ t, writes ops j = some t → t ∉ names ops i := by
    intro i hi j hj
    have := List.all_eq_true.1 (List.all_eq_true.1 hpc i hi) j hj
    simp only [Bool.and_eq_true, Bool.not_eq_true', List.contains_eq_mem, decide_eq_false_iff_not] at this
    refine ⟨this.1, fun t ht hm => ?_⟩
    have h2 := this.2
    unfold wrIn at h2
    rw [ht] at h2
    simp [hm] at h2
  have hnm : ∀ (j : Nat) (o : Oper), ops[j]? = some o → names ops j = o.dst.toList ++ o.looksAt ops := fun j o ho => by simp [names, ho]
  have hwj : ∀ (j : Nat) (o : Oper), ops[j]? = some o → writes ops j = o.dst := fun j o ho => by simp [writes, ho]
  -- the chain writes no slot that one of the others writes
  have hchw : ∀ j ∈ ch, ∀ i ∈ pre, ∀ t, writes ops j = some t → writes ops i ≠ some t := by
    intro j hj i hi t ht hw
    refine (hpcw i hi j hj).2 t ht ?_
    cases ho : ops[i]? with
    | none => simp [writes, ho] at hw
    | some o => rw [hnm i o ho, ← hwj i o ho, hw]; simp
  obtain ⟨xs, htold, hend⟩ := apreM_told hpn h
  have key : ∀ (fuel : Nat) (L : Array Bool) (d2 : List Nat) (e1 : Nat → AV) (m1 : Mem) (C : Ctx) (a : Act), (pre ++ ch).countP (fun i => !L.getD i false) + suf.length ≤ fuel → L.size = ops.size → Closed ops L → (∀ i ∈ suf, L.getD i false = false) →
      (∃ d1, ch = d1 ++ d2 ∧ (∀ j ∈ d1, L.getD j false = true) ∧ ∀ j ∈ d2, L.getD j false = false) → (∀ i ∈ pre, ∀ t ∈ names ops i, e1 t = st.env t) → MM m1 →
      achM G nt ops MM d2 (asuf G nt ops suf K) ⟨after ops xs (fun _ => true) pre e1, m1⟩ →
      Rel G nt base bx0 C ⟨after ops xs (ltF L) pre e1, m1⟩ a → Keeps C0 C → C.N0 = C0.N0 → WExt base bx0 C0.w C.w →
      wpAny G.P .any ops (Post G nt base bx0 C0 fun e st' => e = .normal ∧ K st') fuel L a C.w := by
    have toSuf : ∀ (fuel : Nat) (L : Array Bool) (d2 : List Nat) (e1 : Nat → AV) (m1 : Mem) (C : Ctx) (a : Act), suf.length ≤ fuel → L.size = ops.size → Closed ops L → (∀ i ∈ suf, L.getD i false = false) →
        (∃ d1, ch = d1 ++ d2 ∧ (∀ j ∈ d1, L.getD j false = true) ∧ ∀ j ∈ d2, L.getD j false = false) → (∀ i ∈ pre ++ ch, L.getD i false = true) →
        achM G nt ops MM d2 (asuf G nt ops suf K) ⟨after ops xs (fun _ => true) pre e1, m1⟩ →
        Rel G nt base bx0 C ⟨after ops xs (ltF L) pre e1, m1⟩ a → Keeps C0 C → C.N0 = C0.N0 → WExt base bx0 C0.w C.w →
        wpAny G.P .any ops (Post G nt base bx0 C0 fun e st' => e = .normal ∧ K st') fuel L a C.w := by
      intro fuel L d2 e1 m1 C a hlen hs hc hout hd hin hK R K0 hN W
      obtain ⟨d1, hch, _, hd2⟩ := hd
      have h0 : d2 = [] := by
        cases d2 with
        | nil => rfl
        | cons j d2 =>
          have h1 := hd2 j (by simp)
          rw [hin j (by rw [hch]; simp)] at h1
          cases h1
      subst h0
      have e : after ops xs (ltF L) pre e1 = after ops xs (fun _ => true) pre e1 := by
        funext t
        exact after_congr rfl fun i hi _ => hin i (by simp [hi])
      rw [e] at R
      exact suf_sound V F (fun D st' a' hK R' K' hN' W' => ⟨D, st', rfl, ⟨rfl, hK⟩, R', K', hN', W'⟩) fuel [] suf L C _ a rfl hlen hs hc (by simpa using hin) hout R K0 hN W hK
    intro fuel
    induction fuel with
    | zero =>
      intro L d2 e1 m1 C a hlen hs hc hout hd he hmm hK R K0 hN W
      refine toSuf 0 L d2 e1 m1 C a (by omega) hs hc hout hd ?_ hK R K0 hN W
      have : (pre ++ ch).countP (fun i => !L.getD i false) = 0 := by omega
      rw [List.countP_eq_zero] at this
      intro i hi
      simpa using this i hi
    | succ fuel ih =>
      intro L d2 e1 m1 C a hlen hs hc hout hd he hmm hK R K0 hN W
      by_cases hall : ∀ i ∈ pre ++ ch, L.getD i false = true
      · exact toSuf (fuel + 1) L d2 e1 m1 C a (by omega) hs hc hout hd hall hK R K0 hN W
      refine ⟨fun hr => (hall fun i hi => ready_nil F hs hr i (F.bound i (List.mem_append_left _ hi))).elim, ?_⟩
      intro j hj
      obtain ⟨h0, ⟨o, ho⟩, hdir⟩ := ready_direct hj
      have hlt : j < ops.size := (Array.getElem?_eq_some_iff.1 ho).1
      rw [getD_tf (by omega)] at h0
      have hjp : j ∈ pre ++ ch := by
        rcases List.mem_append.1 (F.all j hlt) with h | h
        · exact h
        · exact (hall fun i hi => closed_clos hc hdir (F.sp j h i hi)).elim
      have count : (pre ++ ch).countP (fun i => !(L.setIfInBounds j true).getD i false) + 1 ≤ (pre ++ ch).countP (fun i => !L.getD i false) := by
        obtain ⟨l1, l2, hl⟩ := List.append_of_mem hjp
        have mono : ∀ l : List Nat, l.countP (fun i => !(L.setIfInBounds j true).getD i false) ≤ l.countP (fun i => !L.getD i false) := by
          intro l
          refine List.countP_mono_left fun i _ h => ?_
          cases hL : L.getD i false with
          | false => rfl
          | true => rw [getD_set_true hL] at h; cases h
        have h1 := mono l1
        have h2 := mono l2
        rw [hl, List.countP_append, List.countP_cons, List.countP_append, List.countP_cons, h0, set_self (by omega)]
        simp only [Bool.not_false, Bool.not_true, if_true, Bool.false_eq_true, if_false]
        omega
      have hout' : ∀ i ∈ suf, (L.setIfInBounds j true).getD i false = false := by
        intro i hi
        have hne : j ≠ i := by
          intro e
          exact (List.nodup_append.1 F.nodup).2.2 j hjp i hi e
        rw [getD_set_ne false hne]
        exact hout i hi
      have same : ∀ k, j ≠ k → ltF (L.setIfInBounds j true) k = ltF L k := fun k hne => getD_set_ne false hne
      rcases List.mem_append.1 hjp with hjpre | hjch
      · -- one that yields the same anywhere
        obtain ⟨l1, l2, hpre⟩ := List.append_of_mem hjpre
        have hsplit : pre ++ ch = l1 ++ j :: (l2 ++ ch) := by rw [hpre]; simp
        obtain ⟨hp1, hp2⟩ := F.pp l1 j (l2 ++ ch) hsplit
        have hn1 : j ∉ l1 := by
          rw [hpre] at hpn
          intro hc
          exact (List.nodup_append.1 hpn).2.2 j hc j (by simp) rfl
        have hn2 : j ∉ l2 := by
          rw [hpre] at hpn
          exact (List.nodup_cons.1 (List.nodup_append.1 hpn).2.1).1
        have c1 : ∀ k ∈ l1, ∀ t ∈ names ops j, writes ops k = some t → L.getD k false = true := by
          intro k hk t ht hw
          exact closed_clos hc hdir (hp1 k hk (by simp [conflict, hw, ht]))
        have c2 : ∀ k ∈ l2, ∀ t ∈ names ops j, writes ops k = some t → L.getD k false = false := by
          intro k hk t ht hw
          cases hL : L.getD k false with
          | false => rfl
          | true =>
            have := closed_clos hc (hc k hL) (hp2 k (List.mem_append_left _ hk) (by simp [conflict, hw, ht]))
            rw [h0] at this
            cases this
        have hsame : ∀ t ∈ names ops j, after ops xs (ltF L) pre e1 t = after ops xs (fun _ => true) l1 st.env t := by
          intro t ht
          rw [hpre, after_append]
          simp only [after]
          rw [show ltF L j = false from h0]
          simp only [Bool.false_eq_true, if_false]
          rw [after_none (L := ltF L) fun k hk hw => c2 k hk t ht hw]
          exact after_congr (he j hjpre t ht) fun k hk hw => c1 k hk t ht hw
        have hput : ∀ mm, St.put ⟨after ops xs (ltF L) pre e1, mm⟩ o.dst (xs j) = ⟨after ops xs (ltF (L.setIfInBounds j true)) pre e1, mm⟩ := by
          intro mm
          rw [put_upd]
          congr 1
          funext t
          by_cases hdt : o.dst = some t
          · have ht : t ∈ names ops j := by rw [hnm j o ho, hdt]; simp
            rw [hdt]
            simp only [upd, if_true]
            rw [hpre, after_append]
            simp only [after]
            rw [show ltF (L.setIfInBounds j true) j = true from set_self (by omega)]
            simp only [if_true]
            rw [after_none]
            · rw [hwj j o ho, hdt]; simp [upd]
            · intro k hk hw
              have hne : j ≠ k := fun e => hn2 (e ▸ hk)
              rw [same k hne]
              exact c2 k hk t ht hw
          · have e1' : upd (after ops xs (ltF L) pre e1) o.dst (xs j) t = after ops xs (ltF L) pre e1 t := by
              cases hq : o.dst with
              | none => rfl
              | some d => simp only [upd]; rw [if_neg (fun e => hdt (by rw [hq, e]))]
            simp only
            rw [e1']
            refine after_congr rfl fun k hk hw => ?_
            have hne : j ≠ k := fun e => hdt (by rw [← hwj j o ho, e, hw])
            exact (same k hne).symm
        obtain ⟨o', ho', hg, hdd, hy⟩ := htold l1 j l2 hpre
        rw [ho] at ho'
        cases ho'
        have opn : ∀ y ∈ o.op.operands, St.ev ⟨after ops xs (ltF L) pre e1, m1⟩ y = St.ev ⟨after ops xs (fun _ => true) l1 st.env, m1⟩ y := by
          intro y hyo
          cases y <;> simp only [St.ev]
          rename_i t
          have ht : t ∈ names ops j := by
            rw [hnm j o ho]
            exact List.mem_append_right _ (List.mem_append_left _ (List.mem_filterMap.2 ⟨.tmp t, by simpa using hyo, rfl⟩))
          exact hsame t ht
        have hst : aop G false o (fun s => s = ⟨after ops xs (ltF (L.setIfInBounds j true)) pre e1, m1⟩) ⟨after ops xs (ltF L) pre e1, m1⟩ := yields_to (hy m1 hmm) _ opn _ (hput _)
        refine wpOp_of V ho (K := fun s => s = ⟨after ops xs (ltF (L.setIfInBounds j true)) pre e1, m1⟩) R hdd (.inl ⟨by simp [runs, hg], hst⟩) ?_
        rintro D st' a' rfl R' Kp hn W'
        refine ih _ d2 e1 m1 D a' (by omega) (by simp [hs]) (closed_set hc hdir) hout' ?_ he hmm hK R' (K0.trans Kp) (hn.trans hN) (W.trans W')
        obtain ⟨d1, hch, hd1, hd2⟩ := hd
        refine ⟨d1, hch, fun k hk => getD_set_true (hd1 k hk), fun k hk => ?_⟩
        have hne : j ≠ k := hdis j hjpre k (by rw [hch]; simp [hk])
        rw [getD_set_ne false hne]
        exact hd2 k hk
      · -- one of the chain
        obtain ⟨d1, hch, hd1, hd2⟩ := hd
        have hjd2 : j ∈ d2 := by
          rw [hch] at hjch
          rcases List.mem_append.1 hjch with h | h
          · have := hd1 j h; rw [h0] at this; cases this
          · exact h
        cases d2 with
        | nil => cases hjd2
        | cons x d2 =>
          have hjx : j = x := by
            rcases List.mem_cons.1 hjd2 with h | h
            · exact h
            · exfalso
              obtain ⟨_, hcp2⟩ := pairsB_split hchain d1 x d2 hch
              have h1 := closed_clos hc hdir (x := x) (by simpa using hcp2 j h)
              rw [hd2 x (by simp)] at h1
              cases h1
          subst hjx
          simp only [achM, ho] at hK
          obtain ⟨⟨hg, hdd⟩, hop⟩ := hK
          have hsplit : pre ++ ch = (pre ++ d1) ++ j :: d2 := by rw [hch]; simp
          obtain ⟨hp1, hp2⟩ := F.pp (pre ++ d1) j d2 hsplit
          have opn : ∀ y ∈ o.op.operands, St.ev ⟨after ops xs (ltF L) pre e1, m1⟩ y = St.ev ⟨after ops xs (fun _ => true) pre e1, m1⟩ y := by
            intro y hyo
            cases y <;> simp only [St.ev]
            rename_i t
            have ht : t ∈ names ops j := by
              rw [hnm j o ho]
              exact List.mem_append_right _ (List.mem_append_left _ (List.mem_filterMap.2 ⟨.tmp t, by simpa using hyo, rfl⟩))
            refine after_congr rfl fun k hk hw => ?_
            exact closed_clos hc hdir (hp1 k (List.mem_append_left _ hk) (by simp [conflict, hw, ht]))
          have hst := aop_env hop opn
          have hup : ∀ (L' : Nat → Bool) (x : AV), after ops xs L' pre (upd e1 o.dst x) = upd (after ops xs L' pre e1) o.dst x := fun L' x => after_upd fun i hi t ht hw => hchw j hjch i hi t (by rw [hwj j o ho]; exact ht) hw
          refine wpOp_of V ho R hdd (.inl ⟨by simp [runs, hg], hst⟩) ?_
          rintro D st' a' ⟨x, m2, rfl, hMM, hK2⟩ R' Kp hn W'
          rw [put_upd] at hK2 R'
          rw [put_upd] at hMM
          simp only at hK2 R' hMM
          rw [← hup] at hK2 R'
          have e2 : after ops xs (ltF L) pre (upd e1 o.dst x) = after ops xs (ltF (L.setIfInBounds j true)) pre (upd e1 o.dst x) := by
            funext t
            refine after_congr rfl fun k hk _ => ?_
            exact (same k fun e => hdis k hk j hjch e.symm).symm
          rw [e2] at R'
          refine ih _ d2 (upd e1 o.dst x) m2 D a' (by omega) (by simp [hs]) (closed_set hc hdir) hout' ?_ ?_ hMM hK2 R' (K0.trans Kp) (hn.trans hN) (W.trans W')
          · refine ⟨d1 ++ [j], by rw [hch]; simp, ?_, ?_⟩
            · intro k hk
              rcases List.mem_append.1 hk with h | h
              · exact getD_set_true (hd1 k h)
              · simp only [List.mem_singleton] at h
                subst h
                exact set_self (by omega)
            · intro k hk
              have hne : j ≠ k := by
                rw [hch] at hcn
                exact fun e => (List.nodup_cons.1 (List.nodup_append.1 hcn).2.1).1 (e ▸ hk)
              rw [getD_set_ne false hne]
              exact hd2 k (by simp [hk])
          · intro i hi t ht
            have hno : o.dst ≠ some t := fun e => (hpcw i hi j hjch).2 t (by rw [hwj j o ho]; exact e) ht
            have : upd e1 o.dst x t = e1 t := by
              cases hq : o.dst with
              | none => rfl
              | some d => simp only [upd]; rw [if_neg (fun e => hno (by rw [hq, e]))]
            rw [this]
            exact he i hi t ht
  -- the draw
  refine wp_region_any hm ?_
  obtain ⟨C', hw, hn, Kp, Mm, W', hR⟩ := Nxt.still (R := fun D => ∀ t, RV D (st.env t) (a.tmps.getD t undef)) R.mem { C.w with drawn := C.w.drawn + 1 } rfl rfl rfl rfl (fun D hK _ _ _ _ _ t => (R.env t).keep hK)
  have allF : ∀ i, ltF (Array.replicate ops.size false) i = false := by
    intro i
    simp only [ltF]
    by_cases hlt : i < ops.size
    · simp [hlt]
    · simp [hlt]
  have e : after ops xs (ltF (Array.replicate ops.size false)) pre st.env = st.env := by
    funext t
    exact after_none fun i _ _ => allF i
  have := key ops.size (Array.replicate ops.size false) ch st.env st.mem C' a ?_ (by simp) ?_ ?_ ⟨[], rfl, fun j h => (by cases h), fun j _ => allF j⟩ (fun _ _ _ _ => rfl) hm0 hend ⟨Mm, by rw [e]; exact hR, R.size, R.defers⟩ (K0.trans Kp) (hn.trans hN) (hw ▸ W.trans W')
  · rw [hw] at this
    exact this
  · have h1 : ((pre ++ ch) ++ suf).length ≤ ops.size := by
      have := List.Nodup.length_le_of_subset F.nodup (l₂ := List.range ops.size) fun i hi => List.mem_range.2 (F.bound i hi)
      simpa using this
    have h2 := List.countP_le_length (p := fun i => !(Array.replicate ops.size false).getD i false) (l := pre ++ ch)
    rw [List.length_append] at h1
    omega
  · intro k hk
    have := allF k
    simp only [ltF] at this
    rw [this] at hk
    cases hk
  · intro i _
    exact allF i

theorem draw_sound {G : Cfg} (V : G.Vers) (hm : G.P.follows .mixedOrders = true) : DrawSound G := by
  intro nt base bx0 id ops K C0 C st a R K0 hN W h
  rcases h with h | h | h | h
  rotate_right
  · exact draw_soundI V hm nt base bx0 id ops K C0 C st a R K0 hN W h
  · exact draw_soundS V hm nt base bx0 id ops K C0 C st a R K0 hN W h
  · exact draw_soundF V hm nt base bx0 id ops K C0 C st a R K0 hN W h
  · exact draw_soundH V hm nt base bx0 id ops K C0 C st a R K0 hN W h

end Go.Proofs.YtokhnmchnfkiiaaDoor.Am

/- The abstract machine: rules by which a walk is told; functions from their code. No conditions. -/
namespace Go.Proofs.YtokhnmchnfkiiaaDoor.Am
open Go Go.RowKit
set_option linter.unusedSimpArgs false
set_option linter.unusedVariables false

/-! ### States -/

theorem put_env_self (st : St) (d : Nat) (x : AV) : (St.put st (some d) x).env d = x := by simp [St.put]
theorem put_env_ne (st : St) {d t : Nat} (x : AV) (h : t ≠ d) : (St.put st (some d) x).env t = st.env t := by simp [St.put, h]
theorem put_env_none (st : St) (x : AV) : (St.put st none x) = st := rfl
theorem put_mem (st : St) (d : Option Tmp) (x : AV) : (St.put st d x).mem = st.mem := by cases d <;> rfl
theorem mk_env (e : Nat → AV) (m : Mem) : (St.mk e m).env = e := rfl
theorem mk_mem (e : Nat → AV) (m : Mem) : (St.mk e m).mem = m := rfl

/-- Slots that are listed; the others are forgotten. -/
def envOf : List (Nat × AV) → Nat → AV
  | [], _ => .dead
  | (d, x) :: l, t => if t = d then x else envOf l t

theorem envOf_self (d : Nat) (x : AV) (l : List (Nat × AV)) : envOf ((d, x) :: l) d = x := by simp [envOf]
theorem envOf_ne {d t : Nat} (x : AV) (l : List (Nat × AV)) (h : t ≠ d) : envOf ((d, x) :: l) t = envOf l t := by simp [envOf, h]
theorem envOf_nil (t : Nat) : envOf [] t = .dead := rfl

/-- All that is listed is so. -/
def allSo (e : Nat → AV) : List (Nat × AV) → Prop
  | [] => True
  | (d, x) :: l => e d = x ∧ allSo e l

theorem allSo_nil (e : Nat → AV) : allSo e [] = True := rfl
theorem allSo_cons (e : Nat → AV) (d : Nat) (x : AV) (l : List (Nat × AV)) : allSo e ((d, x) :: l) = (e d = x ∧ allSo e l) := rfl

theorem envOf_so {e : Nat → AV} : ∀ {l : List (Nat × AV)}, allSo e l → ∀ t, envOf l t = e t ∨ envOf l t = .dead
  | [], _, _ => .inr rfl
  | (d, x) :: l, h, t => by
    simp only [envOf]
    split
    · rename_i e2; subst e2; exact .inl h.1.symm
    · exact envOf_so h.2 t

theorem less_envOf {st : St} {l : List (Nat × AV)} {m : Mem} (h : allSo st.env l) (hb : m.boxes = st.mem.boxes) (ha : ∀ i, m.arrs i = st.mem.arrs i) : Less st ⟨envOf l, m⟩ :=
  ⟨envOf_so h, hb, ha⟩

def zipEnv : Nat → List AV → List (Nat × AV)
  | _, [] => []
  | i, a :: l => (i, a) :: zipEnv (i + 1) l

theorem zipEnv_getD : ∀ (l : List AV) (i t : Nat), envOf (zipEnv i l) (i + t) = l.getD t .dead
  | [], i, t => by simp [zipEnv, envOf]
  | a :: l, i, 0 => by simp [zipEnv, envOf]
  | a :: l, i, t + 1 => by
    simp only [zipEnv, envOf]
    rw [if_neg (by omega)]
    have := zipEnv_getD l (i + 1) t
    rw [show i + 1 + t = i + (t + 1) by omega] at this
    simpa using this

theorem startEnv_eq (l : List AV) : startEnv l = envOf (zipEnv 0 l) := by
  funext t
  have := zipEnv_getD l 0 t
  simp only [Nat.zero_add] at this
  rw [this]
  rfl

/-! ### Code -/

section
variable {G : Cfg} {nt : Nat} {K : Exit → St → Prop} {st : St}

theorem acode_st {c : Code} {st' : St} (h : st = st') : acode G nt c K st = acode G nt c K st' := by rw [h]
theorem acode_skip : acode G nt .skip K st = K .normal st := rfl
theorem acode_ret : acode G nt .ret K st = K .ret st := rfl
theorem acode_exit (id : Nat) : acode G nt (.exit id) K st = K (.exit id) st := rfl
theorem acode_seq (a b : Code) : acode G nt (.seq a b) K st = acode G nt a (kSeq (acode G nt b K) K) st := rfl
theorem acode_block (id : Nat) (c : Code) : acode G nt (.block id c) K st = acode G nt c (kBlock id K) st := rfl
/-- A region of a law's function. -/
structure onRegion (G : Cfg) (nt : Nat) (l : List Oper) (L : St → Prop) (st : St) : Prop where
  out : aregion G nt l.toArray L st
theorem acode_region {P : Program} {own : Nat → Bool} {verT : TypeId → Bool} {wr : Nat → Bool} (id : Nat) (l : List Oper) : acode ⟨P, own, verT, wr, 0⟩ nt (.region id l.toArray false) K st = aops ⟨P, own, verT, wr, 0⟩ nt l.toArray l (K .normal) st := rfl
theorem acode_region2 {P : Program} {own : Nat → Bool} {verT : TypeId → Bool} {wr : Nat → Bool} (id : Nat) (l : List Oper) : acode ⟨P, own, verT, wr, 2⟩ nt (.region id l.toArray false) K st = aops ⟨P, own, verT, wr, 2⟩ nt l.toArray l (K .normal) st := rfl
theorem acode_region1 {P : Program} {own : Nat → Bool} {verT : TypeId → Bool} {wr : Nat → Bool} (id : Nat) (l : List Oper) : acode ⟨P, own, verT, wr, 1⟩ nt (.region id l.toArray false) K st = onRegion ⟨P, own, verT, wr, 1⟩ nt l (K .normal) st := propext ⟨fun h => ⟨h⟩, fun h => h.out⟩
theorem acode_regionX {P : Program} {own : Nat → Bool} {verT : TypeId → Bool} {wr : Nat → Bool} {md : Nat} (hmd : ¬ md = 1) (id : Nat) (l : List Oper) : acode ⟨P, own, verT, wr, md⟩ nt (.region id l.toArray false) K st = aops ⟨P, own, verT, wr, md⟩ nt l.toArray l (K .normal) st := by
  simp only [acode, aregion]
  rw [if_neg hmd]
theorem onRegion_st {l : List Oper} {L : St → Prop} {st' : St} (h : st = st') : onRegion G nt l L st = onRegion G nt l L st' := by rw [h]
theorem reg_a {P : Program} {own : Nat → Bool} {verT : TypeId → Bool} {wr : Nat → Bool} {l : List Oper} {L : St → Prop} (h : aops ⟨P, own, verT, wr, 1⟩ nt l.toArray l L st) : onRegion ⟨P, own, verT, wr, 1⟩ nt l L st := ⟨⟨st, .inl rfl, .inl h⟩⟩
theorem acode_draw (id : Nat) (ops : Array Oper) : acode G nt (.region id ops true) K st = adraw G nt ops (K .normal) st := rfl

/-- A choice. -/
def onBool (a : AV) (x y : Prop) : Prop := match a with
  | .v (.bool b) => (b = true → x) ∧ (b = false → y)
  | .any (.bool _) => x ∧ y
  | _ => False
theorem onBool_any (b : Bool) (x y : Prop) : onBool (.any (.bool b)) x y = (x ∧ y) := rfl
theorem onBool_c {a a' : AV} {x y : Prop} (h : a = a') : onBool a x y = onBool a' x y := by rw [h]
theorem onBool_b (b : Bool) (x y : Prop) : onBool (.v (.bool b)) x y = ((b = true → x) ∧ (b = false → y)) := rfl
theorem acode_cond (c : Operand) (x y : Code) : acode G nt (.cond c x y) K st = onBool (st.ev c) (acode G nt x K st) (acode G nt y K st) := rfl

theorem kSeq_st {f : St → Prop} {e : Exit} {st' : St} (h : st = st') : kSeq f K e st = kSeq f K e st' := by rw [h]
theorem kSeq_normal (f : St → Prop) : kSeq f K .normal st = f st := rfl
theorem kSeq_exit (f : St → Prop) (id : Nat) : kSeq f K (.exit id) st = K (.exit id) st := rfl
theorem kSeq_ret (f : St → Prop) : kSeq f K .ret st = K .ret st := rfl
theorem kBlock_st {id : Nat} {e : Exit} {st' : St} (h : st = st') : kBlock id K e st = kBlock id K e st' := by rw [h]
theorem kBlock_normal (id : Nat) : kBlock id K .normal st = K .normal st := rfl
theorem kBlock_same (id : Nat) : kBlock id K (.exit id) st = K .normal st := by simp [kBlock]
theorem kBlock_other (id id' : Nat) (h : id' ≠ id) : kBlock id K (.exit id') st = K (.exit id') st := by simp [kBlock, h]
theorem kBlock_ret (id : Nat) : kBlock id K .ret st = K .ret st := rfl

/-! ### Operations -/

variable {ops : Array Oper} {L : St → Prop} {dst : Option Tmp} {ty : TypeId} {pos : String} {aft : Array Edge}

theorem aops_st {l : List Oper} {st' : St} (h : st = st') : aops G nt ops l L st = aops G nt ops l L st' := by rw [h]
theorem aops_nil : aops G nt ops [] L st = L st := rfl
theorem aops_plain (op : Op) (rest : List Oper) : aops G nt ops (⟨dst, op, ty, pos, aft, none⟩ :: rest) L st = (dstOK nt dst = true ∧ aop G true ⟨dst, op, ty, pos, aft, none⟩ (aops G nt ops rest L) st) := by
  simp [aops, runs, byGuard]

/-- The slot of the guard decides. -/
def onGuard (a : Option AV) (want : Bool) (x y : Prop) : Prop := match a with
  | some (.v (.bool b)) => (b = want → x) ∧ (b = !want → y)
  | some (.v (.tuple _)) => y
  | _ => False
theorem onGuard_u (want : Bool) (x y : Prop) : onGuard (some (.v undef)) want x y = y := rfl
theorem onGuard_c {a a' : Option AV} {want : Bool} {x y : Prop} (h : a = a') : onGuard a want x y = onGuard a' want x y := by rw [h]
theorem onGuard_t (b : Bool) (x y : Prop) : onGuard (some (.v (.bool b))) true x y = ((b = true → x) ∧ (b = false → y)) := rfl
theorem onGuard_f (b : Bool) (x y : Prop) : onGuard (some (.v (.bool b))) false x y = ((b = false → x) ∧ (b = true → y)) := rfl
theorem byGuard_some (op : Op) (j : Nat) (want : Bool) (x y : Prop) : byGuard (runs ops st ⟨dst, op, ty, pos, aft, some (j, want)⟩) x y = onGuard (((ops[j]?).bind (·.dst)).map st.env) want x y := by
  simp only [runs]
  cases (ops[j]?).bind (·.dst) with
  | none => rfl
  | some t =>
    simp only [Option.map_some]
    cases st.env t with
    | v z =>
      cases z with
      | bool b => cases b <;> cases want <;> simp [byGuard, onGuard]
      | tuple u => simp [byGuard, onGuard]
      | _ => rfl
    | _ => rfl
theorem aops_guarded (op : Op) (j : Nat) (want : Bool) (rest : List Oper) : aops G nt ops (⟨dst, op, ty, pos, aft, some (j, want)⟩ :: rest) L st =
    (dstOK nt dst = true ∧ onGuard (((ops[j]?).bind (·.dst)).map st.env) want (aop G true ⟨dst, op, ty, pos, aft, some (j, want)⟩ (aops G nt ops rest L) st) (aops G nt ops rest L (st.put dst (.v undef)))) := by
  rw [← byGuard_some (dst := dst) (ty := ty) (pos := pos) (aft := aft) op]
  rfl

/-- A value is put into the slot. -/
def onVal (a : Option AV) (dst : Option Tmp) (L : St → Prop) (st : St) : Prop := match a with
  | some x => L (st.put dst x)
  | none => False
theorem onVal_c {a a' : Option AV} (h : a = a') : onVal a dst L st = onVal a' dst L st := by rw [h]
theorem onVal_some (x : AV) : onVal (some x) dst L st = L (st.put dst x) := rfl
/-- A value, and new memory. -/
def onMem (a : Option (AV × Mem)) (dst : Option Tmp) (L : St → Prop) (st : St) : Prop := match a with
  | some (x, m) => L (St.put ⟨st.env, m⟩ dst x)
  | none => False
theorem onMem_c {a a' : Option (AV × Mem)} (h : a = a') : onMem a dst L st = onMem a' dst L st := by rw [h]
theorem onVal_none : onVal none dst L st = False := rfl
theorem onMem_none : onMem none dst L st = False := rfl
theorem onMem_some (x : AV) (m : Mem) : onMem (some (x, m)) dst L st = L (St.put ⟨st.env, m⟩ dst x) := rfl

variable {gd : Option (Nat × Bool)} {ic : Bool}
theorem aop_st {o : Oper} {st' : St} (h : st = st') : aop G ic o L st = aop G ic o L st' := by rw [h]
theorem aop_val {o : Oper} {a : Option AV} (hc : ∀ x args tys, o.op ≠ .call ⟨.value x, args, tys⟩) (h : aval G o st = a.map (·, st.mem)) : aop G ic o L st = onVal a o.dst L st := by
  have e : aop G ic o L st = match aval G o st with | some (x, m') => L ({ st with mem := m' }.put o.dst x) | none => False := by
    unfold aop
    split
    · rename_i x args tys hop
      exact (hc _ _ _ hop).elim
    · rfl
  rw [e, h]
  cases a <;> rfl
theorem aop_mem {o : Oper} (hc : ∀ x args tys, o.op ≠ .call ⟨.value x, args, tys⟩) : aop G ic o L st = onMem (aval G o st) o.dst L st := by
  unfold aop
  split
  · rename_i x args tys hop
    exact (hc _ _ _ hop).elim
  · rfl

theorem aop_move (x : Operand) : aop G ic ⟨dst, .move x, ty, pos, aft, gd⟩ L st = L (st.put dst (st.ev x)) := rfl
theorem aop_assign (x : Operand) : aop G ic ⟨dst, .assign x, ty, pos, aft, gd⟩ L st = L (st.put dst (st.ev x)) := rfl
theorem aop_pick (c a b : Operand) : aop G ic ⟨dst, .pick c a b, ty, pos, aft, gd⟩ L st = onVal (apick (st.ev c) (st.ev a) (st.ev b)) dst L st := aop_val (fun _ _ _ h => by cases h) rfl
theorem aop_load (t : TypeId) (p : Operand) : aop G ic ⟨dst, .load t p, ty, pos, aft, gd⟩ L st = onVal ((st.mem.cellsAt (st.ev p)).bind (G.loadOf t)) dst L st := aop_val (fun _ _ _ h => by cases h) rfl
theorem aop_binT (op : BinOp) (t tr : TypeId) (x : Operand) (y : Tmp) : aop G ic ⟨dst, .binOp op t x (.tmp y) tr, ty, pos, aft, gd⟩ L st = onVal (G.bin op t (st.ev x) (st.env y)) dst L st := aop_val (fun _ _ _ h => by cases h) rfl
theorem aop_binI (op : BinOp) (t tr : TypeId) (x : Operand) (k : IntKind) (n : Int) : aop G ic ⟨dst, .binOp op t x (.const (.int k n)) tr, ty, pos, aft, gd⟩ L st = onVal (G.bin op t (st.ev x) (.v (.int k n))) dst L st := aop_val (fun _ _ _ h => by cases h) rfl
theorem aop_binS (op : BinOp) (t tr : TypeId) (x : Operand) (s : ByteArray) : aop G ic ⟨dst, .binOp op t x (.const (.string s)) tr, ty, pos, aft, gd⟩ L st = onVal (G.bin op t (st.ev x) (.v (.string s))) dst L st := aop_val (fun _ _ _ h => by cases h) rfl
theorem aop_binB (op : BinOp) (t tr : TypeId) (x : Operand) (b : Bool) : aop G ic ⟨dst, .binOp op t x (.const (.bool b)) tr, ty, pos, aft, gd⟩ L st = onVal (G.bin op t (st.ev x) (.v (.bool b))) dst L st := aop_val (fun _ _ _ h => by cases h) rfl
theorem aop_binA (op : BinOp) (t tr : TypeId) (x : Operand) (cs : Array Value) : aop G ic ⟨dst, .binOp op t x (.const (.agg cs)) tr, ty, pos, aft, gd⟩ L st = onVal (G.bin op t (st.ev x) (.agg (cs.toList.map .v))) dst L st := aop_val (fun _ _ _ h => by cases h) rfl
theorem aop_binN (op : BinOp) (t tr : TypeId) (x : Operand) : aop G ic ⟨dst, .binOp op t x (.const (.slice none 0 0)) tr, ty, pos, aft, gd⟩ L st = onVal (G.binN op t (st.ev x)) dst L st := aop_val (fun _ _ _ h => by cases h) rfl
theorem aop_unOp (op : UnOp) (t : TypeId) (x : Operand) : aop G ic ⟨dst, .unOp op t x, ty, pos, aft, gd⟩ L st = onVal (aun op (st.ev x)) dst L st := aop_val (fun _ _ _ h => by cases h) rfl
theorem aop_makeFunc (f : FuncId) (first captured : Array Operand) : aop G ic ⟨dst, .makeFunc (.func f) first captured, ty, pos, aft, gd⟩ L st = L (st.put dst (.clo f (first.toList.map st.ev) (captured.toList.map st.ev))) := rfl

/-- What a conversion asks. -/
def aconv (G : Cfg) (m : Mem) (s d : TypeId) (a : AV) : Option AV := if (G.P.underlying s).isSome = true then G.conv m s d a else none
theorem aop_convert (s d : TypeId) (x : Operand) : aop G ic ⟨dst, .convert s d x, ty, pos, aft, gd⟩ L st = onVal (aconv G st.mem s d (st.ev x)) dst L st :=
  aop_val (fun _ _ _ h => by cases h) (by simp only [aval, aconv]; split <;> rfl)

def anil (a : AV) : Option AV := match a with | .box k off => some (.box k off) | .el c cs => some (.el c cs) | .clo f p q => some (.clo f p q) | _ => none
theorem aop_nilCheck (x : Operand) : aop G ic ⟨dst, .nilCheck x, ty, pos, aft, gd⟩ L st = onVal (anil (st.ev x)) dst L st :=
  aop_val (fun _ _ _ h => by cases h) (by simp only [aval, anil]; split <;> first | rfl | (split <;> simp_all))

def afieldA (G : Cfg) (m : Mem) (t : TypeId) (f : Nat) (a : AV) : Option AV :=
  (G.foff t f).bind fun q => (G.csz q.2).bind fun z => if 0 < z then match a with
    | .box k off => some (.box k (off + q.1))
    | .el c cs => some (.el c (cs.drop q.1))
    | .wel cs => some (.wel (cs.drop q.1))
    | .ael i n idx off => if m.ok i n = true then some (.ael i n idx (off + q.1)) else none
    | _ => none
    else none
theorem aop_fieldAddr (t : TypeId) (p : Operand) (f : Nat) : aop G ic ⟨dst, .fieldAddr t p f, ty, pos, aft, gd⟩ L st = onVal (afieldA G st.mem t f (st.ev p)) dst L st := by
  refine aop_val (fun _ _ _ h => by cases h) ?_
  simp only [aval, afieldA]
  cases G.foff t f with
  | none => rfl
  | some q =>
    simp only [Option.bind_some]
    cases G.csz q.2 with
    | none => rfl
    | some z =>
      simp only [Option.bind_some]
      split
      · cases st.ev p <;> simp
      · rfl

def afield (G : Cfg) (t : TypeId) (f : Nat) (a : AV) : Option AV :=
  (G.foff t f).bind fun q => match a with
    | .agg cs => G.loadOf q.2 (cs.drop q.1)
    | _ => none
theorem aop_field (t : TypeId) (x : Operand) (f : Nat) : aop G ic ⟨dst, .field t x f, ty, pos, aft, gd⟩ L st = onVal (afield G t f (st.ev x)) dst L st := by
  refine aop_val (fun _ _ _ h => by cases h) ?_
  simp only [aval, afield]
  cases G.foff t f with
  | none => rfl
  | some q =>
    simp only [Option.bind_some]
    cases st.ev x <;> rfl

def aindexA (G : Cfg) (m : Mem) (t : TypeId) (x ix : AV) : Option AV := match ix with
  | .v (.int _ n) => if 0 ≤ n then match x with
      | .sl c es => (G.elemT t).bind fun e => (G.csz e).bind fun z => match es[n.toNat]? with
        | some cs => if cs.length = z ∧ es.all (·.length == z) = true then some (.el c cs) else none
        | none => none
      | .wsl es => (G.elemT t).bind fun e => (G.csz e).bind fun z => match es[n.toNat]? with
        | some cs => if cs.length = z ∧ es.all (·.length == z) = true then some (.wel cs) else none
        | none => none
      | .arr i k off len => (G.elemT t).bind fun e => if m.ok i k = true ∧ n.toNat < len ∧ (m.arrs i).elem = e then some (.ael i k (off + n.toNat) 0) else none
      | .box k off => (G.arrT t).bind fun q => (G.csz q.2).bind fun z => if n.toNat < q.1 then some (.box k (off + n.toNat * z)) else none
      | _ => none
      else none
  | _ => none
theorem aop_indexAddr (t : TypeId) (x ix : Operand) : aop G ic ⟨dst, .indexAddr t x ix, ty, pos, aft, gd⟩ L st = onVal (aindexA G st.mem t (st.ev x) (st.ev ix)) dst L st := by
  refine aop_val (fun _ _ _ h => by cases h) ?_
  simp only [aval, aindexA]
  cases st.ev ix with
  | v z =>
    cases z with
    | int k n =>
      simp only
      split
      · cases st.ev x with
        | sl c es =>
          simp only
          cases G.elemT t with
          | none => rfl
          | some e =>
            simp only [Option.bind_some]
            cases G.csz e with
            | none => rfl
            | some z =>
              simp only [Option.bind_some]
              cases es[n.toNat]? with
              | none => rfl
              | some cs => simp only; split <;> rfl
        | wsl es =>
          simp only
          cases G.elemT t with
          | none => rfl
          | some e =>
            simp only [Option.bind_some]
            cases G.csz e with
            | none => rfl
            | some z =>
              simp only [Option.bind_some]
              cases es[n.toNat]? with
              | none => rfl
              | some cs => simp only; split <;> rfl
        | arr i k off len =>
          simp only
          cases G.elemT t with
          | none => rfl
          | some e => simp only [Option.bind_some]; split <;> rfl
        | box k off =>
          simp only
          cases G.arrT t with
          | none => rfl
          | some q =>
            simp only [Option.bind_some]
            cases G.csz q.2 with
            | none => rfl
            | some z => simp only [Option.bind_some]; split <;> rfl
        | _ => rfl
      · rfl
    | _ => rfl
  | _ => rfl

def aindex (G : Cfg) (t : TypeId) (x ix : AV) : Option AV := match x, ix with
    | .v (.string s), .v (.int _ n) => if G.isStr t = true ∧ 0 ≤ n ∧ n < s.size then some (.v (.int .u8 (bAt s n.toNat))) else none
    | _, _ => none
theorem aop_index (t : TypeId) (x ix : Operand) : aop G ic ⟨dst, .index t x ix, ty, pos, aft, gd⟩ L st = onVal (aindex G t (st.ev x) (st.ev ix)) dst L st := by
  refine aop_val (fun _ _ _ h => by cases h) ?_
  simp only [aval, aindex]
  cases st.ev x with
  | v z =>
    cases z with
    | string s =>
      cases st.ev ix with
      | v y =>
        cases y with
        | int k n => simp only; split <;> rfl
        | _ => rfl
      | _ => rfl
    | _ => rfl
  | _ => rfl

def aextract (k : Nat) (x : AV) : Option AV := match x with | .tup vs => vs[k]? | _ => none
theorem aop_extract (x : Operand) (k : Nat) : aop G ic ⟨dst, .extract x k, ty, pos, aft, gd⟩ L st = onVal (aextract k (st.ev x)) dst L st := by
  refine aop_val (fun _ _ _ h => by cases h) ?_
  simp only [aval, aextract]
  cases st.ev x <;> rfl

def abuild (G : Cfg) (t : TypeId) (parts : List (Nat × AV)) : Option AV :=
  (G.flds t).bind fun places => if G.zerOK t = true then (G.zer t).bind fun z => (fillAV (places[·]?) z parts).map .agg else none
theorem aop_build (t : TypeId) (parts : Array (Nat × Operand)) : aop G ic ⟨dst, .build t parts, ty, pos, aft, gd⟩ L st = onVal (abuild G t (parts.toList.map fun p => (p.1, st.ev p.2))) dst L st := by
  refine aop_val (fun _ _ _ h => by cases h) ?_
  simp only [aval, abuild]
  cases G.flds t with
  | none => rfl
  | some places =>
    simp only [Option.bind_some]
    split
    · cases G.zer t with
      | none => rfl
      | some z => rfl
    · rfl

theorem aop_alloc (t : TypeId) : aop G ic ⟨dst, .alloc t, ty, pos, aft, gd⟩ L st = onMem (if G.zerOK t = true then (G.zer t).map fun cs => (.box st.mem.boxes.length 0, { st.mem with boxes := st.mem.boxes ++ [cs] }) else none) dst L st := aop_mem (fun _ _ _ h => by cases h)
theorem aop_box (t : TypeId) (x : Operand) : aop G ic ⟨dst, .box t x, ty, pos, aft, gd⟩ L st = onMem (if (st.ev x).cells.all AV.one = true then some (.box st.mem.boxes.length 0, { st.mem with boxes := st.mem.boxes ++ [(st.ev x).cells] }) else none) dst L st := aop_mem (fun _ _ _ h => by cases h)
theorem aop_store (t : TypeId) (p x : Operand) : aop G ic ⟨dst, .store t p x, ty, pos, aft, gd⟩ L st = onMem ((G.storeOf t (st.ev x)).bind fun vs => (Mem.putAt G st.mem (st.ev p) vs).map fun m' => (.dead, m')) dst L st := aop_mem (fun _ _ _ h => by cases h)
theorem aop_slice (t : TypeId) (x : Operand) (lo hi : Option Operand) : aop G ic ⟨dst, .slice t x lo hi none, ty, pos, aft, gd⟩ L st = onMem (aslice G dst t st.mem (st.ev x) (lo.map st.ev) (hi.map st.ev)) dst L st := aop_mem (fun _ _ _ h => by cases h)
theorem aop_slice0 (t : TypeId) (x hi mx : Operand) : aop G ic ⟨dst, .slice t x none (some hi) (some mx), ty, pos, aft, gd⟩ L st = onVal (aslice0 G st.mem t (st.ev x) (st.ev hi) (st.ev mx)) dst L st := aop_val (fun _ _ _ h => by cases h) rfl
theorem aop_builtin (b : Builtin) (args : Array Operand) (tys : Array TypeId) : aop G ic ⟨dst, .call ⟨.builtin b, args, tys⟩, ty, pos, aft, gd⟩ L st = onMem (abuiltin G dst st.mem b (args.toList.map st.ev) tys.toList) dst L st := aop_mem (fun _ _ _ h => by cases h)

def abuildSlice (G : Cfg) (dst : Option Tmp) (m : Mem) (t : TypeId) (len : Nat) (ix : List Nat) (rows : List (List AV)) : Option (AV × Mem) :=
  (G.elemT t).bind fun e => (G.csz e).bind fun z =>
    if ix = List.range len ∧ rows.all (·.length == z) = true ∧ rows.all (·.all AV.one) = true ∧ 0 < z ∧ len * z ≤ 1000 ∧ G.zerOK e = true then
      if (dst.map G.own).getD false = true then (G.pld dst).map fun d => (sealRows rows m).2.made d e (sealRows rows m).1
      else if len = 0 then some (.nil, m) else some (.sl false (sealRows rows m).1, (sealRows rows m).2)
    else none
theorem aop_buildSlice (t : TypeId) (len : Nat) (parts : Array (Nat × Operand)) : aop G ic ⟨dst, .buildSlice t len parts, ty, pos, aft, gd⟩ L st =
    onMem (abuildSlice G dst st.mem t len (parts.toList.map (·.1)) (parts.toList.map fun p => (st.ev p.2).cells)) dst L st := aop_mem (fun _ _ _ h => by cases h)
def amakeSlice (G : Cfg) (dst : Option Tmp) (m : Mem) (t : TypeId) (l c : AV) : Option (AV × Mem) :=
  (G.elemT t).bind fun e => (G.csz e).bind fun z => (G.bts e).bind fun by_ => (G.zer e).bind fun zs => match l, c with
    | .v (.int .i64 n), .v (.int .i64 k) => if 0 ≤ n ∧ k = n ∧ n * by_ ≤ 140737488355328 ∧ 0 < z ∧ n ≤ 140737488355328 ∧ G.zerOK e = true then (G.pld dst).map fun d => m.made d e (List.replicate n.toNat zs) else none
    | _, _ => none
theorem aop_makeSlice (t : TypeId) (l c : Operand) : aop G ic ⟨dst, .makeSlice t l c, ty, pos, aft, gd⟩ L st = onMem (amakeSlice G dst st.mem t (st.ev l) (st.ev c)) dst L st := aop_mem (fun _ _ _ h => by cases h)

/-! ### Calls -/

/-- What is kept of a slot: the law's own arguments, numbers and strings, references to own arrays. -/
def AV.flat : AV → Bool
  | .v _ => true
  | .nil => true
  | .arr _ _ _ _ => true
  | .box _ _ => true
  | _ => false
def stayA : Bool → AV → AV
  | true, a => a
  | false, .v x => .v x
  | false, .nil => .nil
  | false, .arr i n o l => .arr i n o l
  | false, .box k o => .box k o
  | false, .agg cs => if cs.all AV.flat = true then .agg cs else .dead
  | false, _ => .dead
def envStay (n : Nat) (e : Nat → AV) : Nat → AV := fun t => stayA (decide (t < n)) (e t)
theorem envStay_at (n : Nat) (e : Nat → AV) (t : Nat) : envStay n e t = stayA (decide (t < n)) (e t) := rfl
theorem stay_flat {a : AV} (h : a.flat = true) : a.Stay := by
  cases a <;> first | exact .v _ | exact .nil | exact .arr _ _ _ _ | exact .box _ _ | cases h

/-- All that is there is old from now on: the slots but the parameters are forgotten, where they are no plain data. -/
theorem reg_o {P : Program} {own : Nat → Bool} {verT : TypeId → Bool} {wr : Nat → Bool} {l : List Oper} {L : St → Prop} (n : Nat) (bs' : List (List AV)) (hlive : ∀ i, (st.mem.arrs i).live = false) (hs : ∀ t ∈ List.range n, Olds (st.env t) (st.env t)) (hlen : bs'.length = st.mem.boxes.length)
    (hb : ∀ (k : Nat) (cs cs' : List AV), st.mem.boxes[k]? = some cs → bs'[k]? = some cs' → cs'.length = cs.length ∧ ∀ (j : Nat) (c c' : AV), cs[j]? = some c → cs'[j]? = some c' → Olds c c') (h : aops ⟨P, own, verT, wr, 1⟩ nt l.toArray l L ⟨envStay n st.env, ⟨bs', st.mem.arrs⟩⟩) :
    onRegion ⟨P, own, verT, wr, 1⟩ nt l L st := by
  refine ⟨⟨⟨envStay n st.env, ⟨bs', st.mem.arrs⟩⟩, .inr ⟨?_, hlive, rfl, hlen, hb⟩, .inl h⟩⟩
  intro t
  simp only [envStay]
  by_cases ht : t < n
  · rw [decide_eq_true ht]
    exact hs t (List.mem_range.2 ht)
  · rw [decide_eq_false ht]
    have flat : ∀ a : AV, a.flat = true → Olds a a := fun a h => by
      cases a <;> first | exact .v _ | exact .nil | exact .arr _ _ _ _ | exact .box _ _ | cases h
    cases hq : st.env t with
    | agg cs =>
      simp only [stayA]
      split
      · rename_i hall
        refine .agg cs cs rfl fun j c c' h1 h2 => ?_
        rw [h1] at h2
        cases h2
        exact flat c (List.all_eq_true.1 hall c (List.mem_of_getElem? h1))
      · exact .dead _
    | v x => exact .v x
    | nil => exact .nil
    | arr i n o l => exact .arr i n o l
    | box k o => exact .box k o
    | _ => exact .dead _

/-- A region with a call that writes into what was made, as operation number k. -/
theorem reg_k {P : Program} {own : Nat → Bool} {verT : TypeId → Bool} {wr : Nat → Bool} {l : List Oper} {L : St → Prop} (k : Nat) (h : amark ⟨P, own, verT, wr, 1⟩ nt l.toArray k l L st) : onRegion ⟨P, own, verT, wr, 1⟩ nt l L st := ⟨⟨st, .inl rfl, .inr ⟨k, h⟩⟩⟩
theorem amark_st {ops : Array Oper} {k : Nat} {l : List Oper} {L : St → Prop} {st' : St} (h : st = st') : amark G nt ops k l L st = amark G nt ops k l L st' := by rw [h]
theorem amark_succ {ops : Array Oper} {o : Oper} {rest : List Oper} {L : St → Prop} (k : Nat) : amark G nt ops (k + 1) (o :: rest) L st = (o.guard = none ∧ dstOK nt o.dst = true ∧ aop G true o (amark G nt ops k rest L) st) := rfl
structure onMark (G : Cfg) (nt : Nat) (ops : Array Oper) (dst : Option Tmp) (f : FuncId) (as : List AV) (rest : List Oper) (L : St → Prop) (st : St) : Prop where
  out : dstOK nt dst = true ∧ ∃ env' bs' x, MarkStep G st f as env' bs' x ∧ aops G nt ops rest L (St.put ⟨env', ⟨bs', st.mem.arrs⟩⟩ dst (.v x))
theorem onMark_c {ops : Array Oper} {f : FuncId} {as as' : List AV} {rest : List Oper} {L : St → Prop} (h : as = as') : onMark G nt ops dst f as rest L st = onMark G nt ops dst f as' rest L st := by rw [h]
theorem amark_zero {ops : Array Oper} {f : FuncId} {args : Array Operand} {tys : Array TypeId} {rest : List Oper} {L : St → Prop} : amark G nt ops 0 (⟨dst, .call ⟨.value (.func f), args, tys⟩, ty, pos, aft, none⟩ :: rest) L st = onMark G nt ops dst f (args.toList.map st.ev) rest L st := propext ⟨fun h => ⟨h⟩, fun h => h.out⟩
/-- Some slots are said anew. -/
def envOr : List (Nat × AV) → (Nat → AV) → Nat → AV
  | [], e, t => e t
  | (d, x) :: l, e, t => if t = d then x else envOr l e t
theorem envOr_nil (e : Nat → AV) (t : Nat) : envOr [] e t = e t := rfl
theorem envOr_self (d : Nat) (x : AV) (l : List (Nat × AV)) (e : Nat → AV) : envOr ((d, x) :: l) e d = x := by simp [envOr]
theorem envOr_ne {d t : Nat} (x : AV) (l : List (Nat × AV)) (e : Nat → AV) (h : t ≠ d) : envOr ((d, x) :: l) e t = envOr l e t := by simp [envOr, h]
def WArgs (e : Nat → AV) : List (Nat × AV) → Prop
  | [] => True
  | (d, x) :: l => (WArg (e d) x ∧ ∀ cs, x ≠ .agg cs) ∧ WArgs e l
theorem WArgs_nil (e : Nat → AV) : WArgs e [] = True := rfl
theorem WArgs_cons (e : Nat → AV) (d : Nat) (x : AV) (l : List (Nat × AV)) : WArgs e ((d, x) :: l) = ((WArg (e d) x ∧ ∀ cs, x ≠ .agg cs) ∧ WArgs e l) := rfl
theorem mark_c {P : Program} {own : Nat → Bool} {verT : TypeId → Bool} {wr : Nat → Bool} {ops : Array Oper} {f : FuncId} {as : List AV} {rest : List Oper} {L : St → Prop} {las : List AV} {x : Value} (n : Nat) (keep : List (Nat × AV)) (hp : MCall P f las x)
    (hw : as.length = las.length ∧ ∀ (j : Nat) (a b : AV), as[j]? = some a → las[j]? = some b → WArg a b) (hd : dstOK nt dst = true) (hb : ∀ cs ∈ st.mem.boxes, ∀ c ∈ cs, c.Stay) (ha : ∀ i, (st.mem.arrs i).live = true → ∀ r ∈ (st.mem.arrs i).es, ∀ c ∈ r, c.Stay)
    (hs : ∀ t ∈ List.range n, (st.env t).Stay) (hk : WArgs st.env keep) (h : aops ⟨P, own, verT, wr, 1⟩ nt ops rest L (St.put ⟨envOr keep (envStay n st.env), st.mem⟩ dst (.v x))) :
    onMark ⟨P, own, verT, wr, 1⟩ nt ops dst f as rest L st := by
  refine ⟨hd, envOr keep (envStay n st.env), st.mem.boxes, x, ⟨rfl, ⟨las, hp, hw.1, hw.2⟩, .all hb, ha, ?_⟩, h⟩
  have base : ∀ t, envStay n st.env t = .dead ∨ (envStay n st.env t = st.env t ∧ (st.env t).Stay) := by
    intro t
    simp only [envStay]
    by_cases ht : t < n
    · rw [decide_eq_true ht]
      exact .inr ⟨rfl, hs t (List.mem_range.2 ht)⟩
    · rw [decide_eq_false ht]
      cases hq : st.env t with
      | agg cs =>
        simp only [stayA]
        split
        · rename_i hall
          exact .inr ⟨rfl, .agg cs fun c hc => stay_flat (List.all_eq_true.1 hall c hc)⟩
        · exact .inl rfl
      | v x => exact .inr ⟨rfl, .v x⟩
      | nil => exact .inr ⟨rfl, .nil⟩
      | arr i n o l => exact .inr ⟨rfl, .arr i n o l⟩
      | box k o => exact .inr ⟨rfl, .box k o⟩
      | _ => exact .inl rfl
  have go : ∀ (keep : List (Nat × AV)), WArgs st.env keep → ∀ t, envOr keep (envStay n st.env) t = .dead ∨ (envOr keep (envStay n st.env) t = st.env t ∧ (st.env t).Stay) ∨ (WArg (st.env t) (envOr keep (envStay n st.env) t) ∧ ∀ cs, envOr keep (envStay n st.env) t ≠ .agg cs) := by
    intro keep
    induction keep with
    | nil => intro _ t; exact (base t).imp id .inl
    | cons p l ih =>
      intro hk t
      obtain ⟨d, y⟩ := p
      simp only [envOr]
      split
      · rename_i e
        subst e
        exact .inr (.inr hk.1)
      · exact ih hk.2 t
  exact go keep hk

/-- A call of a function with such arguments; 'les' are the arguments as they are lent. -/
structure onCall (G : Cfg) (ic : Bool) (f : FuncId) (as les : List AV) (dst : Option Tmp) (L : St → Prop) (st : St) : Prop where
  out : les = as.map (lend st.mem) → (∃ r m', CallStep G st.mem dst f as r m' ∧ L (St.put ⟨st.env, m'⟩ dst r)) ∨ (ic = true ∧ G.IcOK ∧ ∃ Q, ICall G.P st.mem f as Q ∧ ∀ r m', Q r m' → L (St.put ⟨st.env, m'⟩ dst r))
theorem onCall_lent {G : Cfg} {ic : Bool} {f : FuncId} {as : List AV} {dst : Option Tmp} {L : St → Prop} {st : St} : onCall G ic f as (as.map (lend st.mem)) dst L st = ((∃ r m', CallStep G st.mem dst f as r m' ∧ L (St.put ⟨st.env, m'⟩ dst r)) ∨ (ic = true ∧ G.IcOK ∧ ∃ Q, ICall G.P st.mem f as Q ∧ ∀ r m', Q r m' → L (St.put ⟨st.env, m'⟩ dst r))) :=
  propext ⟨fun h => h.out rfl, fun h => ⟨fun _ => h⟩⟩
theorem onCall_c {f : FuncId} {as as' les les' : List AV} (h : as = as') (h' : les = les') : onCall G ic f as les dst L st = onCall G ic f as' les' dst L st := by rw [h, h']
theorem aop_call (f : FuncId) (args : Array Operand) (tys : Array TypeId) : aop G ic ⟨dst, .call ⟨.value (.func f), args, tys⟩, ty, pos, aft, gd⟩ L st = onCall G ic f (args.toList.map st.ev) ((args.toList.map st.ev).map (lend st.mem)) dst L st := by
  rw [onCall_lent]
  simp only [aop, St.ev, List.nil_append, List.append_nil]
/-- A call by a slot: a closure. -/
def onClo (G : Cfg) (ic : Bool) (c : AV) (as : List AV) (dst : Option Tmp) (L : St → Prop) (st : St) : Prop := match c with
  | .clo f pre post => onCall G ic f (pre ++ as ++ post) ((pre ++ as ++ post).map (lend st.mem)) dst L st
  | _ => False
theorem onClo_c {c c' : AV} {as as' : List AV} (h : c = c') (h' : as = as') : onClo G ic c as dst L st = onClo G ic c' as' dst L st := by rw [h, h']
theorem onClo_clo (f : FuncId) (pre post as : List AV) : onClo G ic (.clo f pre post) as dst L st = onCall G ic f (pre ++ as ++ post) ((pre ++ as ++ post).map (lend st.mem)) dst L st := rfl
theorem aop_clo (t : Tmp) (args : Array Operand) (tys : Array TypeId) : aop G ic ⟨dst, .call ⟨.value (.tmp t), args, tys⟩, ty, pos, aft, gd⟩ L st = onClo G ic (st.env t) (args.toList.map st.ev) dst L st := by
  simp only [aop, St.ev, onClo]
  cases st.env t <;> simp only [onCall_lent]

theorem call_pure {f : FuncId} {as les : List AV} {r : AV} (hp : Pure G.P f les r) (hf : ∀ a ∈ les, a.Free (fun _ => True)) (h : L (st.put dst r)) : onCall G ic f as les dst L st := by
  refine ⟨?_⟩
  rintro rfl
  refine .inl ⟨r, st.mem, .pure r hp ?_, h⟩
  intro a ha
  exact hf _ (List.mem_map.2 ⟨a, ha, rfl⟩)
theorem call_p {P : Program} {own : Nat → Bool} {verT : TypeId → Bool} {wr : Nat → Bool} {md : Nat} {f : FuncId} {as les : List AV} {r : AV} (hp : Pure P f les r) (hf : ∀ a ∈ les, a.Free (fun _ => True)) (h : L (st.put dst r)) : onCall ⟨P, own, verT, wr, md⟩ ic f as les dst L st :=
  call_pure (G := ⟨P, own, verT, wr, md⟩) hp hf h
/-- A call of a function that writes boxes, or makes new ones. -/
theorem call_src {P : Program} {own : Nat → Bool} {verT : TypeId → Bool} {wr : Nat → Bool} {md : Nat} {f : FuncId} {as les : List AV} {r : AV} {w : Nat → Bool} {bs bs' : List (List AV)} (hp : SCall P f as bs w bs' r) (hb : st.mem.boxes = bs) (hw : ∀ k, w k = true → k < bs.length → wr k = true)
    (h : L (St.put ⟨st.env, ⟨bs', st.mem.arrs⟩⟩ dst r)) : onCall ⟨P, own, verT, wr, md⟩ ic f as les dst L st :=
  ⟨fun _ => .inl ⟨r, ⟨bs', st.mem.arrs⟩, .src w bs' r (by rw [hb]; exact hp) (by rw [hb]; exact hw), h⟩⟩
theorem call_boxes {f : FuncId} {as les : List AV} {r : AV} {bs : List (List AV)} (hb : lentBoxes st.mem = bs) (hp : BCall G.P f les bs r) (h : L (st.put dst r)) : onCall G ic f as les dst L st := by
  refine ⟨?_⟩
  rintro rfl
  subst hb
  exact .inl ⟨r, st.mem, .boxes r hp, h⟩

/-- A call from a function that writes into the wild region to such a one. -/
theorem call_w {P : Program} {own : Nat → Bool} {verT : TypeId → Bool} {wr : Nat → Bool} {f : FuncId} {as les : List AV} {x : Value} (hp : MCall P f as x) (hf : ∀ a ∈ as, a.Wf) (h : L (st.put dst (.v x))) : onCall ⟨P, own, verT, wr, 2⟩ ic f as les dst L st :=
  ⟨fun _ => .inl ⟨.v x, st.mem, .wild x rfl hp hf, h⟩⟩

/-! ### Regions that draw -/

theorem adraw_of (pre suf : List Nat) (h : drawOK ops pre suf = true) (h2 : apre G nt ops pre (asuf G nt ops suf L) st) : adraw G nt ops L st := .inl ⟨pre, suf, h, h2⟩
/-- The numbers of the operations, in their order. -/
def idx : List Oper → Nat → List Nat
  | [], _ => []
  | _ :: l, k => k :: idx l (k + 1)
theorem idx_nil (k : Nat) : idx [] k = [] := rfl
theorem idx_cons (o : Oper) (l : List Oper) (k : Nat) : idx (o :: l) k = k :: idx l (k + 1) := rfl
theorem adraw_all {l : List Oper} (h : drawOK l.toArray (idx l 0) [] = true) (h2 : apre G nt l.toArray (idx l 0) L st) : adraw G nt l.toArray L st := .inl ⟨_, [], h, by
  have e : asuf G nt l.toArray [] L = L := by funext s; rfl
  rw [e]; exact h2⟩
theorem adraw_cut (k : Nat) {l : List Oper} (h : drawOK l.toArray ((idx l 0).take k) ((idx l 0).drop k) = true) (h2 : apre G nt l.toArray ((idx l 0).take k) (asuf G nt l.toArray ((idx l 0).drop k) L) st) : adraw G nt l.toArray L st := .inl ⟨_, _, h, h2⟩
theorem apre_st {l : List Nat} {st' : St} (h : st = st') : apre G nt ops l L st = apre G nt ops l L st' := by rw [h]
theorem asuf_st {l : List Nat} {st' : St} (h : st = st') : asuf G nt ops l L st = asuf G nt ops l L st' := by rw [h]
theorem apre_nil : apre G nt ops [] L st = L st := rfl
theorem asuf_nil : asuf G nt ops [] L st = L st := rfl
/-- One operation of a region. -/
def onOper (G : Cfg) (nt : Nat) (ops : Array Oper) (ic : Bool) (o : Option Oper) (L L' : St → Prop) (st : St) : Prop := match o with
  | some o => dstOK nt o.dst = true ∧ byGuard (runs ops st o) (aop G ic o L st) (L' (st.put o.dst (.v undef)))
  | none => False
theorem onOper_c {o o' : Option Oper} {L' : St → Prop} (h : o = o') : onOper G nt ops ic o L L' st = onOper G nt ops ic o' L L' st := by rw [h]
theorem onOper_plain (op : Op) (L' : St → Prop) : onOper G nt ops ic (some ⟨dst, op, ty, pos, aft, none⟩) L L' st = (dstOK nt dst = true ∧ aop G ic ⟨dst, op, ty, pos, aft, none⟩ L st) := by simp [onOper, runs, byGuard]
theorem onOper_guarded (op : Op) (j : Nat) (want : Bool) (L' : St → Prop) : onOper G nt ops ic (some ⟨dst, op, ty, pos, aft, some (j, want)⟩) L L' st =
    (dstOK nt dst = true ∧ onGuard (((ops[j]?).bind (·.dst)).map st.env) want (aop G ic ⟨dst, op, ty, pos, aft, some (j, want)⟩ L st) (L' (st.put dst (.v undef)))) := by
  rw [← byGuard_some (dst := dst) (ty := ty) (pos := pos) (aft := aft) op]
  rfl
theorem apre_cons (i : Nat) (l : List Nat) : apre G nt ops (i :: l) L st = onOper G nt ops false ops[i]? (kKeep st.mem (apre G nt ops l L)) (apre G nt ops l L) st := by
  simp only [apre, onOper]
  cases ops[i]? <;> rfl
theorem asuf_cons (i : Nat) (l : List Nat) : asuf G nt ops (i :: l) L st = onOper G nt ops true ops[i]? (asuf G nt ops l L) (asuf G nt ops l L) st := by
  simp only [asuf, onOper]
  cases ops[i]? <;> rfl
theorem kKeep_st {m : Mem} {st' : St} (h : st = st') : kKeep m L st = kKeep m L st' := by rw [h]
theorem kKeep_eq (m : Mem) : kKeep m L st = (st.mem = m ∧ L st) := rfl

end

/-! ### Functions -/

/-- What a function returns. -/
def kRes (G : Cfg) (rs : List ResultVar) (r : AV) : Exit → St → Prop
  | .normal, st => resOf G rs st = some r
  | .ret, st => resOf G rs st = some r
  | _, _ => False
theorem kRes_st {G : Cfg} {rs : List ResultVar} {r : AV} {e : Exit} {st st' : St} (h : st = st') : kRes G rs r e st = kRes G rs r e st' := by rw [h]
theorem kRes_normal {G : Cfg} {rs : List ResultVar} {r : AV} {st : St} : kRes G rs r .normal st = (resOf G rs st = some r) := rfl
theorem kRes_ret {G : Cfg} {rs : List ResultVar} {r : AV} {st : St} : kRes G rs r .ret st = (resOf G rs st = some r) := rfl

theorem pure_of_code {G : Cfg} (V : G.Vers) (hm : G.P.follows .mixedOrders = true) {f : FuncId} {fn : Func} {c : Code} (hf : G.P.funcs[f]? = some fn) (hb : fn.body = some c) (hn : fn.name ≠ "runtime.NumGoroutine") {args : List AV} (ha : args.length ≤ fn.ntmps)
    {r : AV} (hr : r.Free (· = false)) (h : ∀ ver, acode G fn.ntmps c (kRes G fn.results.toList r) ⟨envOf (zipEnv 0 args), ⟨[], noArrs ver⟩⟩) (hmd : G.md = 0 := by rfl) : Pure G.P f args r := by
  refine ⟨?_, hr, acall_of_code V (draw_sound V hm) hf hb ha (fun _ _ => Nat.zero_le _) hmd fun ver => ?_⟩
  · simp [enters, hf, hb, hn]
  · rw [startEnv_eq]
    have e : (fun (e : Exit) (st : St) => (e = .normal ∨ e = .ret) ∧ resOf G fn.results.toList st = some r) = kRes G fn.results.toList r := by
      funext e st
      cases e <;> simp [kRes]
    rw [e]
    exact h ver

theorem boxes_of_code {G : Cfg} (V : G.Vers) (hm : G.P.follows .mixedOrders = true) {f : FuncId} {fn : Func} {c : Code} (hf : G.P.funcs[f]? = some fn) (hb : fn.body = some c) (hn : fn.name ≠ "runtime.NumGoroutine") {args : List AV} {bs : List (List AV)} (ha : args.length ≤ fn.ntmps)
    (hwr : ∀ k, G.wr k = true → bs.length ≤ k) {r : AV} (hr : r.Free (· = false)) (h : ∀ ver, acode G fn.ntmps c (kRes G fn.results.toList r) ⟨envOf (zipEnv 0 args), ⟨bs, noArrs ver⟩⟩) (hmd : G.md = 0 := by rfl) : BCall G.P f args bs r := by
  refine ⟨?_, hr, acall_of_code V (draw_sound V hm) hf hb ha hwr hmd fun ver => ?_⟩
  · simp [enters, hf, hb, hn]
  · rw [startEnv_eq]
    have e : (fun (e : Exit) (st : St) => (e = .normal ∨ e = .ret) ∧ resOf G fn.results.toList st = some r) = kRes G fn.results.toList r := by
      funext e st
      cases e <;> simp [kRes]
    rw [e]
    exact h ver

/-- What has to hold where a function ends that writes boxes of the caller's. -/
def kSrc (G : Cfg) (rs : List ResultVar) (bs' : List (List AV)) (r : AV) : Exit → St → Prop
  | .normal, st => resOf G rs st = some r ∧ st.mem.boxes.take bs'.length = bs'
  | .ret, st => resOf G rs st = some r ∧ st.mem.boxes.take bs'.length = bs'
  | _, _ => False
theorem kSrc_st {G : Cfg} {rs : List ResultVar} {bs' : List (List AV)} {r : AV} {e : Exit} {st st' : St} (h : st = st') : kSrc G rs bs' r e st = kSrc G rs bs' r e st' := by rw [h]
theorem kSrc_normal {G : Cfg} {rs : List ResultVar} {bs' : List (List AV)} {r : AV} {st : St} : kSrc G rs bs' r .normal st = (resOf G rs st = some r ∧ st.mem.boxes.take bs'.length = bs') := rfl
theorem kSrc_ret {G : Cfg} {rs : List ResultVar} {bs' : List (List AV)} {r : AV} {st : St} : kSrc G rs bs' r .ret st = (resOf G rs st = some r ∧ st.mem.boxes.take bs'.length = bs') := rfl

theorem src_of_code {G : Cfg} (V : G.Vers) (hm : G.P.follows .mixedOrders = true) {f : FuncId} {fn : Func} {c : Code} (hf : G.P.funcs[f]? = some fn) (hb : fn.body = some c) (hn : fn.name ≠ "runtime.NumGoroutine") {args : List AV} {bs bs' : List (List AV)} {w : Nat → Bool} (ha : args.length ≤ fn.ntmps)
    (hwr : ∀ k, G.wr k = true → k < bs.length → w k = true) (hwr2 : ∀ k, bs.length ≤ k → G.wr k = true) {r : AV} (hr : r.In bs'.length) (hlen : bs.length ≤ bs'.length) (hsame : ∀ k, k < bs.length → w k = false → bs'[k]? = bs[k]?) (hin : ∀ (k : Nat) (cs : List AV), bs'[k]? = some cs → w k = true ∨ bs.length ≤ k → ∀ c ∈ cs, AV.In bs'.length c)
    (h : ∀ ver, acode G fn.ntmps c (kSrc G fn.results.toList bs' r) ⟨envOf (zipEnv 0 args), ⟨bs, noArrs ver⟩⟩) (hmd : G.md = 0 := by rfl) : SCall G.P f args bs w bs' r := by
  refine ⟨by simp [enters, hf, hb, hn], hr, hlen, hsame, hin, scall_of_code V (draw_sound V hm) hf hb ha hwr hwr2 hmd fun ver => ?_⟩
  rw [startEnv_eq]
  have e : (fun (e : Exit) (st : St) => (e = .normal ∨ e = .ret) ∧ resOf G fn.results.toList st = some r ∧ st.mem.boxes.take bs'.length = bs') = kSrc G fn.results.toList bs' r := by
    funext e st
    cases e <;> simp [kSrc]
  rw [e]
  exact h ver

attribute [congr] amark_st onMark_c onRegion_st acode_st onBool_c kSeq_st kBlock_st aops_st onGuard_c onVal_c onMem_c aop_st onCall_c onClo_c apre_st asuf_st onOper_c kKeep_st kRes_st kSrc_st
attribute [simp] Cfg.pld
attribute [simp low] acode_regionX
attribute [simp] envOr_nil envOr_self envOr_ne WArgs_nil WArgs_cons put_env_self put_env_ne put_env_none put_mem mk_env mk_mem envOf_self envOf_ne envOf_nil allSo_nil allSo_cons zipEnv acode_skip acode_ret acode_exit acode_seq acode_block amark_succ amark_zero acode_region acode_region1 acode_region2 acode_draw idx_nil idx_cons onBool_b onBool_any acode_cond kSeq_normal kSeq_exit kSeq_ret kBlock_normal kBlock_same kBlock_other kBlock_ret aops_nil aops_plain aops_guarded onGuard_t onGuard_f onGuard_u onVal_some onVal_none onMem_some onMem_none aop_move aop_assign aop_pick aop_load aop_binT aop_binI aop_binS aop_binB aop_binA aop_binN aop_unOp aop_makeFunc aop_convert aop_nilCheck aop_fieldAddr aop_field aop_indexAddr aop_index aop_extract aop_build aop_alloc aop_box aop_store aop_slice aop_slice0 aop_builtin aop_buildSlice aop_makeSlice aop_call onClo_clo aop_clo apre_nil asuf_nil onOper_plain onOper_guarded apre_cons asuf_cons kKeep_eq kRes_normal kRes_ret kSrc_normal kSrc_ret resOf resVar fin fin1

end Go.Proofs.YtokhnmchnfkiiaaDoor.Am
