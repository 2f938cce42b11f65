/- The control's soundness; a function's triple from its body's condition. -/
import Derived.Test.YtmcaejnofmbilaaGreatTriI3
import Derived.Test.YtmcaejnofmbilaaGreatTriJ
namespace Go.Proofs.YtmcaejnofmbilaaGreat.Tri
set_option linter.all false
open Go.RowKit
section
variable {P : Program} {R : Rl} {cfg : Cfg} {n m lo : Nat} {ro : Option Nat} {kp : Keep}

/-! ### meeting points -/
theorem get_trim_mem {α : Type} (e : List (Nat × α)) : ∀ {keep : List Nat} {k : Nat}, k ∈ keep → get (trim keep e) k = get e k
  | j :: r, k, h => by
    unfold trim
    by_cases ek : j = k
    · subst ek
      cases hj : get e j with
      | some x => simp only; rw [get_cons_same]
      | none =>
        simp only
        rcases Classical.em (j ∈ r) with h1 | h1
        · rw [get_trim_mem e h1, hj]
        · cases hg : get (trim r e) j with
          | none => rfl
          | some y => rw [get_trim e r hg] at hj; cases hj
    · have hr : k ∈ r := (List.mem_cons.1 h).resolve_left (Ne.symm ek)
      cases hj : get e j with
      | some x => simp only; rw [get_cons_other _ _ ek]; exact get_trim_mem e hr
      | none => simp only; exact get_trim_mem e hr
theorem get_trim_key {α : Type} (e : List (Nat × α)) : ∀ {keep : List Nat} {k : Nat} {x : α}, get (trim keep e) k = some x → k ∈ keep
  | [], k, x, h => by simp [trim, get] at h
  | j :: r, k, x, h => by
    unfold trim at h
    cases hj : get e j with
    | none => rw [hj] at h; exact List.mem_cons_of_mem _ (get_trim_key e h)
    | some y =>
      rw [hj] at h
      by_cases ek : j = k
      · subst ek; exact List.mem_cons_self ..
      · rw [get_cons_other _ _ ek] at h; exact List.mem_cons_of_mem _ (get_trim_key e h)
theorem get_joinE {e f : Env} {t : Nat} {s : SV} (h : get (joinE e f) t = some s) : get e t = some s ∨ get f t = some s := by
  induction e with
  | nil => exact .inr h
  | cons p r ih =>
    obtain ⟨u, x⟩ := p
    simp only [joinE] at h
    by_cases eu : u = t
    · subst eu; rw [get_cons_same] at h ⊢; exact .inl h
    · rw [get_cons_other _ _ eu] at h ⊢; exact ih h
theorem Sc.all_ap {Rt : Type} {s : Sc} {f : s.Fn Rt} {v : Value} {J : Rt → Prop} {K : Value → Prop} (ha : s.all K) (hp : s.ap f v J) : K v := by
  cases s <;> cases v <;> first | exact ha _ | exact ha _ _ _ | exact hp.elim | skip
  all_goals
    rename_i k k' x
    simp only [Sc.ap] at hp
    split at hp
    · rename_i hk
      have := of_decide_eq_true hk; subst this; exact ha x
    · exact hp.elim
theorem allL_ap {Rt : Type} : ∀ {l : List Sc} {f : FnL l Rt} {vs : List Value} {J : Rt → Prop} {K : List Value → Prop}, allL l K → apL l f vs J → K vs
  | [], f, [], J, K, ha, _ => ha
  | [], f, v :: vs, J, K, _, hp => hp.elim
  | s :: r, f, [], J, K, _, hp => hp.elim
  | s :: r, f, v :: vs, J, K, ha, hp => by
    have h1 : (fun v => allL r fun vs => K (v :: vs)) v := Sc.all_ap ha hp
    have : ∃ g, apL r g vs J := by
      simp only [apL] at hp
      cases s <;> cases v <;> first | exact hp.elim | exact ⟨_, hp⟩ | skip
      all_goals
        simp only [Sc.ap] at hp
        split at hp
        · exact ⟨_, hp⟩
        · exact hp.elim
    obtain ⟨g, hg⟩ := this
    exact allL_ap (l := r) (K := fun vs => K (v :: vs)) h1 hg
theorem Sh.all_ap {Rt : Type} {s : Sh} {f : s.Fn Rt} {v : Value} {J : Rt → Prop} {K : Value → Prop} (ha : s.all K) (hp : s.ap f v J) : K v := by
  cases s with
  | one s => exact Sc.all_ap ha hp
  | agg l =>
    cases v <;> first | exact False.elim hp | skip
    rename_i cs
    have := allL_ap (l := l) (K := fun vs => K (.agg vs.toArray)) ha hp
    simpa using this
  | tup l =>
    cases v <;> first | exact False.elim hp | skip
    rename_i cs
    have := allL_ap (l := l) (K := fun vs => K (.tuple vs.toArray)) ha hp
    simpa using this
/-- 'ap' leads to some function of the rest. -/
theorem Sc.ap_ex {Rt : Type} {s : Sc} {f : s.Fn Rt} {v : Value} {J : Rt → Prop} (hp : s.ap f v J) : ∃ g, J g := by
  cases s <;> cases v <;> first | exact hp.elim | exact ⟨_, hp⟩ | skip
  all_goals
    simp only [Sc.ap] at hp
    split at hp
    · exact ⟨_, hp⟩
    · exact hp.elim
theorem apL_ex {Rt : Type} : ∀ {l : List Sc} {f : FnL l Rt} {vs : List Value} {J : Rt → Prop}, apL l f vs J → ∃ g, J g
  | [], f, [], J, hp => ⟨f, hp⟩
  | [], f, v :: vs, J, hp => hp.elim
  | s :: r, f, [], J, hp => hp.elim
  | s :: r, f, v :: vs, J, hp => let ⟨_, h⟩ := Sc.ap_ex (s := s) hp; apL_ex h
theorem Sh.ap_ex {Rt : Type} {s : Sh} {f : s.Fn Rt} {v : Value} {J : Rt → Prop} (hp : s.ap f v J) : ∃ g, J g := by
  cases s with
  | one s => exact Sc.ap_ex hp
  | agg l => cases v <;> first | exact False.elim hp | exact apL_ex (l := l) hp
  | tup l => cases v <;> first | exact False.elim hp | exact apL_ex (l := l) hp
theorem allV_ap {Rt : Type} {e : Env} : ∀ {l : List (Nat × Sh)} {f : FnV l Rt} {J : Rt → Prop} {K : Env → Prop}, allV l K → apV l f e J → K (trim (l.map (·.1)) e)
  | [], f, J, K, ha, _ => ha
  | p :: r, f, J, K, ha, hp => by
    unfold apV at hp
    split at hp
    · rename_i v hv
      have h1 := Sh.all_ap ha hp
      obtain ⟨g, hg⟩ := Sh.ap_ex hp
      have h2 := allV_ap h1 hg
      simp only [List.map_cons, trim, hv]
      exact h2
    · exact hp.elim
theorem apV_congr {Rt : Type} {e e2 : Env} : ∀ {l : List (Nat × Sh)} {f : FnV l Rt} {J : Rt → Prop}, (∀ k ∈ l.map (·.1), get e k = get e2 k) → apV l f e J → apV l f e2 J
  | [], f, J, _, h => h
  | p :: r, f, J, hc, h => by
    unfold apV at h ⊢
    rw [← hc p.1 (by simp)]
    split at h
    · have : (fun g => apV r g e J) = fun g => apV r g e2 J := by
        funext g
        exact propext ⟨apV_congr fun k hk => hc k (by simp at hk ⊢; exact .inr hk), apV_congr fun k hk => (hc k (by simp at hk ⊢; exact .inr hk)).symm⟩
      rw [← this]; exact h
    · exact h.elim
theorem allX_ap {Rt : Type} {bx : Bx} : ∀ {l : List (Nat × List Sc)} {f : FnX l Rt} {J : Rt → Prop} {K : Bx → Prop}, allX l K → apX l f bx J → K (trim (l.map (·.1)) bx)
  | [], f, J, K, ha, _ => ha
  | p :: r, f, J, K, ha, hp => by
    unfold apX at hp
    split at hp
    · rename_i cs hv
      have h1 := allL_ap (K := fun cs => allX r fun bx => K ((p.1, cs) :: bx)) ha hp
      obtain ⟨g, hg⟩ := apL_ex hp
      have h2 := allX_ap h1 hg
      simp only [List.map_cons, trim, hv]
      exact h2
    · exact hp.elim
theorem apX_congr {Rt : Type} {bx bx2 : Bx} : ∀ {l : List (Nat × List Sc)} {f : FnX l Rt} {J : Rt → Prop}, (∀ k ∈ l.map (·.1), get bx k = get bx2 k) → apX l f bx J → apX l f bx2 J
  | [], f, J, _, h => h
  | p :: r, f, J, hc, h => by
    unfold apX at h ⊢
    rw [← hc p.1 (by simp)]
    split at h
    · have : (fun g => apX r g bx J) = fun g => apX r g bx2 J := by
        funext g
        exact propext ⟨apX_congr fun k hk => hc k (by simp at hk ⊢; exact .inr hk), apX_congr fun k hk => (hc k (by simp at hk ⊢; exact .inr hk)).symm⟩
      rw [← this]; exact h
    · exact h.elim
def trB (pr : Bool) (c : Cut) (bx : Bx) : Bx := match pr with
  | true => trim (c.boxes.map (·.1)) bx
  | false => bx
theorem apV_ex {Rt : Type} {e : Env} : ∀ {l : List (Nat × Sh)} {f : FnV l Rt} {J : Rt → Prop}, apV l f e J → ∃ g, J g
  | [], f, J, h => ⟨f, h⟩
  | p :: r, f, J, h => by
    unfold apV at h
    split at h
    · obtain ⟨g, hg⟩ := Sh.ap_ex h; exact apV_ex hg
    · exact h.elim
/-- What holds at every state of the shape holds at this one. -/
theorem meet {pr : Bool} {c : Cut} {I : Inv pr c} {e e0 : Env} {bx : Bx} {L : Heap} {Y : Env → Bx → Heap → Prop} (h : apI pr c I e bx L)
    (hall : allV c.vars fun ev => allB pr c.boxes fun eb => ∀ L, apI pr c I ev eb L → Y (joinE ev (trim c.consts e0)) eb L) : Y (joinE (trim (c.vars.map (·.1)) e) (trim c.consts e0)) (trB pr c bx) L := by
  have h1 := allV_ap hall h
  have hI : apI pr c I (trim (c.vars.map (·.1)) e) bx L := apV_congr (fun k hk => (get_trim_mem e hk).symm) h
  obtain ⟨g, hg⟩ := apV_ex h
  cases pr with
  | true =>
    have h2 := allX_ap (bx := bx) h1 hg
    refine h2 L ?_
    unfold apI at hI ⊢
    have : (fun g : FnB true c.boxes (Heap → Prop) => apB true c.boxes g bx fun h => h L) = fun g => apB true c.boxes g (trim (c.boxes.map (·.1)) bx) fun h => h L := by
      funext g
      exact propext ⟨apX_congr fun k hk => (get_trim_mem bx hk).symm, apX_congr fun k hk => get_trim_mem bx hk⟩
    rw [← this]; exact hI
  | false => exact h1 bx L hI
theorem eqC_elim {e0 e : Env} {A : Prop} : ∀ {l : List Nat}, eqC e0 e l A → A ∧ ∀ t s, get (trim l e0) t = some s → get e t = some s
  | [], h => ⟨h, fun t s ht => by simp [trim, get] at ht⟩
  | j :: r, h => by
    unfold eqC at h
    unfold trim
    split at h
    · rename_i s0 h0
      split at h
      · rename_i s hs
        obtain ⟨h1, h2⟩ := eqC_elim h.2
        refine ⟨h1, fun t x ht => ?_⟩
        rw [h0] at ht
        simp only at ht
        by_cases ej : j = t
        · subst ej; rw [get_cons_same] at ht; cases ht; rw [hs, h.1]
        · rw [get_cons_other _ _ ej] at ht; exact h2 t x ht
      · exact h.elim
    · rename_i h0
      obtain ⟨h1, h2⟩ := eqC_elim h
      refine ⟨h1, fun t x ht => ?_⟩
      rw [h0] at ht
      exact h2 t x ht
theorem St.meet {ds : Dq} {β : Nat → Nat} {e e0 : Env} {bx : Bx} {L : Heap} {a : Act} {w : World} {c : Cut} (hR : RK cfg R) (h : St R n ds β e bx L a w) (hc : ∀ t s, get (trim c.consts e0) t = some s → get e t = some s) :
    St R n ds β (joinE (trim (c.vars.map (·.1)) e) (trim c.consts e0)) (trB cfg.pr c bx) L a w := by
  refine ⟨?_, h.siz, fun t s ht => ?_, h.dfr, h.mrk, h.nod, h.low, fun p hp => ?_⟩
  · unfold Tri.trB
    split
    · rename_i hpr; exact hR.trim _ hpr h.inv
    · exact h.inv
  · rcases get_joinE ht with h1 | h1
    · exact h.val t s (get_trim e _ h1)
    · exact h.val t s (hc t s h1)
  · obtain ⟨k1, k2, k3, k4⟩ := h.hid p hp
    refine ⟨k1, k2, k3, fun k cs hk => ?_⟩
    unfold Tri.trB at hk
    split at hk
    · exact k4 k cs (get_trim _ _ hk)
    · exact k4 k cs hk

theorem stQ_then {K : Env → Bx → Heap → Prop} {Q : Post} {next : Act → World → Prop} (hn : ∀ ds β e bx L a w, ds.lo = lo → K e bx L → St R n ds β e bx L a w → next a w) :
    ∀ x a w, StQ R n lo (thenP K Q) x a w → Exit.then next (StQ R n lo Q) x a w := by
  rintro x a w ⟨ds, β, e, bx, L, hlo, hq, h⟩
  cases x with
  | normal => exact hn _ _ _ _ _ _ _ hlo hq h
  | _ => exact ⟨ds, β, e, bx, L, hlo, hq, h⟩
theorem stQ_inBlock {id : Nat} {Q : Post} : ∀ x a w, StQ R n lo (inBlockP id Q) x a w → Exit.inBlock id (StQ R n lo Q) x a w := by
  rintro x a w ⟨ds, β, e, bx, L, hlo, hq, h⟩
  cases x with
  | exit id' =>
    simp only [inBlockP] at hq
    simp only [Exit.inBlock]
    by_cases hid : id' = id
    · subst hid; rw [Nat.beq_refl] at hq; rw [if_pos rfl]; exact ⟨ds, β, e, bx, L, hlo, hq, h⟩
    · have : Nat.beq id' id = false := by cases hb : Nat.beq id' id with
        | false => rfl
        | true => exact absurd (Nat.eq_of_beq_eq_true hb) hid
      rw [this] at hq; rw [if_neg hid]; exact ⟨ds, β, e, bx, L, hlo, hq, h⟩
  | _ => exact ⟨ds, β, e, bx, L, hlo, hq, h⟩

theorem least {p : Nat → Prop} (h : ∃ k, p k) : ∃ k, p k ∧ ∀ j, p j → k ≤ j := by
  obtain ⟨k, hk⟩ := h
  induction k using Nat.strongRecOn with
  | _ k ih =>
    by_cases hx : ∃ j, j < k ∧ p j
    · obtain ⟨j, hj, hp⟩ := hx; exact ih j hj hp
    · exact ⟨k, hk, fun j hj => Nat.le_of_not_lt fun hlt => hx ⟨j, hlt, hj⟩⟩
open Classical in
noncomputable def mu (p : Nat → Prop) : Nat := if h : ∃ k, p k then (least h).choose else 0
theorem mu_spec {p : Nat → Prop} (h : ∃ k, p k) : p (mu p) ∧ ∀ j, p j → mu p ≤ j := by
  unfold mu; rw [dif_pos h]; exact (least h).choose_spec

theorem EnvOk_of {ds : Dq} {β : Nat → Nat} {e : Env} {bx : Bx} {L : Heap} {a : Act} {w : World} (h : St R n ds β e bx L a w) : EnvOk a.tmps e := fun k v hk => h.val k _ hk
/-- The end of a loop over a function: the record is turned; on as it says. -/
theorem range_end (hR : RK cfg R) {ds : Dq} {β : Nat → Nat} {e : Env} {bx : Bx} {N : Heap} {a : Act} {w : World} {l : Nat} {Q : Post} (hlo : ds.lo = lo) (hq : callRo cfg N (rangeQ l Q e bx N)) (hcl : ∀ r, cfg.ro = some r → r l = none) (h : St R n ds β e bx N a w) :
    ∃ jump w', (Instr.endLoop l).run P w = .ok jump w' ∧ (match jump with
      | none => StQ R n lo Q .normal a w'
      | some c => c.wpIn (WF ro) m P (StQ R n lo Q) a w') := by
  obtain ⟨hro, r, hr, hb, hq⟩ := callRo_elim hq
  have hw := h.sub hR _ _ hr
  have hend := run_endLoop (P := P) hw hb
  have hst : St R n ds β e bx (upd N l (.loop { r with state := .exhausted })) a (w.putObj l (.loop { r with state := .exhausted })) :=
    h.step hR (Ext.set (h.sub hR) hr _ rfl) fun r' hr' x y hx => by
      rw [upd_other]
      · exact hro r' hr' x y hx
      · intro ex; subst ex; rw [hcl r' hr'] at hx; cases hx
  have key : ∀ (p : Option Code) (M : Heap) (W : World), St R n ds β e bx M a W → (match p with
      | none => Q .normal e bx M
      | some .ret => Q .ret e bx M
      | some (.exit id) => Q (.exit id) e bx M
      | _ => False) → (match p with
      | none => StQ R n lo Q .normal a W
      | some c => c.wpIn (WF ro) m P (StQ R n lo Q) a W) := by
    intro p M W hst hq
    split at hq
    · exact ⟨ds, β, e, bx, _, hlo, hq, hst⟩
    · exact wpIn_ret ⟨ds, β, e, bx, _, hlo, hq, hst⟩
    · exact wpIn_exit ⟨ds, β, e, bx, _, hlo, hq, hst⟩
    · exact hq.elim
  exact ⟨r.pending, _, hend, key _ _ _ hst hq⟩
theorem svcRange_sound (hR : RK cfg R) (hrd : cfg.rd = ro) {f : Operand} {ps : Array Tmp} {assign body : Code} {Q : Post} {ds : Dq} {β : Nat → Nat} {e : Env} {bx : Bx} {L : Heap} {a : Act} {w : World}
    (hlo : ds.lo = lo) (hs : svcRange P cfg n f ps assign body Q e bx L) (h : St R n ds β e bx L a w) : (Code.rangeFunc f ps assign body).wpIn (WF ro) m P (StQ R n lo Q) a w := by
  unfold svcRange at hs
  split at hs
  rotate_left
  · exact hs.elim
  rename_i g first cap hf
  split at hs
  rotate_left
  · exact hs.elim
  rename_i hen
  obtain ⟨hhas, hs⟩ := hs
  refine wpIn_rangeFunc ?_
  intro fn _
  have hev := h.evv hf
  cases ro with
  | none =>
    have hst1 := h.step hR (Ext.allocHid (h.sub hR) (.deferred (some []))) fun r hr => hR.rok h.inv hr
    have hst2 := hst1.alloc hR (.loop ⟨.ready, none, fn, a.tmps, ps, assign, body, w.heap.size⟩)
    have hD : L w.heap.size = none := Ext.allocNone (h.sub hR)
    have hl : L (w.heap.size + 1) = none := by
      have := Ext.allocNone (w := w.alloc (.deferred (some []))) (hst1.sub hR)
      simpa using this
    have hsz : (w.alloc (.deferred (some []))).heap.size = w.heap.size + 1 := by simp
    rw [hsz] at hst2
    have hst3 : St R n ⟨ds.lo, w.heap.size :: ds.l, ds.hid⟩ β e bx (upd L (w.heap.size + 1) (.loop ⟨.ready, none, fn, a.tmps, ps, assign, body, w.heap.size⟩)) { a with defers := [{ target := .collected w.heap.size, args := #[] }] ++ a.defers }
        ((w.alloc (.deferred (some []))).alloc (.loop ⟨.ready, none, fn, a.tmps, ps, assign, body, w.heap.size⟩)) := by
      refine ⟨hst2.inv, hst2.siz, hst2.val, by simp [hst2.dfr], fun D hD' => ?_, ?_, hst2.low, hst2.hid⟩
      · rcases List.mem_cons.1 hD' with rfl | h9
        · refine ⟨(Below.heap_alloc _ _ _ (by simp)).trans (World.alloc_heap_new w _), ?_, h.low⟩
          rw [upd_other _ _ (by omega)]; exact hD
        · exact hst2.mrk D h9
      · refine List.nodup_cons.2 ⟨fun h9 => ?_, h.nod⟩
        have := (h.mrk _ h9).1
        simp at this
    obtain ⟨W1, hW1⟩ : ∃ W1, W1 = (w.alloc (.deferred (some []))).alloc (.loop ⟨.ready, none, fn, a.tmps, ps, assign, body, w.heap.size⟩) := ⟨_, rfl⟩
    refine ⟨w.heap.size + 1, [{ target := .collected w.heap.size, args := #[] }], W1, { target := .fn (.func g) cap, args := first ++ #[Value.func (.yield (w.heap.size + 1)) #[] #[]] }, W1, g, first ++ #[Value.func (.yield (w.heap.size + 1)) #[] #[]] ++ cap, W1, hW1 ▸ run_enterLoop_outer fn a.tmps ps assign body,
      ?_, fun _ _ => trivial, ?_, fun h9 => by simp [WF] at h9, ?_⟩
    · simp only [resolve, hev]
      simp [Deferred.ofValue, Act.eval]
    · simp only [invoke]; exact run_entersB hen _
    · have htri := hs fn a.tmps w.heap.size (w.heap.size + 1) _ h.siz (EnvOk_of h) hl rfl
      have e1 : first ++ #[Value.func (.yield (w.heap.size + 1)) #[] #[]] ++ cap = (first.toList ++ [Value.func (.yield (w.heap.size + 1)) #[] #[]] ++ cap.toList).toArray := by rw [← Array.toList_inj]; simp
      rw [e1]
      rw [← hW1] at hst3
      have hc := (callsIn_wide (n := 0)).2 (htri _ (hst3.sub hR))
      refine CallsIn.mono (F := WF none) (n := m - 1) ⟨trivial, fun cs _ => hc.2 cs (room_wide _)⟩ ?_
      rintro en w' ⟨v, N, rfl, hq, hx⟩
      refine range_end hR (ds := ⟨ds.lo, w.heap.size :: ds.l, ds.hid⟩) hlo hq (fun r hr => ?_) (hst3.step hR hx (callRo_elim hq).1)
      cases e9 : r (w.heap.size + 1) with
      | none => rfl
      | some y => have := hR.rok h.inv hr _ _ e9; rw [hl] at this; cases this
  | some l0 =>
    unfold rdHas at hhas
    rw [hrd] at hhas
    obtain ⟨r0, hr0⟩ := hhas
    have hw0 := h.sub hR _ _ hr0
    have hl : L w.heap.size = none := Ext.allocNone (h.sub hR)
    have hst3 := h.alloc hR (.loop ⟨.ready, none, fn, a.tmps, ps, assign, body, r0.defers⟩)
    obtain ⟨W1, hW1⟩ : ∃ W1, W1 = w.alloc (.loop ⟨.ready, none, fn, a.tmps, ps, assign, body, r0.defers⟩) := ⟨_, rfl⟩
    refine ⟨w.heap.size, [], W1, { target := .fn (.func g) cap, args := first ++ #[Value.func (.yield w.heap.size) #[] #[]] }, W1, g, first ++ #[Value.func (.yield w.heap.size) #[] #[]] ++ cap, W1, hW1 ▸ run_enterLoop_inner hw0 fn a.tmps ps assign body,
      ?_, fun _ _ => trivial, ?_, fun h9 => by simp [WF] at h9, ?_⟩
    · simp only [resolve, hev]
      simp [Deferred.ofValue, Act.eval]
    · simp only [invoke]; exact run_entersB hen _
    · have htri := hs fn a.tmps r0.defers w.heap.size _ h.siz (EnvOk_of h) hl rfl
      have e1 : first ++ #[Value.func (.yield w.heap.size) #[] #[]] ++ cap = (first.toList ++ [Value.func (.yield w.heap.size) #[] #[]] ++ cap.toList).toArray := by rw [← Array.toList_inj]; simp
      rw [e1]
      rw [← hW1] at hst3
      have hc := (callsIn_wide (n := 0)).2 (htri _ (hst3.sub hR))
      refine CallsIn.mono (F := WF (some l0)) (n := m - 1) ⟨trivial, fun cs _ => hc.2 cs (room_wide _)⟩ ?_
      rintro en w' ⟨v, N, rfl, hq, hx⟩
      refine range_end hR hlo hq (fun r hr => ?_) (hst3.step hR hx (callRo_elim hq).1)
      cases e9 : r w.heap.size with
      | none => rfl
      | some y => have := hR.rok h.inv hr _ _ e9; rw [hl] at this; cases this

theorem svc_sound (hm : P.follows .mixedOrders = true) (hR : RK cfg R) (hrd : cfg.rd = ro) : ∀ (c : Code) (Q : Post) (ds : Dq) (β : Nat → Nat) (e : Env) (bx : Bx) (L : Heap) (a : Act) (w : World), ds.lo = lo → svc P cfg n kp c Q e bx L → St R n ds β e bx L a w →
    c.wpIn (WF ro) m P (StQ R n lo Q) a w
  | .skip, Q, ds, β, e, bx, L, a, w, hlo, hs, h => wpIn_skip ⟨ds, β, e, bx, L, hlo, hs, h⟩
  | .label _, Q, ds, β, e, bx, L, a, w, hlo, hs, h => wpIn_label ⟨ds, β, e, bx, L, hlo, hs, h⟩
  | .region id ops false, Q, ds, β, e, bx, L, a, w, hlo, hs, h => by
    refine wpIn_region ?_
    have := svcOps_sound (m := m) (ro := ro) (Q := StQ R n lo Q) hR (ds := ds) (ops := ops) (fun {β e bx L a w} hk hst => ⟨ds, β, e, bx, L, hlo, hk, hst⟩) ops.toList 0 β e bx L a w (fun i => by simp) hs h
    rw [List.range_eq_range']
    simpa using this
  | .region id ops true, Q, ds, β, e, bx, L, a, w, hlo, hs, h =>
    svcDraw_sound hm hR (ds := ds) (fun {ds' β e bx L a w} hlo' hk hst => ⟨ds', β, e, bx, L, hlo'.trans hlo, hk, hst⟩) hs h
  | .seq x y, Q, ds, β, e, bx, L, a, w, hlo, hs, h => by
    refine wpIn_seq ?_
    unfold svc at hs
    split at hs
    · rename_i c hc
      obtain ⟨J, h1, h2⟩ := hs
      refine wpIn_mono (svc_sound hm hR hrd x _ ds β e bx L a w hlo h1 h) (stQ_then fun ds β e' bx L a w hlo hk hst => ?_)
      obtain ⟨hJ, hcs⟩ := eqC_elim hk
      exact svc_sound hm hR hrd y Q ds β _ _ L a w hlo (meet hJ h2) (hst.meet hR hcs)
    · refine wpIn_mono (svc_sound hm hR hrd x _ ds β e bx L a w hlo hs h) (stQ_then fun ds β e bx L a w hlo hk hst => ?_)
      exact svc_sound hm hR hrd y Q ds β _ _ L a w hlo hk hst
  | .cond c x y, Q, ds, β, e, bx, L, a, w, hlo, hs, h => by
    unfold svc at hs
    split at hs
    · rename_i t ht
      refine wpIn_cond (h.evv ht) ?_
      cases t
      · exact svc_sound hm hR hrd y Q ds β _ _ L a w hlo hs h
      · exact svc_sound hm hR hrd x Q ds β _ _ L a w hlo hs h
    · exact hs.elim
  | .block id c, Q, ds, β, e, bx, L, a, w, hlo, hs, h =>
    wpIn_block (wpIn_mono (svc_sound hm hR hrd c _ ds β e bx L a w hlo hs h) stQ_inBlock)
  | .loop c, Q, ds, β, e, bx, L, a, w, hlo, hs, h => by
    unfold svc at hs
    split at hs
    · rename_i ct hct
      obtain ⟨I, ⟨k0, h0⟩, hstep⟩ := hs
      let M : Act → World → Nat → Prop := fun a w k => ∃ ds β e' bx L, ds.lo = lo ∧ (∀ t s, get (trim ct.consts e) t = some s → get e' t = some s) ∧ apI cfg.pr ct (I k) e' bx L ∧ St R n ds β e' bx L a w
      refine wpIn_loop (fun a w => ∃ k, M a w k) (fun a w => mu (M a w)) ⟨k0, ds, β, e, bx, L, hlo, fun t s ht => get_trim e _ ht, h0, h⟩ ?_
      intro a w hk
      obtain ⟨hM, _⟩ := mu_spec hk
      obtain ⟨ds, β, e1, bx1, L1, hlo, hcs, hI, hst⟩ := hM
      have hb := meet (e0 := e) hI (hstep _)
      refine wpIn_mono (svc_sound hm hR hrd c _ ds β _ _ L1 a w hlo hb (hst.meet hR hcs)) (stQ_then fun ds β e2 bx2 L2 a' w' hlo hj hst' => ?_)
      obtain ⟨⟨j, hlt, hIj⟩, hcs'⟩ := eqC_elim hj
      have hM' : M a' w' j := ⟨ds, β, e2, bx2, L2, hlo, hcs', hIj, hst'⟩
      exact ⟨⟨j, hM'⟩, Nat.lt_of_le_of_lt ((mu_spec ⟨j, hM'⟩).2 j hM') hlt⟩
    · obtain ⟨I, ⟨k0, h0⟩, hstep⟩ := hs
      let M : Act → World → Nat → Prop := fun a w k => ∃ ds β e bx L, ds.lo = lo ∧ I k e bx L ∧ St R n ds β e bx L a w
      refine wpIn_loop (fun a w => ∃ k, M a w k) (fun a w => mu (M a w)) ⟨k0, ds, β, e, bx, L, hlo, h0, h⟩ ?_
      intro a w hk
      obtain ⟨hM, _⟩ := mu_spec hk
      obtain ⟨ds, β, e1, bx1, L1, hlo, hI, hst⟩ := hM
      refine wpIn_mono (svc_sound hm hR hrd c _ ds β _ _ L1 a w hlo (hstep _ _ _ _ hI) hst) (stQ_then fun ds β e2 bx2 L2 a' w' hlo hj hst' => ?_)
      obtain ⟨j, hlt, hIj⟩ := hj
      have hM' : M a' w' j := ⟨ds, β, e2, bx2, L2, hlo, hIj, hst'⟩
      exact ⟨⟨j, hM'⟩, Nat.lt_of_le_of_lt ((mu_spec ⟨j, hM'⟩).2 j hM') hlt⟩
  | .exit id, Q, ds, β, e, bx, L, a, w, hlo, hs, h => wpIn_exit ⟨ds, β, e, bx, L, hlo, hs, h⟩
  | .ret, Q, ds, β, e, bx, L, a, w, hlo, hs, h => wpIn_ret ⟨ds, β, e, bx, L, hlo, hs, h⟩
  | .scope _, _, _, _, _, _, _, _, _, _, hs, _ => by unfold svc at hs; exact hs.elim
  | .goto _, _, _, _, _, _, _, _, _, _, hs, _ => by unfold svc at hs; exact hs.elim
  | .rangeFunc f ps assign body, Q, ds, β, e, bx, L, a, w, hlo, hs, h => svcRange_sound hR hrd hlo hs h
  | .refuse _, _, _, _, _, _, _, _, _, _, hs, _ => by unfold svc at hs; exact hs.elim

/-! ### a function -/
section
variable {β : Nat → Nat} {e : Env} {bx : Bx} {L : Heap} {a : Act} {w : World} {ds : Dq}
def resOne (tmps : Array Value) : ResultVar → Sem Value
  | .tmp t => pure (tmps.getD t undef)
  | .cell a t => do loadVar t (← asAddr (tmps.getD a undef))
/-- A world that differs from w at most at open blocks of deferred calls. -/
def NearW (w w' : World) : Prop := ∀ b : Nat, w.heap[b]? = w'.heap[b]? ∨ w.heap[b]? = some (Obj.deferred (some []))
theorem NearW.cells {w w' : World} (h : NearW w w') {b : Nat} {c : Array Value} {T : TypeId} {fz : Nat × Nat} (hb : w.heap[b]? = some (.cells c T fz)) : w'.heap[b]? = some (.cells c T fz) := by
  rcases h b with h1 | h1
  · exact h1.symm.trans hb
  · rw [h1] at hb; cases hb
theorem resS_run (hR : RK cfg R) (h : St R n ds β e bx L a w) {r : ResultVar} {K : Value → Prop} (hs : resS P cfg e bx L r K) : ∃ v, (∀ w', NearW w w' → (resOne a.tmps r).run P w' = .ok v w') ∧ K v := by
  unfold resS at hs
  split at hs
  · rename_i t
    split at hs
    · rename_i v hv
      refine ⟨v, fun w' _ => ?_, hs⟩
      simp only [resOne, Sem.run_pure]
      rw [h.val _ _ hv]; rfl
    · exact hs.elim
  · rename_i t T
    split at hs
    · rename_i k off hx
      split at hs
      · rename_i cs hpr hk
        split at hs
        · rename_i v hv
          obtain ⟨h1, h2⟩ := boxRead_ok hv
          obtain ⟨T', hb⟩ := hR.read hpr h.inv hk
          refine ⟨v, fun w' hw' => ?_, hs⟩
          have hr := run_loadOK (P := P) (w := w') (ad := ⟨β k, off, none⟩) h1 (fun i u hi => by
            rw [add_spot rfl]; simp [World.cell?, hw'.cells hb, h2 i u hi])
          simp [resOne, h.val _ _ hx, sval, asAddr, hr]
        · exact hs.elim
      · exact hs.elim
    · rename_i ad hx
      obtain ⟨v, hv⟩ := tyEx_ex _ _ _ hs
      split at hv
      · rename_i h1
        obtain ⟨h2, h3⟩ := hv
        refine ⟨v, fun w' hw' => ?_, h3⟩
        have hr := run_loadOK (P := P) (w := w') (ad := ad) h1 (fun i u hi => by
          obtain ⟨q1, c, E, fz, q2, q3⟩ := h2
          rw [add_spot q1]
          have q4 := h.sub hR _ _ q2
          unfold wl at q4
          simp [World.cell?, hw'.cells q4, q3 i u hi])
        simp [resOne, h.val _ _ hx, sval, asAddr, hr]
      · exact hv.elim
    · exact hs.elim
theorem resAll_run (hR : RK cfg R) (h : St R n ds β e bx L a w) : ∀ (rs : List ResultVar) {K : List Value → Prop}, resAll P cfg e bx L rs K → ∃ vs, (∀ w', NearW w w' → (rs.mapM (resOne a.tmps)).run P w' = .ok vs w') ∧ K vs
  | [], K, hs => ⟨[], fun w' _ => by simp, hs⟩
  | r :: rs, K, hs => by
    obtain ⟨v, hv, hk⟩ := resS_run hR h hs
    obtain ⟨vs, hvs, hk'⟩ := resAll_run hR h rs hk
    exact ⟨v :: vs, fun w' hw' => by simp [hv w' hw', hvs w' hw'], hk'⟩
theorem results_run (hR : RK cfg R) (h : St R n ds β e bx L a w) {fn : Func} {K : List Value → Prop} (hs : resAll P cfg e bx L fn.results.toList K) : ∃ vs, (∀ w', NearW w w' → (results fn a.tmps).run P w' = .ok (tupleOf vs) w') ∧ K vs := by
  obtain ⟨vs, hvs, hk⟩ := resAll_run hR h _ hs
  refine ⟨vs, fun w' hw' => ?_, hk⟩
  have e1 : results fn a.tmps = (do
    let vs ← fn.results.mapM (resOne a.tmps)
    pure (if h : vs.size = 1 then vs[0] else .tuple vs)) := by
    unfold results; congr 1
  rw [e1, Array.mapM_eq_mapM_toList]
  simp only [Sem.run_bind, Sem.run_map, hvs w' hw', Result.andThen_ok, Sem.run_pure]
  match vs with
  | [] => rfl
  | [v] => rfl
  | v :: v' :: r => simp [tupleOf]

theorem leaves {fn : Func} {tmps : Array Value} {Rr : Ending → World → Prop} {L0 : Heap} {w0 : World} {v : Value} {N : Heap} (hlo : ds.lo = w0.heap.size) : ∀ (l : List Nat) (w : World), l.Nodup → (∀ D ∈ l, w.heap[D]? = some (Obj.deferred (some [])) ∧ N D = none ∧ ds.lo ≤ D) → Ext L0 w0 N w →
    (∀ w', Ext L0 w0 N w' → NearW w w' → (results fn tmps).run P w' = .ok v w' ∧ Rr (.returned v) w') → LeavesInM (WF ro) m P fn tmps Rr (l.map fun D => { target := .collected D, args := #[] }) .returning w
  | [], w, _, _, hx, hres => by
    obtain ⟨h1, h2⟩ := hres w hx fun b => .inl rfl
    exact ⟨v, h1, h2⟩
  | D :: l, w, hnd, hd, hx, hres => by
    obtain ⟨h1, h2, h3⟩ := hd D (by simp)
    rw [List.nodup_cons] at hnd
    have hlt : D < w.heap.size := (Array.getElem?_eq_some_iff.1 h1).1
    have oth : ∀ {b : Nat}, b ≠ D → (w.putObj D (.deferred none)).heap[b]? = w.heap[b]? := fun {b} hb => by
      simp only [World.putObj]; exact Array.getElem?_setIfInBounds_ne (Ne.symm hb)
    refine ⟨by simp, .inl ⟨D, _, rfl, run_takeDeferred h1, leaves (N := N) (v := v) (L0 := L0) (w0 := w0) hlo l _ hnd.2 (fun E hE => ?_) ?_ fun w' hx' hb' => ?_⟩⟩
    · obtain ⟨k1, k2, k3⟩ := hd E (by simp [hE])
      exact ⟨(oth (by intro e9; subst e9; exact hnd.1 hE)).trans k1, k2, k3⟩
    · refine ⟨hx.os, hx.tape, hx.output, by simpa [World.putObj] using hx.size, fun b o hb => ?_, fun b hb hL => ?_⟩
      · have : b ≠ D := by intro e9; subst e9; rw [h2] at hb; cases hb
        exact (oth this).trans (hx.sub b o hb)
      · obtain ⟨q1, q2⟩ := hx.old b hb hL
        exact ⟨q1, (oth (by omega)).trans q2⟩
    · refine hres w' hx' fun b => ?_
      rcases hb' b with h9 | h9
      · by_cases e9 : b = D
        · subst e9; exact .inr h1
        · rw [oth e9] at h9; exact .inl h9
      · by_cases e9 : b = D
        · subst e9; exact .inr h1
        · rw [oth e9] at h9; exact .inr h9
end
end
/-- THE FUNCTION. -/
theorem argsEnv_get : ∀ (vs : List Value) (j t : Nat) (s : SV), get (argsEnv j vs) t = some s → ∃ i v, vs[i]? = some v ∧ s = .v v ∧ t = j + i
  | [], _, _, _, h => by simp [argsEnv, get] at h
  | v :: vs, j, t, s, h => by
    unfold argsEnv at h
    by_cases e : j = t
    · subst e; rw [get_cons_same] at h; cases h; exact ⟨0, v, rfl, rfl, rfl⟩
    · rw [get_cons_other _ _ e] at h
      obtain ⟨i, v', h1, h2, h3⟩ := argsEnv_get vs (j + 1) t s h
      exact ⟨i + 1, v', by simpa using h1, h2, by omega⟩
theorem tri_of_condT {P : Program} {f : FuncId} {fn : Func} {args : List Value} {L : Heap} {Φ : Value → Heap → Prop} (prom : List Nat) (ty : Nat) (kp : Keep) (hm : P.follows .mixedOrders = true) (hf : P.funcs[f]? = some fn) (hb : hasBody fn = true)
    (hs : condT P fn prom ty kp args L Φ) : Tri P f args.toArray L Φ := by
  obtain ⟨n, hn⟩ : ∃ n, n = args.length + (fn.ntmps - args.length) := ⟨_, rfl⟩
  have hbody : fn.body = some (bodyOf fn) := by
    unfold hasBody at hb; unfold bodyOf
    split at hb
    · rename_i c hc; rw [hc]
    · cases hb
  unfold condT at hs
  rw [← hn] at hs
  intro w hw
  refine (callsIn_wide (n := 0)).1 ?_
  refine callsIn_of_wp_marks hf hbody trivial ?_
  have hR : RK (walkCfg prom ty) (Plain L w) := Plain.rk L w rfl
  have hst : St (Plain L w) n ⟨w.heap.size, [], []⟩ (fun _ => 0) (argsEnv 0 args) [] L { tmps := args.toArray ++ Array.replicate (fn.ntmps - args.toArray.size) undef, defers := [] } w := by
    refine ⟨⟨Ext.refl hw, fun k cs hk => by simp [get] at hk, fun k k' cs cs' hk => by simp [get] at hk⟩, by simpa using hn.symm, fun t s ht => ?_, rfl, fun D hD => by simp at hD, by simp, Nat.le_refl _, fun p hp => by simp at hp⟩
    obtain ⟨i, v, h1, h2, h3⟩ := argsEnv_get args 0 t s ht
    subst h2
    have hlt : i < args.length := (List.getElem?_eq_some_iff.1 h1).1
    simp only [Nat.zero_add] at h3; subst h3
    rw [Array.getD_eq_getD_getElem?, Array.getElem?_append_left (by simpa using hlt)]
    simp [h1, sval]
  refine wpIn_mono (svc_sound (ro := none) (lo := w.heap.size) hm hR rfl (bodyOf fn) _ ⟨w.heap.size, [], []⟩ _ _ _ _ _ _ rfl hs hst) ?_
  have fin : ∀ (ds : Dq) β e bx M a w', ds.lo = w.heap.size → resAll P (walkCfg prom ty) e bx M fn.results.toList (fun vs => Lss Φ (tupleOf vs) M) → St (Plain L w) n ds β e bx M a w' →
      LeavesInM Fence.wide 0 P fn a.tmps (fun e w' => ∃ v M, e = .returned v ∧ Φ v M ∧ Ext L w M w') a.defers .returning w' := by
    intro ds β e bx M a w' hlo hres hst
    obtain ⟨vs, hrun, N, hN, hΦ⟩ := results_run hR hst hres
    rw [hst.dfr]
    refine leaves (ro := none) (N := M) (v := tupleOf vs) (L0 := L) (w0 := w) hlo ds.l w' hst.nod hst.mrk hst.inv.ext fun w'' hx hnear => ⟨hrun w'' hnear, _, N, rfl, hΦ, hx.less hN⟩
  rintro x a w' ⟨ds, β, e, bx, M, hlo, hq, h⟩
  cases x with
  | normal => exact fin ds β e bx M a w' hlo hq h
  | ret => exact fin ds β e bx M a w' hlo hq h
  | exit id => exact hq.elim
  | goto l => exact hq.elim
  | panic c => exact hq.elim
  | outgrown => exact hq.elim
theorem tri_of_cond {P : Program} {f : FuncId} {fn : Func} {args : List Value} {L : Heap} {Φ : Value → Heap → Prop} (prom : List Nat) (kp : Keep) (hm : P.follows .mixedOrders = true) (hf : P.funcs[f]? = some fn) (hb : hasBody fn = true)
    (hs : cond P fn prom kp args L Φ) : Tri P f args.toArray L Φ := tri_of_condT prom 12 kp hm hf hb hs
/-- The same, from a text of the condition. -/
theorem tri_of_text {P : Program} {f : FuncId} {fn : Func} {args : List Value} {L : Heap} {Φ : Value → Heap → Prop} (prom : List Nat) (kp : Keep) (hm : P.follows .mixedOrders = true) (hf : P.funcs[f]? = some fn) (hb : hasBody fn = true)
    {A : Prop} (hA : A = cond P fn prom kp args L Φ) (h : A) : Tri P f args.toArray L Φ := tri_of_cond prom kp hm hf hb (hA ▸ h)
end Go.Proofs.YtmcaejnofmbilaaGreat.Tri
