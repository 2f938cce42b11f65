/- The evaluator: what it says true of is so. -/
import Derived.Test.YtmcaejnofmbilaaGreatCevI
namespace Go.Proofs.YtmcaejnofmbilaaGreat.Tri
set_option linter.all false
open Go.RowKit
def kp0 : Keep := fun _ _ => none
def RdRel (σ : Sg) : Option Nat → Option Nat → Prop
  | none, none => True
  | some l, some b => σ.num l = some b
  | _, _ => False
theorem RdRel.mono {σ τ : Sg} (hl : Le σ τ) : ∀ {a b : Option Nat}, RdRel σ a b → RdRel τ a b
  | none, none, _ => trivial
  | some _, some _, h => hl.num h
  | none, some _, h => h.elim
  | some _, none, h => h.elim
/-- What code comes to. -/
def CodeOk (P : Program) (f : Nat) : Prop :=
  ∀ (rd : Option Nat) (n : Nat) (c : Code) (e : AEnv) (A : AH) (k : Kont), evC P f rd n c e A k = true → ∀ (σ : Sg) (env : Env) (L : Heap) (rb : Option Nat), RdRel σ rd rb → ERel σ n e env → HRel σ A L →
    ∀ Q : Post, (∀ x e' A' τ env' M, k x e' A' = true → Le σ τ → ERel τ n e' env' → HRel τ A' M → Q x env' [] M) → svc P (evCfg rb) n kp0 c Q env [] L
section
variable {P : Program} {σ : Sg} {n : Nat} {e : AEnv} {env : Env} {A : AH} {L : Heap}

theorem keysBelow_get : ∀ {e : Env} {t : Nat} {s : SV}, keysBelow n e = true → get e t = some s → t < n := fun {e t s} h hg => keysBelow_spec h t s hg
/-! a loop's record -/
theorem HRel.putLoop (h : HRel σ A L) {k b m : Nat} {st st' : LoopState} {pd pd' : Option Code} {e0 : AEnv} {ps : Array Tmp} {as bd : Code} {r : Loop} (hk : A.get k = some (.loop st pd m e0 ps as bd)) (hb : σ.num k = some b) (hL : L b = some (.loop r)) :
    HRel σ (A.put k (.loop st' pd' m e0 ps as bd)) (upd L b (.loop { r with state := st', pending := pd' })) := by
  have hkl := h.key _ _ hk
  refine h.like (Like.put hkl hk rfl) fun j p hj => ?_
  rw [put_get hkl] at hj
  split at hj
  · rename_i ej
    cases hj; subst ej
    obtain ⟨b0, fn, t, D, q1, q2, q3, q4⟩ := h.blk _ _ hk
    rw [hb] at q1; cases q1
    rw [hL] at q2; cases q2
    exact ⟨b, fn, t, D, hb, upd_same _ _ _, q3, q4⟩
  · rename_i ej
    refine (h.blk j p hj).mono (Le.refl σ) fun b' y hb' hy => ?_
    rw [upd_other]
    · exact hy
    · intro e9; subst e9
      rcases h.inj k j _ _ b' hk hj hb hb' with e8 | ⟨f, e8, _⟩
      · exact ej e8.symm
      · cases e8
theorem HRel.loopRec (h : HRel σ A L) {k b m : Nat} {st : LoopState} {pd : Option Code} {e0 : AEnv} {ps : Array Tmp} {as bd : Code} (hk : A.get k = some (.loop st pd m e0 ps as bd)) (hb : σ.num k = some b) :
    ∃ fn t D, L b = some (.loop ⟨st, pd, fn, t, ps, as, bd, D⟩) ∧ t.size = m ∧ ∀ j a, e0.get j = some a → ∃ v, a.real σ = some v ∧ t.getD j undef = v ∧ j < m := by
  obtain ⟨b0, fn, t, D, q1, q2, q3, q4⟩ := h.blk _ _ hk
  rw [hb] at q1; cases q1
  exact ⟨fn, t, D, q2, q3, q4⟩

/-! an environment out of a table -/
def envOf (σ : Sg) (e : AEnv) : List Nat → Env
  | [] => []
  | t :: r => match e.get t with
    | some a => match a.real σ with
      | some v => (t, .v v) :: envOf σ e r
      | none => envOf σ e r
    | none => envOf σ e r
theorem envOf_get (σ : Sg) (e : AEnv) : ∀ (l : List Nat) (t : Nat) (s : SV), get (envOf σ e l) t = some s → ∃ a v, e.get t = some a ∧ a.real σ = some v ∧ s = .v v ∧ t ∈ l
  | [], t, s, h => by simp [envOf, get] at h
  | u :: r, t, s, h => by
    unfold envOf at h
    split at h
    · rename_i a ha
      split at h
      · rename_i v hv
        by_cases e1 : u = t
        · subst e1; rw [get_cons_same] at h; cases h; exact ⟨a, v, ha, hv, rfl, List.mem_cons_self ..⟩
        · rw [get_cons_other _ _ e1] at h
          obtain ⟨a, v, h1, h2, h3, h4⟩ := envOf_get σ e r t s h
          exact ⟨a, v, h1, h2, h3, List.mem_cons_of_mem _ h4⟩
      · obtain ⟨a, v, h1, h2, h3, h4⟩ := envOf_get σ e r t s h
        exact ⟨a, v, h1, h2, h3, List.mem_cons_of_mem _ h4⟩
    · obtain ⟨a, v, h1, h2, h3, h4⟩ := envOf_get σ e r t s h
      exact ⟨a, v, h1, h2, h3, List.mem_cons_of_mem _ h4⟩
theorem envOf_has (σ : Sg) (e : AEnv) : ∀ (l : List Nat) (t : Nat) (a : AV) (v : Value), t ∈ l → e.get t = some a → a.real σ = some v → get (envOf σ e l) t = some (.v v)
  | u :: r, t, a, v, ht, ha, hv => by
    unfold envOf
    by_cases e1 : u = t
    · subst e1
      rw [ha]
      simp only [hv]
      exact get_cons_same _ _ _
    · have ht' := (List.mem_cons.1 ht).resolve_left (Ne.symm e1)
      have ih := envOf_has σ e r t a v ht' ha hv
      split
      · split
        · rw [get_cons_other _ _ e1]; exact ih
        · exact ih
      · exact ih
theorem envOf_key (σ : Sg) (e : AEnv) : ∀ (l : List Nat), (∀ t ∈ l, t < n) → keysBelow n (envOf σ e l) = true
  | [], _ => rfl
  | u :: r, h => by
    have ih := envOf_key σ e r fun t ht => h t (List.mem_cons_of_mem _ ht)
    unfold envOf
    split
    · split
      · unfold keysBelow
        have : Nat.blt u n = true := by simpa [Nat.blt_eq] using h u (List.mem_cons_self ..)
        simp only [this]; exact ih
      · exact ih
    · exact ih
theorem envOf_rel (h : ∀ t a, e.get t = some a → t < n ∧ ∃ v, a.real σ = some v) : ERel σ n e (envOf σ e (List.range n)) :=
  ⟨fun t a ht => let ⟨h1, v, h2⟩ := h t a ht; ⟨v, h2, envOf_has σ e _ t a v (List.mem_range.2 h1) ht h2⟩, envOf_key σ e _ fun t ht => List.mem_range.1 ht⟩
/-- The temporaries of a round. -/
theorem setPar_sound {m : Nat} : ∀ {ts : List Nat} {as : List AV} {vs : List Value} {e0 e1 : AEnv} {t : Array Value}, setPar m ts as e0 = some e1 → reals σ as = some vs → t.size = m → (∀ j a, e0.get j = some a → ∃ v, a.real σ = some v ∧ t.getD j undef = v ∧ j < m) →
    ts.length = vs.length ∧ ∀ j a, e1.get j = some a → ∃ v, a.real σ = some v ∧ ((ts.zip vs).foldl (fun tmps p => tmps.setIfInBounds p.1 p.2) t).getD j undef = v ∧ j < m
  | [], [], vs, e0, e1, t, h, hr, ht, h0 => by
    simp only [setPar, Option.some.injEq] at h; subst h
    cases hr
    exact ⟨rfl, h0⟩
  | u :: ts, a :: as, vs, e0, e1, t, h, hr, ht, h0 => by
    obtain ⟨v, w, h1, h2, rfl⟩ := reals_cons.1 hr
    unfold setPar at h
    split at h
    · rename_i hc
      simp only [Bool.and_eq_true, Nat.blt_eq] at hc
      obtain ⟨q1, q2⟩ := setPar_sound (t := t.setIfInBounds u v) h h2 (by simpa using ht) fun j b hj => by
        rw [Tab.get_set24 hc.2] at hj
        split at hj
        · rename_i e9; cases hj; subst e9; exact ⟨v, h1, getD_set_same _ _ _ (by omega), hc.1⟩
        · rename_i e9
          obtain ⟨x, r1, r2, r3⟩ := h0 j b hj
          exact ⟨x, r1, by rw [getD_set_other _ _ (Ne.symm e9)]; exact r2, r3⟩
      exact ⟨by simp [q1], q2⟩
    · cases h
  | [], _ :: _, vs, e0, e1, t, h, _, _, _ => by simp [setPar] at h
  | _ :: _, [], vs, e0, e1, t, h, _, _, _ => by simp [setPar] at h

/-! results -/
theorem resA_sound (he : ERel σ n e env) (hH : HRel σ A L) {cfg : Cfg} (hty : cfg.ty = 0) {Kr : List Value → Prop} : ∀ {rs : List ResultVar} {l : List AV}, resA P e A rs = some l → (∀ vs, reals σ l = some vs → Kr vs) → resAll P cfg env [] L rs Kr
  | [], l, h, hk => by simp only [resA, Option.some.injEq] at h; subst h; exact hk [] rfl
  | r :: rs, l, h, hk => by
    unfold resA at h
    split at h
    · rename_i a ha
      split at h
      · rename_i l' hl
        simp only [Option.some.injEq] at h; subst h
        have rest : ∀ v, a.real σ = some v → resAll P cfg env [] L rs fun vs => Kr (v :: vs) := fun v hv => by
          have := resA_sound he hH hty (Kr := fun vs => Kr (v :: vs)) hl fun vs hvs => hk _ (reals_cons.2 ⟨v, vs, hv, hvs, rfl⟩)
          exact this
        unfold resAll resS
        split at ha
        · rename_i t
          obtain ⟨v, h1, h2⟩ := he.val t a ha
          simp only [h2]
          exact rest v h1
        · rename_i t T
          split at ha
          · rename_i k off ht
            obtain ⟨v, h1, h2⟩ := he.val t _ ht
            obtain ⟨b, hb, rfl⟩ := real_p h1
            obtain ⟨u, h3, h4, h5⟩ := loadA_sound ha hH hb
            simp only [h2, hty]
            refine ⟨u, ?_⟩
            simp only [h4]
            exact ⟨h5, rest u h3⟩
          · cases ha
      · cases h
    · cases h
theorem tupA_real {l : List AV} {vs : List Value} (h : reals σ l = some vs) : (tupA l).real σ = some (tupleOf vs) := by
  match l, h with
  | [], h => cases h; rfl
  | [a], h =>
    obtain ⟨v, w, h1, h2, rfl⟩ := reals_cons.1 h
    cases h2
    exact h1
  | a :: b :: r, h =>
    obtain ⟨v, w, h1, h2, rfl⟩ := reals_cons.1 h
    obtain ⟨v2, w2, h3, h4, rfl⟩ := reals_cons.1 h2
    simp only [tupA, AV.real, h, tupleOf, Option.map_some]
theorem argsA_get : ∀ (as : List AV) (j : Nat) (e : AEnv) (t : Nat), j + as.length < nameMax → (argsA j as e).get t = match (if j ≤ t then as[t - j]? else none) with
    | some a => some a
    | none => e.get t
  | [], j, e, t, _ => by simp [argsA]
  | a :: r, j, e, t, hm => by
    simp only [List.length_cons] at hm
    simp only [argsA]
    rw [argsA_get r (j + 1) _ t (by omega), Tab.get_set24 (by omega)]
    by_cases h1 : t = j
    · subst h1; rw [if_neg (by omega)]; simp
    · rw [if_neg h1]
      by_cases h2 : j ≤ t
      · rw [if_pos h2, if_pos (by omega), show t - j = (t - (j + 1)) + 1 by omega]; simp
      · rw [if_neg h2, if_neg (by omega)]
theorem argsEnv_at : ∀ (vs : List Value) (j i : Nat) (v : Value), vs[i]? = some v → get (argsEnv j vs) (j + i) = some (.v v)
  | [], j, i, v, h => by simp at h
  | u :: r, j, i, v, h => by
    unfold argsEnv
    cases i with
    | zero => simp only [List.getElem?_cons_zero, Option.some.injEq] at h; subst h; exact get_cons_same _ _ _
    | succ i =>
      rw [get_cons_other _ _ (by omega), show j + (i + 1) = j + 1 + i by omega]
      exact argsEnv_at r (j + 1) i v (by simpa using h)
theorem argsEnv_key : ∀ (vs : List Value) (j : Nat), j + vs.length ≤ n → keysBelow n (argsEnv j vs) = true
  | [], _, _ => rfl
  | u :: r, j, h => by
    simp only [List.length_cons] at h
    unfold argsEnv keysBelow
    have : Nat.blt j n = true := by simpa [Nat.blt_eq] using (show j < n by omega)
    simp only [this]
    exact argsEnv_key r (j + 1) (by omega)
theorem argsA_rel {as : List AV} {vs : List Value} (h : reals σ as = some vs) (hm : as.length < nameMax) (hn : vs.length ≤ n) : ERel σ n (argsA 0 as .leaf) (argsEnv 0 vs) := by
  refine ⟨fun t a ht => ?_, argsEnv_key vs 0 (by omega)⟩
  rw [argsA_get as 0 _ t (by omega)] at ht
  simp only [Nat.zero_le, if_true, Nat.sub_zero] at ht
  split at ht
  · rename_i b hb
    cases ht
    obtain ⟨v, h1, h2⟩ := reals_get h hb
    exact ⟨v, h2, by have := argsEnv_at vs 0 t v h1; rwa [Nat.zero_add] at this⟩
  · simp [Tab.get] at ht

/-! code -/
theorem evEnd_sound {b l : Nat} {k : Kont} {e : AEnv} {env : Env} {rb : Option Nat} (hb : σ.num l = some b) (he : ERel σ n e env) (hH : HRel σ A L) {Q : Post} (hs : evEnd l k e A = true)
    (hk : ∀ x e' A' τ env' M, k x e' A' = true → Le σ τ → ERel τ n e' env' → HRel τ A' M → Q x env' [] M) : callRo (evCfg rb) L (rangeQ b Q env [] L) := by
  unfold evEnd at hs
  split at hs
  rotate_left
  · cases hs
  rename_i st pd m e0 ps as bd hl
  obtain ⟨fn, t, D, q1, q2, q3⟩ := hH.loopRec hl hb
  split at hs
  · cases hs
  rename_i hst
  show rangeQ b Q env [] L
  refine ⟨_, q1, fun h9 => ?_, ?_⟩
  · simp only at h9; exact hst h9
  · have hput := hH.putLoop (st' := .exhausted) (pd' := pd) hl hb q1
    simp only
    split at hs
    · exact hk _ _ _ σ env _ hs (Le.refl σ) he hput
    · exact hk _ _ _ σ env _ hs (Le.refl σ) he hput
    · exact hk _ _ _ σ env _ hs (Le.refl σ) he hput
    · cases hs
theorem code_sound (hx : ExtOk P) (hm : P.follows .mixedOrders = true) : ∀ f, CodeOk P f ∧ CallOk P (evCall P f) ∧ YldOk P (evYld P f) := by
  intro f
  induction f using Nat.strongRecOn with
  | _ f ih =>
    cases f with
    | zero =>
      refine ⟨fun rd n c e A k hs => ?_, fun g vs A K hs => ?_, fun l vs A K hs => ?_⟩
      · unfold evC at hs; cases hs
      · unfold evCall at hs; cases hs
      · unfold evYld at hs; cases hs
    | succ f =>
      obtain ⟨hC, hF, hY⟩ := ih f (Nat.lt_succ_self f)
      refine ⟨fun rd n c e A k hs σ env L rb hrd he hH Q hk => ?_, fun g vs A K hs σ L rs hH hr => ?_, fun l vs A K hs σ L rs b hH hr hb => ?_⟩
      · unfold evC at hs
        split at hs
        · exact hk _ _ _ σ env L hs (Le.refl σ) he hH
        · exact hk _ _ _ σ env L hs (Le.refl σ) he hH
        · rename_i id ops draw
          split at hs
          · unfold svc
            simp only
            exact evOps_sound hx hF hY _ 0 σ e env A L hs he hH fun τ e' env' A' M h1 h2 h3 h4 => hk _ _ _ τ env' M h2 h1 h3 h4
          · unfold svc
            simp only
            unfold svcDraw
            split at hs
            · rename_i hform
              rw [hform]
              simp only [he.key]
              exact evD_sound hx hF hY _ _ _ _ σ e env A L hs trivial he hH fun τ e' env' A' M h1 h2 h3 h4 => hk _ _ _ τ env' M h2 h1 h3 h4
            · cases hs
        · rename_i a b
          unfold svc
          simp only [kp0]
          refine hC _ _ _ _ _ _ hs σ env L rb hrd he hH _ fun x e' A' τ env' M h1 h2 h3 h4 => ?_
          cases x with
          | normal => exact hC _ _ _ _ _ _ h1 τ env' M rb (hrd.mono h2) h3 h4 Q fun x e2 A2 υ env2 M2 g1 g2 => hk x e2 A2 υ env2 M2 g1 (h2.trans g2)
          | _ => exact hk _ _ _ τ env' M h1 h2 h3 h4
        · rename_i c x y
          unfold svc
          split at hs
          · rename_i hc
            obtain ⟨v, h1, _, h2⟩ := evA_sound he hc
            cases h1
            simp only [h2, pIf]
            exact hC _ _ _ _ _ _ hs σ env L rb hrd he hH Q hk
          · rename_i hc
            obtain ⟨v, h1, _, h2⟩ := evA_sound he hc
            cases h1
            simp only [h2, pIf]
            exact hC _ _ _ _ _ _ hs σ env L rb hrd he hH Q hk
          · cases hs
        · rename_i id c
          unfold svc
          refine hC _ _ _ _ _ _ hs σ env L rb hrd he hH _ fun x e' A' τ env' M h1 h2 h3 h4 => ?_
          cases x with
          | exit id' =>
            simp only at h1
            unfold inBlockP
            simp only
            split at h1
            · rename_i hb; rw [hb]; exact hk _ _ _ τ env' M h1 h2 h3 h4
            · rename_i hb; rw [hb]; exact hk _ _ _ τ env' M h1 h2 h3 h4
          | _ => exact hk _ _ _ τ env' M h1 h2 h3 h4
        · rename_i c
          unfold svc
          simp only [kp0]
          refine ⟨fun j e1 bx1 L1 => j ≤ f + 1 ∧ bx1 = [] ∧ ∃ ae A1 τ, evC P j rd n (.loop c) ae A1 k = true ∧ Le σ τ ∧ ERel τ n ae e1 ∧ HRel τ A1 L1, ⟨f + 1, Nat.le_refl _, rfl, e, A, σ, ?_, Le.refl σ, he, hH⟩, ?_⟩
          · unfold evC; exact hs
          · rintro j e1 bx1 L1 ⟨hj, rfl, ae, A1, τ, h1, h2, h3, h4⟩
            cases j with
            | zero => unfold evC at h1; cases h1
            | succ j =>
              unfold evC at h1
              refine (ih j (by omega)).1 _ _ _ _ _ _ h1 τ e1 L1 rb (hrd.mono h2) h3 h4 _ fun x e' A' υ env' M g1 g2 g3 g4 => ?_
              cases x with
              | normal => exact ⟨j, Nat.lt_succ_self j, by omega, rfl, e', A', υ, g1, h2.trans g2, g3, g4⟩
              | _ => exact hk _ _ _ υ env' M g1 (h2.trans g2) g3 g4
        · rename_i g ps as bd
          split at hs
          rotate_left
          · cases hs
          rename_i hrdc
          obtain ⟨hlt, hs1⟩ := new_elim hs
          clear hs
          obtain ⟨gv, hgv, hs⟩ := opt_elim hs1
          obtain ⟨fv, h1, _, h2⟩ := evA_sound he hgv
          have hhas : rdHas (evCfg rb) L := by
            unfold rdHas
            cases rd with
            | none =>
              cases rb with
              | none => trivial
              | some b => exact hrd.elim
            | some l0 =>
              cases rb with
              | none => exact hrd.elim
              | some b =>
                simp only at hrdc
                split at hrdc
                · rename_i hl0
                  obtain ⟨fn, t, D, q1, _⟩ := hH.loopRec hl0 hrd
                  exact ⟨_, q1⟩
                · cases hrdc
          have fin : ∀ gn first cap fi ca, fv = .func (.func gn) first cap → reals σ fi = some first.toList → reals σ ca = some cap.toList → entersB P gn = true →
              (evCall P f gn (fi ++ [.y A.nxt] ++ ca) { A with nxt := A.nxt + 1, tab := A.tab.set 24 A.nxt (.loop .ready none n e ps as bd) } fun _ A => evEnd A.nxt k e A) = true → True := fun _ _ _ _ _ _ _ _ _ _ => trivial
          have key : ∀ gn first cap fi ca, fv = .func (.func gn) first cap → reals σ fi = some first.toList → reals σ ca = some cap.toList → entersB P gn = true → ∀ l0, l0 = A.nxt →
              (evCall P f gn (fi ++ [.y l0] ++ ca) { A with nxt := A.nxt + 1, tab := A.tab.set 24 A.nxt (.loop .ready none n e ps as bd) } fun _ A => evEnd l0 k e A) = true → svc P (evCfg rb) n kp0 (.rangeFunc g ps as bd) Q env [] L := by
            intro gn first cap fi ca hfv hfi hca hen l0 hl0 hcallT
            subst hl0
            unfold svc svcRange
            subst hfv
            simp only [h2, hen]
            refine ⟨hhas, ?_⟩
            rintro fn t D l M hts htok hlM rfl
            obtain ⟨hle, hH2⟩ := hH.alloc (o := fun _ => .loop .ready none n e ps as bd) (ob := .loop ⟨.ready, none, fn, t, ps, as, bd, D⟩) hlM hlt (fun f hf => by cases hf)
              ⟨l, fn, t, D, num_set_same _ _ _, upd_same _ _ _, hts, fun j a hj => by
                obtain ⟨v, r1, r2⟩ := he.val j a hj
                exact ⟨v, real_mono (Le.set _ (hH.dom _ (Nat.le_refl _))) r1, htok j v r2, keysBelow_get he.key r2⟩⟩
            have hargs : reals (σ.set A.nxt (.n l)) (fi ++ [.y A.nxt] ++ ca) = some (first.toList ++ [.func (.yield l) #[] #[]] ++ cap.toList) :=
              reals_append (reals_append (reals_mono hle hfi) (reals_cons.2 ⟨_, [], by simp [AV.real, num_set_same], rfl, rfl⟩)) (reals_mono hle hca)
            refine (hF _ _ _ _ hcallT _ _ _ hH2 hargs).mono fun v N ⟨τ, A', a, g1, g2, g3, g4⟩ => ?_
            exact evEnd_sound (rb := rb) (g1.num (num_set_same _ _ _)) (he.mono (hle.trans g1)) g4 g2 fun x e' A2 υ env' M2 r1 r2 => hk x e' A2 υ env' M2 r1 ((hle.trans g1).trans r2)
          split at hs
          · rename_i gn first cap
            cases h1
            split at hs
            · rename_i hen
              exact key gn first cap _ _ rfl (reals_v _) (reals_v _) hen _ rfl hs
            · cases hs
          · rename_i gn first cap
            simp only [AV.real] at h1
            split at h1
            · rename_i x y hx1 hx2
              cases h1
              split at hs
              · rename_i hen
                exact key gn _ _ _ _ rfl (by simpa using hx1) (by simpa using hx2) hen _ rfl hs
              · cases hs
            · cases h1
          · cases hs
        · exact hk _ _ _ σ env L hs (Le.refl σ) he hH
        · exact hk _ _ _ σ env L hs (Le.refl σ) he hH
        · cases hs
      · unfold evCall at hs
        split at hs
        rotate_left
        · cases hs
        rename_i fn hfn
        split at hs
        rotate_left
        · cases hs
        rename_i c hc
        split at hs
        rotate_left
        · cases hs
        rename_i hlen
        have hlen : vs.length < nameMax := by simpa [Nat.blt_eq] using hlen
        have hl := reals_length hr
        refine tri_of_condT [] 0 kp0 hm hfn (by unfold hasBody; rw [hc]) ?_
        unfold condT
        have hbody : bodyOf fn = c := by unfold bodyOf; rw [hc]
        rw [hbody, ← hl]
        have hn : rs.length ≤ vs.length + (fn.ntmps - vs.length) := by omega
        have fin : ∀ {e' A' τ env' M}, opt (resA P e' A' fn.results.toList) (fun l => K (tupA l) A') = true → Le σ τ → ERel τ (vs.length + (fn.ntmps - vs.length)) e' env' → HRel τ A' M →
            resAll P (walkCfg [] 0) env' [] M fn.results.toList fun vs => Lss (CallPost σ K) (tupleOf vs) M := fun {e' A' τ env' M} h1 h2 h3 h4 => by
          obtain ⟨l, hl, hK⟩ := opt_elim h1
          exact resA_sound h3 h4 rfl hl fun vs hvs => ⟨M, Sub.refl M, τ, A', tupA l, h2, hK, tupA_real hvs, h4⟩
        refine hC _ _ _ _ _ _ hs σ (argsEnv 0 rs) L none trivial (argsA_rel hr hlen hn) hH _ fun x e' A' τ env' M h1 h2 h3 h4 => ?_
        cases x with
        | normal => exact fin h1 h2 h3 h4
        | ret => exact fin h1 h2 h3 h4
        | _ => cases h1
      · unfold evYld at hs
        split at hs
        rotate_left
        · cases hs
        rename_i pd n e0 ps as bd hl
        obtain ⟨e, hpar, hs⟩ := opt_elim hs
        obtain ⟨fn, t, D, q1, q2, q3⟩ := hH.loopRec hl hb
        obtain ⟨p1, p2⟩ := setPar_sound hpar hr q2 q3
        refine ⟨_, q1, by simpa using p1.symm, ?_⟩
        have htm : ∀ {r : Loop}, r.params = ps → r.tmps = t → roundTmps r rs.toArray = (ps.toList.zip rs).foldl (fun tmps p => tmps.setIfInBounds p.1 p.2) t := fun {r} h1 h2 => by
          unfold roundTmps
          rw [h1, h2, ← Array.foldl_toList, Array.toList_zip]
        refine round_of_cond [] 0 kp0 hm (e := envOf σ e (List.range n)) (fun u s hu => ?_) ?_
        · obtain ⟨a, v, r1, r2, r3, _⟩ := envOf_get σ e _ u s hu
          obtain ⟨v', r4, r5, _⟩ := p2 u a r1
          rw [r2] at r4; cases r4
          exact ⟨v, r3, by rw [htm rfl rfl]; exact r5⟩
        · unfold roundCond
          have he : ERel σ n e (envOf σ e (List.range n)) := envOf_rel fun u a hu => let ⟨v, r1, _, r3⟩ := p2 u a hu; ⟨r3, v, r1⟩
          simp only [q2]
          refine hC _ _ _ _ _ _ hs σ _ L (some b) hb he hH _ fun x e1 A1 τ env1 M1 h1 h2 h3 h4 => ?_
          cases x with
          | normal =>
            simp only at h1
            split at h1
            rotate_left
            · cases h1
            rename_i pd1 n1 e01 ps1 as1 bd1 hl1
            have hb1 := h2.num hb
            obtain ⟨fn1, t1, D1, g1, g2, g3⟩ := h4.loopRec hl1 hb1
            unfold assignQ
            simp only
            refine ⟨_, g1, rfl, ?_⟩
            refine hC _ _ _ _ _ _ h1 τ env1 _ (some b) hb1 h3 (h4.putLoop (st' := .busy) (pd' := pd1) hl1 hb1 g1) _ fun x e2 A2 υ env2 M2 k1 k2 k3 k4 => ?_
            split at k1
            rotate_left
            · cases k1
            rename_i st2 pd2 n2 e02 ps2 as2 bd2 hl2
            have hb2 := k2.num hb1
            obtain ⟨fn2, t2, D2, w1, w2, w3⟩ := k4.loopRec hl2 hb2
            refine ⟨_, w1, ?_⟩
            have post : ∀ (st : LoopState) (pd : Option Code) (v : Bool), K (.v (.bool v)) (A2.put l (.loop st pd n2 e02 ps2 as2 bd2)) = true → Lss (CallPost σ K) (.bool v) (upd M2 b (.loop { (⟨st2, pd2, fn2, t2, ps2, as2, bd2, D2⟩ : Loop) with state := st, pending := pd })) := fun st pd v hK =>
              ⟨_, Sub.refl _, υ, _, .v (.bool v), h2.trans k2, hK, rfl, k4.putLoop hl2 hb2 w1⟩
            cases x with
            | normal => exact post _ _ _ k1
            | ret => exact post _ _ _ k1
            | exit id => exact post _ _ _ k1
            | _ => cases k1
          | _ => cases h1
/-- A RUN WITHOUT MEMORY OF ITS OWN: what the evaluator says of it is so. -/
theorem run_sound (hx : ExtOk P) (hm : P.follows .mixedOrders = true) {fuel g : Nat} {as : List AV} {vs : List Value} {K : CK} (hv : reals (fun _ => none) as = some vs) (hs : evCall P fuel g as ⟨0, .leaf, []⟩ K = true) :
    Tri P g vs.toArray (fun _ => none) (CallPost (fun _ => none) K) := by
  refine (code_sound hx hm fuel).2.1 g as _ K hs _ _ vs ?_ hv
  exact ⟨fun _ _ => rfl, fun k o hk => by simp [AH.get, Tab.get] at hk, fun k o hk => by simp [AH.get, Tab.get] at hk, fun k j ok oj b hk => by simp [AH.get, Tab.get] at hk, fun k o f hk => by simp [AH.get, Tab.get] at hk, fun k o f l hk => by simp [AH.get, Tab.get] at hk, fun k o f hk => by simp [AH.get, Tab.get] at hk, fun f l hf => by simp [get] at hf⟩
end
end Go.Proofs.YtmcaejnofmbilaaGreat.Tri
