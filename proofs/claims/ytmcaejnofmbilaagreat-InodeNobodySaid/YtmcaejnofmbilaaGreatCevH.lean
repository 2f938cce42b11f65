/- The evaluator: every operation is sound. -/
import Derived.Test.YtmcaejnofmbilaaGreatCevInsA
namespace Go.Proofs.YtmcaejnofmbilaaGreat.Tri
set_option linter.all false
open Go.RowKit
/-- What is asked of the one function of Go's library that has no body here. -/
def ExtOk (P : Program) : Prop := InsOk P ∧ ∀ g fn s b, P.funcs[g]? = some fn → fn.name = "internal/bytealg.IndexByteString" → ∀ w, (callFunc g #[.string s, .int .u8 b]).run P w = .ok (.value (.int .i64 (findByte (b.toNat % 256) s.data.toList 0))) w
def YldOk (P : Program) (yld : CallFn) : Prop := ∀ l vs A K, yld l vs A K = true → ∀ σ L rs b, HRel σ A L → reals σ vs = some rs → σ.num l = some b →
  ∃ r, L b = some (.loop r) ∧ rs.toArray.size = r.params.size ∧ Round P b r rs.toArray L (CallPost σ K)
section
variable {P : Program} {call yld : CallFn} {σ : Sg} {n : Nat} {e : AEnv} {env : Env} {A : AH} {L : Heap} {o : Oper} {K : CK} {rd : Option Nat}

theorem ins {v : Value} {M : Heap} (h : CallPost σ K v M) : OpPost σ K (.v v) [] M := ⟨_, rfl, rfl, h⟩
theorem svcCall_tri {f : Operand} {args : List Operand} {T g : Nat} {first cap : Array Value} {vs : List Value} (hf : evv env f = some (.func (.func g) first cap)) (hv : evvs env args = some vs) (hen : entersB P g = true)
    (h : Tri P g (first.toList ++ vs ++ cap.toList).toArray L (CallPost σ K)) : svcCall P (evCfg rd) env [] L f args T (OpPost σ K) := by
  unfold svcCall
  simp only [hf, hv, hen]
  exact h.mono fun v M hp => ⟨v, rfl, ins hp⟩
theorem callA_sound (hx : ExtOk P) (hcall : CallOk P call) (hyld : YldOk P yld) (hH : HRel σ A L) {f : Operand} {args : List Operand} {T : Nat} {fa : AV} {fv : Value} {as : List AV} {vs : List Value} (hf : evv env f = some fv) (hfa : fa.real σ = some fv)
    (hv : evvs env args = some vs) (hva : reals σ as = some vs) (hs : callA P call yld A fa as K = true) : svcCall P (evCfg rd) env [] L f args T (OpPost σ K) := by
  unfold callA at hs
  split at hs
  · rename_i g first cap
    cases hfa
    split at hs
    · rename_i hen
      exact svcCall_tri hf hv hen (enterA_sound hx.1 hcall hH hs (reals_append (reals_append (reals_v _) hva) (reals_v _)))
    · rename_i hen
      unfold externA at hs
      split at hs
      · rename_i fn hfn
        split at hs
        · rename_i hname
          split at hs
          · rename_i s b heq
            have hall : reals σ (first.toList.map AV.v ++ as ++ cap.toList.map AV.v) = some (first.toList ++ vs ++ cap.toList) := reals_append (reals_append (reals_v _) hva) (reals_v _)
            rw [heq] at hall
            have e1 : first.toList ++ vs ++ cap.toList = [.string s, .int .u8 b] := by
              have : reals σ [AV.v (.string s), AV.v (.int .u8 b)] = some [.string s, .int .u8 b] := rfl
              rw [this] at hall; exact (Option.some.inj hall).symm
            unfold svcCall
            simp only [hf, hv, hen]
            refine ⟨_, fun w _ => ?_, ins (.here hs rfl hH)⟩
            rw [e1]
            exact hx.2 g fn s b hfn (of_decide_eq_true hname) w
          · cases hs
        · cases hs
      · cases hs
  · rename_i g first cap
    simp only [AV.real] at hfa
    split at hfa
    · rename_i a b h1 h2
      cases hfa
      split at hs
      · rename_i hen
        refine svcCall_tri hf hv hen (hcall _ _ _ _ hs σ L _ hH ?_)
        simpa using reals_append (reals_append h1 hva) h2
      · cases hs
    · cases hfa
  · rename_i l
    simp only [AV.real] at hfa
    cases hl : σ.num l with
    | none => rw [hl] at hfa; cases hfa
    | some b =>
      rw [hl] at hfa; cases hfa
      obtain ⟨r, h1, h2, h3⟩ := hyld _ _ _ _ hs σ L vs b hH hva hl
      unfold svcCall
      simp only [hf, hv]
      exact ⟨r, h1, by simpa using h2, by simpa using h3.mono fun v M hp => ⟨v, rfl, ins hp⟩⟩
  · cases hs
theorem newRow_sound (hH : HRel σ A L) {el len tot b c0 l0 : Nat} {cs : List AV} {vs : List Value} (hb : L b = none) (hc : reals σ cs = some vs) (ht : vs.length = tot)
    (hs : A.new (fun j => .cells j el true cs tot 0 none) (fun j A => K (.s j 0 l0 c0 none) A) = true) : CallPost σ K (.slice (some ⟨b, 0, none⟩) l0 c0) (upd L b (.cells vs.toArray el (0, 0))) := by
  obtain ⟨hlt, hs1⟩ := new_elim hs
  obtain ⟨hl, hH2⟩ := hH.alloc (o := fun k => .cells k el true cs tot 0 none) (ob := .cells vs.toArray el (0, 0)) hb hlt (fun f hf => by cases hf; rfl)
    ⟨b, 0, vs.toArray, (0, 0), vs, num_set_same _ _ _, rfl, upd_same _ _ _, fun _ => rfl, by simp [ht], reals_mono (Le.set _ (hH.dom _ (Nat.le_refl _))) hc, fun j v hj => by simpa using hj⟩
  refine ⟨_, _, _, hl, hs1, ?_, hH2⟩
  exact mk_s (e := 0) (num_set_same _ _ _) (show Sg.ext _ none = some 0 from rfl)
theorem zip_len {parts : List (Nat × Operand)} {as : List AV} (h : evAs e (parts.map (·.2)) = some as) : (parts.map (·.1)).length = as.length := by
  have : ∀ {xs : List Operand} {l : List AV}, evAs e xs = some l → xs.length = l.length := by
    intro xs
    induction xs with
    | nil => intro l h; simp only [evAs, Option.some.injEq] at h; subst h; rfl
    | cons x r ih =>
      intro l h
      unfold evAs at h
      split at h
      · split at h
        · rename_i hl
          simp only [Option.some.injEq] at h; subst h; simp [ih hl]
        · cases h
      · cases h
  have := this h
  simpa using this
/-- A slice's value, with its length. -/
theorem lenA_slice {a : AV} {v : Value} {k : Nat} (hl : lenA a = some k) (h : a.real σ = some v) : (∃ p c, v = .slice p k c) ∨ ∃ s, v = .string s := by
  cases a with
  | v x =>
    have e : x = v := Option.some.inj h
    subst e
    cases x <;> simp only [lenA, reduceCtorEq, Option.some.injEq] at hl
    · exact .inr ⟨_, rfl⟩
    · subst hl; exact .inl ⟨_, _, rfl⟩
  | s k off len m x =>
    obtain ⟨b, e, _, _, rfl⟩ := real_s h
    simp only [lenA, Option.some.injEq] at hl; subst hl
    exact .inl ⟨_, _, rfl⟩
  | z x =>
    obtain ⟨a, c, rfl⟩ := real_z h
    simp only [lenA, Option.some.injEq] at hl; subst hl
    exact .inl ⟨_, _, rfl⟩
  | _ => simp [lenA] at hl
theorem notText_elim {a : AV} {va : Value} {s : ByteArray} (ha : a.real σ = some va) (hv : va = .string s) : ¬ notText a = true := by
  subst hv
  cases a with
  | v x =>
    have e : x = .string s := Option.some.inj ha
    subst e
    simp [notText]
  | s k off len m x => obtain ⟨b, e, _, _, h⟩ := real_s ha; cases h
  | z x => obtain ⟨a, c, h⟩ := real_z ha; cases h
  | p k off => obtain ⟨b, _, h⟩ := real_p ha; cases h
  | c m x =>
    simp only [AV.real] at ha
    cases hs : σ.num x with
    | none => rw [hs] at ha; cases ha
    | some b => rw [hs] at ha; cases ha
  | f fn a b =>
    simp only [AV.real] at ha
    split at ha <;> cases ha
  | y l =>
    simp only [AV.real] at ha
    cases hs : σ.num l with
    | none => rw [hs] at ha; cases ha
    | some b => rw [hs] at ha; cases ha
  | i t x =>
    simp only [AV.real] at ha
    cases hs : x.real σ with
    | none => rw [hs] at ha; cases ha
    | some b => rw [hs] at ha; cases ha
  | g cs =>
    simp only [AV.real] at ha
    cases hs : reals σ cs with
    | none => rw [hs] at ha; cases ha
    | some b => rw [hs] at ha; cases ha
  | t cs =>
    simp only [AV.real] at ha
    cases hs : reals σ cs with
    | none => rw [hs] at ha; cases ha
    | some b => rw [hs] at ha; cases ha
theorem copyA_sound (hH : HRel σ A L) {Ts0 : List TypeId} {args : List Operand} {T : TypeId} {Ts : List TypeId} {a b : AV} {va vb : Value} (hT : Ts0 = T :: Ts) (h4 : evvs env args = some [va, vb]) (ha : a.real σ = some va) (hb : b.real σ = some vb)
    (hs : copyA P A T a b K = true) : svcCopy P (evCfg rd) env [] L Ts0 args (OpPost σ K) := by
  subst hT
  unfold copyA at hs
  split at hs
  rotate_left
  · cases hs
  rename_i el hu
  split at hs
  rotate_left
  · cases hs
  rename_i i hi
  obtain ⟨dl, h1, hs1⟩ := opt_elim hs
  clear hs
  obtain ⟨k, h2, hs2⟩ := opt_elim hs1
  clear hs1
  obtain ⟨xs, h3, hs⟩ := opt_elim hs2
  clear hs2
  split at hs
  rotate_left
  · cases hs
  rename_i hone
  simp only [Bool.and_eq_true] at hone
  obtain ⟨hone, hnt⟩ := hone
  obtain ⟨vs, q1, q2, q3⟩ := srcA_sound hH h3 hb
  obtain ⟨hlen, _⟩ := lenA_sound h2 hb
  have fin : ∀ p c, va = .slice p dl c → (∀ k off l m x, a = .s k off l m x → ∃ b0, p = some ⟨b0, off, none⟩ ∧ σ.num k = some b0) → svcCopy P (evCfg rd) env [] L (T :: Ts) args (OpPost σ K) := by
    rintro p c rfl hpa
    unfold svcCopy
    simp only [h4, hu, hi]
    refine ⟨k, vs, hlen, q3, q2, allOne_real hone q1, ?_⟩
    unfold pPut
    split at hs
    · cases q1
      cases p with
      | none => exact ins (.here hs rfl hH)
      | some ad => exact .inl ⟨rfl, ins (.here hs rfl hH)⟩
    · split at hs
      · rename_i k0 off l m x
        obtain ⟨b0, rfl, hb0⟩ := hpa _ _ _ _ _ rfl
        obtain ⟨w1, _⟩ := storeA_sound hs hH hb0 q1
        obtain ⟨r1, c, E, r2, r3, τ, A', r4, r5, r6⟩ := w1
        exact .inr ⟨r1, c, E, r2, r3, ins ⟨τ, A', _, r4, r5, rfl, r6⟩⟩
      · cases hs
  rcases lenA_slice h1 ha with ⟨p, c, hv⟩ | ⟨s, hv⟩
  · refine fin p c hv ?_
    rintro k0 off l m x rfl
    obtain ⟨b0, ex, hb0, _, hv2⟩ := real_s ha
    rw [hv] at hv2; cases hv2
    exact ⟨b0, rfl, hb0⟩
  · exact absurd hnt (notText_elim ha hv)
theorem clearA_sound (hH : HRel σ A L) {Ts0 : List TypeId} {args : List Operand} {T : TypeId} {Ts : List TypeId} {a : AV} {va : Value} (hT : Ts0 = T :: Ts) (h4 : evvs env args = some [va]) (ha : a.real σ = some va)
    (hs : clearA P A T a K = true) : svcClear P (evCfg rd) env [] L Ts0 args (OpPost σ K) := by
  subst hT
  unfold clearA at hs
  split at hs
  rotate_left
  · cases hs
  rename_i el hu
  split at hs
  rotate_left
  · cases hs
  rename_i z hz
  obtain ⟨dl, h1, hs1⟩ := opt_elim hs
  clear hs
  have hs := hs1
  clear hs1
  have hzi : ∃ i, P.info? el = some i ∧ i.zero = some z := by
    unfold zeroOf at hz
    split at hz
    · rename_i i hi; exact ⟨i, hi, hz⟩
    · cases hz
  obtain ⟨i, hi, hz2⟩ := hzi
  split at hs
  · cases hs
  rename_i hnt
  have hrep := repl_sound (σ := σ) (z := z) dl
  have hzc : ((Array.range (dl * z.cells.size)).map fun j => z.cells[j % z.cells.size]!) = Builtin.zeroCells z.cells dl := rfl
  rw [hzc] at hrep
  rcases lenA_slice h1 ha with ⟨p, c, hv⟩ | ⟨s, hv⟩
  · subst hv
    unfold svcClear
    simp only [h4, hu, hi, hz2]
    split at hs
    · rename_i he
      rw [he] at hrep
      cases hr : (Builtin.zeroCells z.cells dl).toList with
      | nil =>
        refine ⟨rfl, ?_⟩
        unfold pPut
        cases p with
        | none => exact ins (.here hs rfl hH)
        | some ad => exact .inl ⟨rfl, ins (.here hs rfl hH)⟩
      | cons v r => rw [hr] at hrep; cases hrep
    · split at hs
      · rename_i k0 off l m x
        obtain ⟨b0, ex, hb0, _, hv2⟩ := real_s ha
        cases hv2
        obtain ⟨w1, w2⟩ := storeA_sound hs hH hb0 hrep
        obtain ⟨r1, c, E, r2, r3, τ, A', r4, r5, r6⟩ := w1
        exact ⟨w2, .inr ⟨r1, c, E, r2, r3, ins ⟨τ, A', _, r4, r5, rfl, r6⟩⟩⟩
      · cases hs
  · exact absurd hnt (notText_elim ha hv)
theorem evOp_sound (hx : ExtOk P) (hcall : CallOk P call) (hyld : YldOk P yld) (he : ERel σ n e env) (hH : HRel σ A L) (hs : evOp P call yld e A o K = true) : svcOp P (evCfg rd) env [] L o (OpPost σ K) := by
  unfold evOp at hs
  split at hs
  · rename_i x ho
    obtain ⟨a, ha, hk⟩ := opt_elim hs
    obtain ⟨v, h1, h2, _⟩ := evA_sound he ha
    exact svcOp_pure (by unfold pureOp; simp only [ho, h2]) (.here hk h1 hH)
  · rename_i x ho
    obtain ⟨a, ha, hk⟩ := opt_elim hs
    obtain ⟨v, h1, h2, _⟩ := evA_sound he ha
    exact svcOp_pure (by unfold pureOp; simp only [ho, h2]) (.here hk h1 hH)
  · rename_i c x y ho
    have hp : pureOp P env o = none := by unfold pureOp; simp only [ho]
    unfold svcOp
    rw [hp]
    simp only [ho]
    unfold svcPick
    split at hs
    · rename_i hc
      obtain ⟨t, h1, _, h2⟩ := evA_sound he hc
      cases h1
      obtain ⟨a, ha, hk⟩ := opt_elim hs
      obtain ⟨v, h3, h4, _⟩ := evA_sound he ha
      simp only [h2, pIf, h4]
      exact .here hk h3 hH
    · rename_i hc
      obtain ⟨t, h1, _, h2⟩ := evA_sound he hc
      cases h1
      obtain ⟨a, ha, hk⟩ := opt_elim hs
      obtain ⟨v, h3, h4, _⟩ := evA_sound he ha
      simp only [h2, pIf, h4]
      exact .here hk h3 hH
    · cases hs
  · rename_i T ho
    split at hs
    · rename_i d hd
      obtain ⟨z, hz, hk⟩ := opt_elim hs
      have hp : pureOp P env o = none := by unfold pureOp; simp only [ho]
      unfold svcOp
      rw [hp]
      simp only [ho, hz]
      exact svcAlloc_ev hd hH (aCells_real (a := .v z) rfl) hk
    · cases hs
  · rename_i T x ho
    split at hs
    · rename_i d hd
      obtain ⟨a, ha, hk⟩ := opt_elim hs
      obtain ⟨v, h1, _, h2⟩ := evA_sound he ha
      have hp : pureOp P env o = none := by unfold pureOp; simp only [ho]
      unfold svcOp
      rw [hp]
      simp only [ho, h2]
      exact svcAlloc_ev hd hH (aCells_real h1) hk
    · cases hs
  · rename_i t parts ho
    obtain ⟨as, h1, hs⟩ := opt_elim hs
    obtain ⟨cs, h2, hs⟩ := opt_elim hs
    obtain ⟨vs, h3, h4⟩ := evAs_sound he h1
    obtain ⟨cells, h5, h6⟩ := buildA_sound h2 (zip_len h1) h3
    refine svcOp_pure (s := .v (.agg cells)) (by unfold pureOp; simp only [ho, h4, h5]) (.here hs ?_ hH)
    simp [AV.real, h6]
  · rename_i T k parts ho
    have hp : pureOp P env o = none := by unfold pureOp; simp only [ho]
    split at hs
    rotate_left
    · cases hs
    rename_i el hu
    obtain ⟨as, h1, hs⟩ := opt_elim hs
    obtain ⟨vs, h3, h4⟩ := evAs_sound he h1
    split at hs
    rotate_left
    · cases hs
    rename_i i hi
    obtain ⟨z, hz, hs⟩ := opt_elim hs
    split at hs
    rotate_left
    · cases hs
    rename_i hc
    simp only [Bool.and_eq_true] at hc
    have hzs : z.cells.size = i.size := by
      have q1 := reals_length (aCells_real (σ := σ) (a := .v z) rfl)
      have q2 := Nat.eq_of_beq_eq_true hc.2
      simp only [Array.length_toList] at q1; omega
    obtain ⟨cs, h2, hs⟩ := opt_elim hs
    obtain ⟨z1, z2⟩ := zip_map_fst (γ := Nat) _ _ (zip_len h1)
    have hrep := repl_sound (σ := σ) (z := z) k
    obtain ⟨out, q1, q2⟩ := fillAV_sound h2 hrep (by rw [z2]; exact h3)
    rw [z1] at q1
    unfold svcOp
    rw [hp]
    simp only [ho]
    unfold svcBuildSlice
    have hrow : rowCells P el k ((parts.toList.map (·.1)).zip vs) = some out := by
      unfold rowCells
      simp only [hi, hz, hc.1]
      rw [← hzs]
      rw [← hzs] at q1
      rw [Array.toArray_toList] at q1
      exact q1
    simp only [hu, h4, hrow]
    rintro b M hb rfl
    have := newRow_sound (len := 0) hH hb q2 (tot := cs.length) (by rw [reals_length q2]) hs
    exact ins (by simpa using this)
  · rename_i T x ho
    split at hs
    rotate_left
    · cases hs
    rename_i k off hxa
    obtain ⟨a, ha, hk⟩ := opt_elim hs
    obtain ⟨v, h1, h2, _⟩ := evA_sound he hxa
    obtain ⟨b, hb, rfl⟩ := real_p h1
    obtain ⟨u, h3, h4, h5⟩ := loadA_sound ha hH hb
    have hp : pureOp P env o = none := by unfold pureOp; simp only [ho]
    unfold svcOp
    rw [hp]
    simp only [ho]
    unfold svcLoad
    simp only [h2]
    refine ⟨u, ?_⟩
    simp only [h4]
    exact ⟨h5, .here hk h3 hH⟩
  · rename_i T x y ho
    split at hs
    rotate_left
    · cases hs
    rename_i k off hxa
    obtain ⟨a, ha, hs⟩ := opt_elim hs
    split at hs
    rotate_left
    · cases hs
    rename_i i hi
    split at hs
    rotate_left
    · cases hs
    rename_i hsz
    have hsz := Nat.eq_of_beq_eq_true hsz
    obtain ⟨v, h1, h2, _⟩ := evA_sound he hxa
    obtain ⟨b, hb, rfl⟩ := real_p h1
    obtain ⟨u, h3, _, h4⟩ := evA_sound he ha
    have hac := aCells_real h3
    obtain ⟨w1, w2⟩ := storeA_sound hs hH hb hac
    have hp : pureOp P env o = none := by unfold pureOp; simp only [ho]
    unfold svcOp
    rw [hp]
    simp only [ho]
    unfold svcStore
    have hok : storeOK P T u = true := by
      unfold storeOK
      simp only [hi]
      have : Nat.beq u.cells.toList.length i.size = true := by rw [← reals_length hac, hsz]; exact Nat.beq_refl _
      rw [this]; exact w2
    simp only [h4, hok, h2]
    obtain ⟨r1, c, E, r2, r3, τ, A', r4, r5, r6⟩ := w1
    exact ⟨r1, c, E, r2, r3, ins ⟨τ, A', _, r4, r5, rfl, r6⟩⟩
  · rename_i x ho
    split at hs
    · rename_i k off ha
      obtain ⟨v, h1, h2, _⟩ := evA_sound he ha
      obtain ⟨b, hb, rfl⟩ := real_p h1
      exact svcOp_pure (by unfold pureOp; simp only [ho, h2]) (.here hs h1 hH)
    · rename_i g p q ha
      obtain ⟨v, h1, h2, _⟩ := evA_sound he ha
      have h1' := h1
      simp only [AV.real] at h1'
      split at h1'
      · cases h1'; exact svcOp_pure (by unfold pureOp; simp only [ho, h2]) (.here hs h1 hH)
      · cases h1'
    · rename_i g p q ha
      obtain ⟨v, h1, h2, _⟩ := evA_sound he ha
      cases h1
      exact svcOp_pure (by unfold pureOp; simp only [ho, h2]) (.here hs rfl hH)
    · rename_i l ha
      obtain ⟨v, h1, h2, _⟩ := evA_sound he ha
      have h1' := h1
      simp only [AV.real] at h1'
      cases hl : σ.num l with
      | none => rw [hl] at h1'; cases h1'
      | some b => rw [hl] at h1'; cases h1'; exact svcOp_pure (by unfold pureOp; simp only [ho, h2]) (.here hs h1 hH)
    · rename_i t a ha
      obtain ⟨v, h1, h2, _⟩ := evA_sound he ha
      have h1' := h1
      simp only [AV.real] at h1'
      cases hl : a.real σ with
      | none => rw [hl] at h1'; cases h1'
      | some b => rw [hl] at h1'; cases h1'; exact svcOp_pure (by unfold pureOp; simp only [ho, h2]) (.here hs h1 hH)
    · rename_i t a ha
      obtain ⟨v, h1, h2, _⟩ := evA_sound he ha
      cases h1
      exact svcOp_pure (by unfold pureOp; simp only [ho, h2]) (.here hs rfl hH)
    · cases hs
  · rename_i op T x y T' ho
    split at hs
    rotate_left
    · cases hs
    rename_i a b ha hb
    obtain ⟨va, h1, _, h2⟩ := evA_sound he ha
    obtain ⟨vb, h3, _, h4⟩ := evA_sound he hb
    exact binA_sound hH ho h2 h4 h1 h3 hs fun v hk => .here hk rfl hH
  · rename_i op T x ho
    split at hs
    rotate_left
    · cases hs
    rename_i a ha
    obtain ⟨v, hv, hk⟩ := opt_elim hs
    obtain ⟨va, h1, _, h2⟩ := evA_sound he ha
    cases h1
    exact svcOp_pure (s := .v v) (by unfold pureOp; simp only [ho, h2, hv]) (.here hk rfl hH)
  · rename_i S D x ho
    obtain ⟨a, ha, hk⟩ := opt_elim hs
    obtain ⟨va, h1, _, h2⟩ := evA_sound he ha
    exact convA_sound hH ho h2 h1 hk
  · rename_i T x ho
    obtain ⟨a, ha, hs⟩ := opt_elim hs
    obtain ⟨va, h1, _, h2⟩ := evA_sound he ha
    split at hs
    · cases hs
    · rename_i d hd hu
      refine svcOp_pure (s := .v (.iface T va)) ?_ (.here hs (by simp [AV.real, h1]) hH)
      unfold pureOp
      simp only [ho, h2, hu]
    · cases hs
  · rename_i fn first cap ho
    obtain ⟨p, hp, hs⟩ := opt_elim hs
    obtain ⟨q, hq, hs⟩ := opt_elim hs
    obtain ⟨vp, h1, h2⟩ := evAs_sound he hp
    obtain ⟨vq, h3, h4⟩ := evAs_sound he hq
    exact svcOp_pure (s := .v (.func fn vp.toArray vq.toArray)) (by unfold pureOp; simp only [ho, h2, h4]) (.here hs (by simp [AV.real, h1, h3]) hH)
  · rename_i T l c ho
    split at hs
    rotate_left
    · cases hs
    rename_i el kl lj kc cj hu hl hc
    split at hs
    rotate_left
    · cases hs
    rename_i i hi
    obtain ⟨z, hz, hs⟩ := opt_elim hs
    split at hs
    rotate_left
    · cases hs
    rename_i hcond
    simp only [Bool.and_eq_true, decide_eq_true_eq] at hcond
    obtain ⟨⟨⟨⟨c1, c2⟩, c3⟩, c4⟩, c5⟩ := hcond
    have hzs : z.cells.size = i.size := by
      have q1 := reals_length (aCells_real (σ := σ) (a := .v z) rfl)
      have q2 := Nat.eq_of_beq_eq_true c5
      simp only [Array.length_toList] at q1; omega
    obtain ⟨v1, h1, _, h2⟩ := evA_sound he hl
    obtain ⟨v2, h3, _, h4⟩ := evA_sound he hc
    cases h1; cases h3
    have hp : pureOp P env o = none := by unfold pureOp; simp only [ho]
    unfold svcOp
    rw [hp]
    simp only [ho]
    unfold svcMakeSlice
    simp only [hu, h2, h4, hi, hz]
    refine ⟨c1, c2, c3, by omega, ?_⟩
    rintro b M hb rfl
    have hrep := repl_sound (σ := σ) (z := z) cj.toNat
    have := newRow_sound (len := 0) hH hb hrep (tot := cj.toNat * i.size) (by simp [hzs]) hs
    refine ins ?_
    have e1 : madeCells z.cells (cj.toNat * i.size) = ((Array.range (cj.toNat * z.cells.size)).map fun j => z.cells[j % z.cells.size]!).toList.toArray := by rw [Array.toArray_toList, ← hzs]; rfl
    rw [e1]; exact this
  · rename_i T x lo hi mx ho
    have hp : pureOp P env o = none := by unfold pureOp; simp only [ho]
    unfold svcOp
    rw [hp]
    simp only [ho]
    unfold svcSlice
    split at hs
    · rename_i hu
      split at hs
      rotate_left
      · cases hs
      rename_i s hxa
      obtain ⟨v1, h1, _, h2⟩ := evA_sound he hxa
      cases h1
      split at hs
      rotate_left
      · cases hs
      rename_i l h hl hh
      split at hs
      rotate_left
      · cases hs
      rename_i hc
      simp only [Bool.and_eq_true, decide_eq_true_eq] at hc
      simp only [hu, h2, bndA_sound he hl, bndA_sound he hh]
      exact ⟨hc.1.1, hc.1.2, hc.2, .here hs rfl hH⟩
    · rename_i el hu
      split at hs
      rotate_left
      · cases hs
      rename_i i hi'
      split at hs
      · rename_i k off len m y hxa
        obtain ⟨v1, h1, _, h2⟩ := evA_sound he hxa
        obtain ⟨b, ex, hb, hex, rfl⟩ := real_s h1
        split at hs
        rotate_left
        · cases hs
        rename_i l h w hmh hl hh hw
        have hm : mx.isSome = false → w = m := fun h9 => by
          cases mx with
          | none => simp only [bndA, Option.some.injEq] at hw; exact hw.symm
          | some y => cases h9
        obtain ⟨r1, r2, r3, r4, r5⟩ := sliceA_sound hH hb hex hs hm
        have hbm : bnd env mx (m + ex) = some (if mx.isSome then w else ((m + ex : Nat) : Int)) := by
          cases mx with
          | none => rfl
          | some y => exact bndA_other he rfl hw
        simp only [hu, hi', h2, hmh, bndA_sound he hl, bndA_sound he hh, hbm]
        cases hms : mx.isSome with
        | true =>
          rw [hms] at r5
          simp only [if_true] at r5 ⊢
          exact ⟨r1, r2, r3, by omega, ins r5⟩
        | false =>
          rw [hms] at r5
          simp only [Bool.false_eq_true, if_false] at r5 ⊢
          have := hm hms
          refine ⟨r1, r2, by omega, by omega, ins ?_⟩
          rw [Int.toNat_natCast]
          exact r5
      · rename_i len cap hxa
        obtain ⟨v1, h1, _, h2⟩ := evA_sound he hxa
        cases h1
        split at hs
        rotate_left
        · cases hs
        rename_i l h w hmh hl hh hw
        split at hs
        rotate_left
        · cases hs
        rename_i hc
        simp only [Bool.and_eq_true, decide_eq_true_eq] at hc
        simp only [hu, hi', h2, hmh, bndA_sound he hl, bndA_sound he hh, bndA_sound he hw]
        refine ⟨hc.1.1.1, hc.1.1.2, hc.1.2, hc.2, ?_⟩
        have : advP none l.toNat w.toNat i.size = none := by unfold advP; split <;> rfl
        rw [this]
        exact .here hs rfl hH
      · cases hs
    · cases hs
  · rename_i S x f ho
    obtain ⟨off, hoff, hs⟩ := opt_elim hs
    split at hs
    rotate_left
    · cases hs
    rename_i k o' hxa
    obtain ⟨v1, h1, h2, _⟩ := evA_sound he hxa
    obtain ⟨b, hb, rfl⟩ := real_p h1
    refine svcOp_pure (s := .v (.pointer (some ((⟨b, o', none⟩ : Addr).add off)))) (by unfold pureOp; simp only [ho, hoff, h2]) (.here hs ?_ hH)
    rw [add_spot rfl]; simp [AV.real, hb]
  · rename_i S x f ho
    obtain ⟨a, ha, hs⟩ := opt_elim hs
    obtain ⟨cs, hcs, hs⟩ := opt_elim hs
    obtain ⟨b, hb, hs⟩ := opt_elim hs
    obtain ⟨v1, h1, _, h2⟩ := evA_sound he ha
    obtain ⟨l, rfl, h3⟩ := aList_real hcs h1
    have key : ∃ v, fieldVal P S l.toList f = some v ∧ b.real σ = some v := by
      unfold fieldA at hb
      unfold fieldVal
      split at hb
      rotate_left
      · cases hb
      rename_i fs hu
      split at hb
      rotate_left
      · cases hb
      rename_i fl hfl
      split at hb
      · rename_i fs2 hu2
        split at hb
        · rename_i i hi
          simp only [Option.some.injEq] at hb; subst hb
          have := reals_take (reals_drop h3 fl.offset) i.size
          exact ⟨.agg ((l.toList.drop fl.offset).take i.size).toArray, by simp only [hu, hfl, hu2, hi], by simp [AV.real, this]⟩
        · cases hb
      · rename_i n2 e2 hu2
        split at hb
        · rename_i i hi
          simp only [Option.some.injEq] at hb; subst hb
          have := reals_take (reals_drop h3 fl.offset) i.size
          exact ⟨.agg ((l.toList.drop fl.offset).take i.size).toArray, by simp only [hu, hfl, hu2, hi], by simp [AV.real, this]⟩
        · cases hb
      · rename_i d hd1 hd2 hu2
        obtain ⟨v, q1, q2⟩ := reals_get h3 hb
        refine ⟨v, ?_, q2⟩
        simp only [hu, hfl, hu2]
        cases d <;> first | exact q1 | exact absurd rfl (hd1 _) | exact absurd rfl (hd2 _ _)
      · cases hb
    obtain ⟨v, q1, q2⟩ := key
    exact svcOp_pure (s := .v v) (by unfold pureOp; simp only [ho, h2, q1]) (.here hs q2 hH)
  · rename_i T x j ho
    have hp : pureOp P env o = none := by unfold pureOp; simp only [ho]
    unfold svcOp
    rw [hp]
    simp only [ho]
    unfold svcIndexAddr
    split at hs
    · rename_i el hu
      split at hs
      rotate_left
      · cases hs
      rename_i i k off len m w kj jn hi hxa hja
      obtain ⟨v1, h1, h1s, h2⟩ := evA_sound he hxa
      obtain ⟨b, ex, hb, hex, rfl⟩ := real_s h1
      obtain ⟨v2, h3, _, h4⟩ := evA_sound he hja
      cases h3
      split at hs
      rotate_left
      · cases hs
      rename_i hc
      simp only [Bool.and_eq_true, decide_eq_true_eq] at hc
      simp only [hu, hi, h2, h4]
      refine ⟨hc.1, hc.2, ?_⟩
      show OpPost σ K _ [] L
      rw [add_spot rfl]
      exact .here hs (by simp [AV.real, hb]) hH
    · rename_i len el hu
      split at hs
      rotate_left
      · cases hs
      rename_i i k off kj jn hi hxa hja
      obtain ⟨v1, h1, h1s, h2⟩ := evA_sound he hxa
      obtain ⟨b, hb, rfl⟩ := real_p h1
      obtain ⟨v2, h3, _, h4⟩ := evA_sound he hja
      cases h3
      split at hs
      rotate_left
      · cases hs
      rename_i hc
      simp only [Bool.and_eq_true, decide_eq_true_eq] at hc
      simp only [hu, hi, h1s, h4]
      refine ⟨hc.1, hc.2, ?_⟩
      rw [add_spot rfl]
      exact .here hs (by simp [AV.real, hb]) hH
    · cases hs
  · rename_i T x j ho
    have hp : pureOp P env o = none := by unfold pureOp; simp only [ho]
    unfold svcOp
    rw [hp]
    simp only [ho]
    unfold svcIndex
    split at hs
    rotate_left
    · cases hs
    rename_i hu
    split at hs
    rotate_left
    · cases hs
    rename_i s kj jn hxa hja
    obtain ⟨v1, h1, _, h2⟩ := evA_sound he hxa
    obtain ⟨v2, h3, _, h4⟩ := evA_sound he hja
    cases h1; cases h3
    split at hs
    rotate_left
    · cases hs
    rename_i hc
    obtain ⟨b, hb, hs⟩ := opt_elim hs
    simp only [hu, h2, h4]
    refine ⟨of_decide_eq_true hc, b, ?_, .here hs rfl hH⟩
    have : s[jn.toNat]? = s.data[jn.toNat]? := rfl
    rw [this]; simpa using hb
  · rename_i T x ho
    have hp : pureOp P env o = none := by unfold pureOp; simp only [ho]
    unfold svcOp
    rw [hp]
    simp only [ho]
    unfold svcRangeS
    split at hs
    rotate_left
    · cases hs
    rename_i hu
    split at hs
    rotate_left
    · cases hs
    rename_i s hxa
    obtain ⟨v1, h1, _, h2⟩ := evA_sound he hxa
    cases h1
    simp only [hu, h2]
    rintro b M hb rfl
    obtain ⟨hlt, hs1⟩ := new_elim hs
    obtain ⟨hl, hH2⟩ := hH.alloc (o := fun _ => .iter s 0) (ob := .stringIter s 0) hb hlt (fun f hf => by cases hf) ⟨b, num_set_same _ _ _, upd_same _ _ _⟩
    exact ins ⟨_, _, _, hl, hs1, by simp [AV.real, num_set_same], hH2⟩
  · rename_i it ho
    have hp : pureOp P env o = none := by unfold pureOp; simp only [ho]
    unfold svcOp
    rw [hp]
    simp only [ho]
    unfold svcNextS
    split at hs
    rotate_left
    · cases hs
    rename_i k hxa
    obtain ⟨v1, h1, _, h2⟩ := evA_sound he hxa
    obtain ⟨b, hb, rfl⟩ := real_p h1
    split at hs
    rotate_left
    · cases hs
    rename_i s pos hk
    obtain ⟨b0, q1, q2⟩ := hH.blk _ _ hk
    rw [hb] at q1; cases q1
    simp only [h2]
    refine ⟨s, pos, q2, ?_⟩
    split at hs
    · rename_i hlt
      rw [hlt]
      simp only [pIf]
      show OpPost σ K _ [] _
      have hkl := hH.key _ _ hk
      refine ins ⟨σ, _, _, Le.refl σ, hs, rfl, hH.like (Like.put hkl hk rfl) fun j p hj => ?_⟩
      rw [put_get hkl] at hj
      split at hj
      · rename_i ej; cases hj; subst ej; exact ⟨b, hb, upd_same _ _ _⟩
      · rename_i ej
        refine (hH.blk j p hj).mono (Le.refl σ) fun b' y hb' hy => ?_
        rw [upd_other]
        · exact hy
        · intro e9; subst e9
          rcases hH.inj k j _ _ b' hk hj hb hb' with e8 | ⟨f, e8, _⟩
          · exact ej e8.symm
          · cases e8
    · rename_i hlt
      rw [hlt]
      simp only [pIf]
      exact .here hs rfl hH
  · rename_i x j ho
    split at hs
    · rename_i vs hxa
      obtain ⟨a, ha, hs⟩ := opt_elim hs
      obtain ⟨v1, h1, _, h2⟩ := evA_sound he hxa
      simp only [AV.real] at h1
      cases hr : reals σ vs with
      | none => rw [hr] at h1; cases h1
      | some ws =>
        rw [hr] at h1; cases h1
        obtain ⟨v, q1, q2⟩ := reals_get hr ha
        exact svcOp_pure (s := .v v) (by unfold pureOp; simp only [ho, h2]; simp [q1]) (.here hs q2 hH)
    · rename_i vs hxa
      obtain ⟨a, ha, hs⟩ := opt_elim hs
      obtain ⟨v1, h1, _, h2⟩ := evA_sound he hxa
      cases h1
      exact svcOp_pure (s := .v a) (by unfold pureOp; simp only [ho, h2]; simp at ha; simp [ha]) (.here hs rfl hH)
    · cases hs
  · rename_i c ho
    split at hs
    · rename_i f hc
      have hp : pureOp P env o = none := by unfold pureOp; simp only [ho, hc]
      obtain ⟨fa, hfa, hs⟩ := opt_elim hs
      obtain ⟨as, has, hs⟩ := opt_elim hs
      obtain ⟨fv, h1, _, h2⟩ := evA_sound he hfa
      obtain ⟨vs, h3, h4⟩ := evAs_sound he has
      unfold svcOp
      rw [hp]
      simp only [ho, hc]
      exact callA_sound hx hcall hyld hH h2 h1 h4 h3 hs
    · rename_i hc
      split at hs
      rotate_left
      · cases hs
      rename_i T a hT has
      obtain ⟨vs, h3, h4⟩ := evAs_sound he has
      obtain ⟨v, w, h5, h6, rfl⟩ := reals_cons.1 h3
      cases h6
      split at hs
      · rename_i s hu
        cases h5
        exact svcOp_pure (s := .v (.int .i64 s.size)) (by unfold pureOp; simp only [ho, hc, hT, h4, hu]) (.here hs rfl hH)
      · rename_i el k off len m x hu
        obtain ⟨b, ex, _, _, rfl⟩ := real_s h5
        exact svcOp_pure (s := .v (.int .i64 len)) (by unfold pureOp; simp only [ho, hc, hT, h4, hu]) (.here hs rfl hH)
      · rename_i el x hu
        obtain ⟨ad, cp, rfl⟩ := real_z h5
        exact svcOp_pure (s := .v (.int .i64 (0 : Nat))) (by unfold pureOp; simp only [ho, hc, hT, h4, hu]) (.here hs rfl hH)
      · rename_i el p len cp hu
        cases h5
        exact svcOp_pure (s := .v (.int .i64 len)) (by unfold pureOp; simp only [ho, hc, hT, h4, hu]) (.here hs rfl hH)
      · rename_i kt et hu
        cases h5
        exact svcOp_pure (s := .v (.int .i64 0)) (by unfold pureOp; simp only [ho, hc, hT, h4, hu]) (.here hs rfl hH)
      · cases hs
    · rename_i hc
      split at hs
      rotate_left
      · cases hs
      rename_i T a hT has
      obtain ⟨vs, h3, h4⟩ := evAs_sound he has
      obtain ⟨v, w, h5, h6, rfl⟩ := reals_cons.1 h3
      cases h6
      split at hs
      · rename_i el k off len m hu
        obtain ⟨b, ex, _, hex, rfl⟩ := real_s h5
        cases hex
        exact svcOp_pure (s := .v (.int .i64 ((m + 0 : Nat) : Int))) (by unfold pureOp; simp only [ho, hc, hT, h4, hu]) (.here hs rfl hH)
      · rename_i el k off len m y hu
        obtain ⟨b, ex, _, hex, rfl⟩ := real_s h5
        exact svcOp_pure (s := .v (.int .i64 ((m + ex : Nat) : Int))) (by unfold pureOp; simp only [ho, hc, hT, h4, hu]) (.here hs (by simp only [AV.real]; rw [show σ.num y = some ex from hex]; rfl) hH)
      · rename_i el p len m hu
        cases h5
        exact svcOp_pure (s := .v (.int .i64 m)) (by unfold pureOp; simp only [ho, hc, hT, h4, hu]) (.here hs rfl hH)
      · cases hs
    · rename_i hc
      split at hs
      rotate_left
      · cases hs
      rename_i k x k2 y has
      obtain ⟨vs, h3, h4⟩ := evAs_sound he has
      cases h3
      exact svcOp_pure (s := .v (.int k (if y < x then y else x))) (by unfold pureOp; simp only [ho, hc, h4]) (.here hs rfl hH)
    · rename_i hc
      split at hs
      rotate_left
      · cases hs
      rename_i k x k2 y has
      obtain ⟨vs, h3, h4⟩ := evAs_sound he has
      cases h3
      exact svcOp_pure (s := .v (.int k (if y > x then y else x))) (by unfold pureOp; simp only [ho, hc, h4]) (.here hs rfl hH)
    · rename_i hc
      have hp : pureOp P env o = none := by unfold pureOp; simp only [ho, hc]
      split at hs
      rotate_left
      · cases hs
      rename_i T T2 a b hT has
      obtain ⟨vs, h3, h4⟩ := evAs_sound he has
      obtain ⟨va, w, h5, h6, rfl⟩ := reals_cons.1 h3
      obtain ⟨vb, w, h7, h8, rfl⟩ := reals_cons.1 h6
      cases h8
      unfold svcOp
      rw [hp]
      simp only [ho, hc]
      have hsl : ∀ {K2 : Prop}, appendA P A T a b K = true → (∀ el p len cap, P.underlying T = some (.slice el) → va = .slice p len cap → K2) → K2 := fun {K2} ha hk => by
        unfold appendA at ha
        split at ha
        · rename_i el hu
          split at ha
          · split at ha
            · obtain ⟨k, hk1, ha⟩ := opt_elim ha
              obtain ⟨xs, hk2, ha⟩ := opt_elim ha
              split at ha
              · split at ha
                · cases h5; exact hk el _ _ _ hu rfl
                · obtain ⟨b0, ex, _, _, hv⟩ := real_s h5; exact hk el _ _ _ hu hv
                · cases ha
              · cases ha
            · cases ha
          · cases ha
        · cases ha
      split at hs
      · rename_i el2 hu2
        refine hsl hs fun el p len cap hu hv => ?_
        subst hv
        unfold svcAppend
        simp only [hT, h4, hu, hu2]
        exact appendA_sound hH hu h5 h7 hs
      · rename_i hu2
        refine hsl hs fun el p len cap hu hv => ?_
        subst hv
        unfold svcAppend
        simp only [hT, h4, hu, hu2]
        exact appendA_sound hH hu h5 h7 hs
      · cases hs
    · rename_i hc
      have hp : pureOp P env o = none := by unfold pureOp; simp only [ho, hc]
      split at hs
      rotate_left
      · cases hs
      rename_i T Ts a b hT has
      obtain ⟨vs, h3, h4⟩ := evAs_sound he has
      obtain ⟨va, w, h5, h6, rfl⟩ := reals_cons.1 h3
      obtain ⟨vb, w, h7, h8, rfl⟩ := reals_cons.1 h6
      cases h8
      unfold svcOp
      rw [hp]
      simp only [ho, hc]
      exact copyA_sound hH hT h4 h5 h7 hs
    · rename_i hc
      have hp : pureOp P env o = none := by unfold pureOp; simp only [ho, hc]
      split at hs
      rotate_left
      · cases hs
      rename_i T Ts a hT has
      obtain ⟨vs, h3, h4⟩ := evAs_sound he has
      obtain ⟨va, w, h5, h6, rfl⟩ := reals_cons.1 h3
      cases h6
      unfold svcOp
      rw [hp]
      simp only [ho, hc]
      exact clearA_sound hH hT h4 h5 hs
    · cases hs
  · cases hs
end
end Go.Proofs.YtmcaejnofmbilaaGreat.Tri
