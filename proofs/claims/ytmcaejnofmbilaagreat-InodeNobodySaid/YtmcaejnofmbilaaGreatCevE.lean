/- The evaluator: '==', arithmetic, conversions, pieces. -/
import Derived.Test.YtmcaejnofmbilaaGreatCevD
namespace Go.Proofs.YtmcaejnofmbilaaGreat.Tri
set_option linter.all false
open Go.RowKit
section
variable {P : Program} {σ : Sg} {n : Nat} {e : AEnv} {env : Env} {A : AH} {L : Heap} {o : Oper} {K : CK} {rd : Option Nat}

theorem bytesEq_eq : ∀ a b : List UInt8, bytesEq a b = (a == b)
  | [], [] => rfl
  | [], _ :: _ => rfl
  | _ :: _, [] => rfl
  | a :: r, b :: s => by
    unfold bytesEq
    cases h : Nat.beq a.toNat b.toNat with
    | true =>
      have := UInt8.toNat_inj.1 (Nat.eq_of_beq_eq_true h); subst this
      simp only; rw [bytesEq_eq r s]; simp
    | false =>
      have hne : a ≠ b := fun e => by subst e; rw [Nat.beq_refl] at h; cases h
      simp [hne]
theorem bytesLt_eq : ∀ a b : List UInt8, bytesLt a b = Op.bytesLess a b
  | [], [] => rfl
  | [], _ :: _ => rfl
  | _ :: _, [] => rfl
  | a :: r, b :: s => by
    unfold bytesLt Op.bytesLess
    cases h : Nat.blt a.toNat b.toNat with
    | true =>
      have : a < b := UInt8.lt_iff_toNat_lt.2 (by simpa [Nat.blt_eq] using h)
      simp [this]
    | false =>
      have hn : ¬ a < b := fun h9 => by
        have : Nat.blt a.toNat b.toNat = true := by simpa [Nat.blt_eq] using UInt8.lt_iff_toNat_lt.1 h9
        rw [h] at this; cases this
      simp only
      cases h2 : Nat.beq a.toNat b.toNat with
      | true =>
        have := UInt8.toNat_inj.1 (Nat.eq_of_beq_eq_true h2); subst this
        simp only; rw [bytesLt_eq r s]; simp [hn]
      | false =>
        have hne : a ≠ b := fun e => by subst e; rw [Nat.beq_refl] at h2; cases h2
        simp [hn, hne]
theorem svcOp_bin {cfg : Cfg} {bx : Bx} {op : BinOp} {T T' : TypeId} {x y : Operand} {a b : Value} {Ko : SV → Bx → Heap → Prop} (ho : o.op = .binOp op T x y T') (hx : evv env x = some a) (hy : evv env y = some b)
    (h : match binPure P op T a b with
      | some v => Ko (.v v) bx L
      | none => svcBin P env bx L op T x y Ko) : svcOp P cfg env bx L o Ko := by
  unfold svcOp
  cases hb : binPure P op T a b with
  | some v =>
    rw [hb] at h
    have hp : pureOp P env o = some (.v v) := by unfold pureOp; simp only [ho, hx, hy, hb]
    rw [hp]; exact h
  | none =>
    rw [hb] at h
    have hp : pureOp P env o = none := by unfold pureOp; simp only [ho, hx, hy, hb]
    rw [hp]; simp only [ho]; exact h
theorem binV_sound {cfg : Cfg} {bx : Bx} {op : BinOp} {T T' : TypeId} {x y : Operand} {a b : Value} {Kv : Value → Bool} {Ko : SV → Bx → Heap → Prop} (ho : o.op = .binOp op T x y T') (hx : evv env x = some a) (hy : evv env y = some b)
    (hs : binV P op T x y a b Kv = true) (hk : ∀ v, Kv v = true → Ko (.v v) bx L) : svcOp P cfg env bx L o Ko := by
  refine svcOp_bin ho hx hy ?_
  unfold binV at hs
  split at hs
  · rename_i s t
    have e1 : bytesEq s.data.toList t.data.toList = (s.toList == t.toList) := by rw [bytesEq_eq, ByteArray.toList_eq, ByteArray.toList_eq]
    have e2 : bytesLt s.data.toList t.data.toList = Op.bytesLess s.toList t.toList := by rw [bytesLt_eq, ByteArray.toList_eq, ByteArray.toList_eq]
    rw [e1, e2] at hs
    cases op <;> simp only [binPure, reduceCtorEq] at hs ⊢ <;> first
      | exact hk _ hs
      | skip
    · split at hs
      · rename_i hle
        have hle := Nat.le_of_ble_eq_true hle
        unfold svcBin
        simp only [hx, hy]
        exact ⟨by omega, hk _ hs⟩
      · cases hs
  · split at hs
    · rename_i v hv
      rw [hv]; exact hk _ hs
    · rename_i hnone
      rw [hnone]
      simp only
      unfold svcBin
      simp only [hx, hy]
      split at hs
      · rename_i k u k' w
        simp only
        split at hs
        · rename_i hkk
          split at hs <;> simp only [hkk] <;> first
            | (split at hs
               · cases hs
               · rename_i h0; exact ⟨of_decide_eq_false h0, hk _ hs⟩)
            | (split at hs
               · rename_i h0; exact ⟨of_decide_eq_true h0, hk _ hs⟩
               · cases hs)
            | cases hs
        · split at hs <;> first
            | (split at hs
               · rename_i h0; exact ⟨of_decide_eq_true h0, hk _ hs⟩
               · cases hs)
            | cases hs
      · split at hs
        · rename_i hc
          split at hs
          · rename_i ms hu
            simp only [hc, hu]
            split at hs
            · exact hk _ hs
            · exact hk _ hs
            · cases hs
          · cases hs
        · cases hs
      · cases hs
theorem isEq_elim {op : BinOp} {r : Bool} {Kv : Value → Bool} (h : isEq op r Kv = true) : (op = .eql ∧ Kv (.bool r) = true) ∨ (op = .neq ∧ Kv (.bool (!r)) = true) := by
  unfold isEq at h
  split at h
  · exact .inl ⟨rfl, h⟩
  · exact .inr ⟨rfl, h⟩
  · cases h
theorem cmp_sound {op : BinOp} {T : TypeId} {a b : Int} (h : isCmp op = true) : ∃ t : Bool, binPure P op T (.int .i64 a) (.int .i64 b) = some (.bool t) := by
  cases op <;> first
    | (simp [isCmp] at h; done)
    | exact ⟨_, by simp [binPure]; rfl⟩
theorem knownV_reals {σ : Sg} : ∀ {l : List AV} {u : List Value}, knownV l = some u → reals σ l = some u
  | [], u, h => by cases h; rfl
  | a :: r, u, h => by
    unfold knownV at h
    split at h
    · rename_i heq; cases heq
    · rename_i x r' heq
      cases heq
      split at h
      · rename_i xs hx
        cases h
        exact reals_cons.2 ⟨_, _, rfl, knownV_reals hx, rfl⟩
      · cases h
    · cases h
theorem binA_sound (hH : HRel σ A L) {cfg : Cfg} {bx : Bx} {op : BinOp} {T T' : TypeId} {x y : Operand} {a b : AV} {va vb : Value} {Kv : Value → Bool} {Ko : SV → Bx → Heap → Prop} (ho : o.op = .binOp op T x y T') (hx : evv env x = some va) (hy : evv env y = some vb)
    (ha : a.real σ = some va) (hb : b.real σ = some vb) (hs : binA P A op T x y a b Kv = true) (hk : ∀ v, Kv v = true → Ko (.v v) bx L) : svcOp P cfg env bx L o Ko := by
  unfold binA at hs
  split at hs
  · cases ha; cases hb; exact binV_sound ho hx hy hs hk
  · rename_i k off
    simp only [AV.real] at ha
    cases hσ : σ.num k with
    | none => rw [hσ] at ha; cases ha
    | some bk =>
      rw [hσ] at ha; cases ha; cases hb
      split at hs
      · rename_i el hu
        refine svcOp_bin ho hx hy ?_
        rcases isEq_elim hs with ⟨rfl, h⟩ | ⟨rfl, h⟩ <;> simp only [binPure, hu] <;> exact hk _ h
      · cases hs
  · rename_i k off k' off'
    simp only [AV.real] at ha hb
    cases hσ : σ.num k with
    | none => rw [hσ] at ha; cases ha
    | some bk =>
      cases hσ' : σ.num k' with
      | none => rw [hσ'] at hb; cases hb
      | some bk' =>
        rw [hσ] at ha; cases ha
        rw [hσ'] at hb; cases hb
        split at hs
        · rename_i el hu
          split at hs
          · rename_i i hi
            split at hs
            · cases hs
            · rename_i h0
              split at hs
              · rename_i fam E cs tot esz w fam' E' cs' tot' esz' w' hk1 hk2
                have known : ∀ {j b fam E cs tot esz w off}, A.get j = some (.cells fam E true cs tot esz w) → σ.num j = some b → knownAt L ⟨b, off, none⟩ := fun {j b fam E cs tot esz w off} hj hbj => by
                  obtain ⟨b0, e0, c, fz, vs, q1, q2, q3, q4, _⟩ := hH.blk _ _ hj
                  rw [hbj] at q1; cases q1
                  have := q4 rfl; subst this
                  exact ⟨c, E, q3⟩
                refine svcOp_bin ho hx hy ?_
                have hn : binPure P op T (.pointer (some ⟨bk, off, none⟩)) (.pointer (some ⟨bk', off', none⟩)) = none := rfl
                rw [hn]
                simp only
                unfold svcBin
                simp only [hx, hy, hu, hi]
                cases hsz : i.size with
                | zero => rw [hsz] at h0; simp at h0
                | succ sz =>
                  simp only
                  obtain ⟨r, hr, hre⟩ : ∃ r : Bool, (r = true ↔ (some (⟨bk, off, none⟩ : Addr)) = some ⟨bk', off', none⟩) ∧ isEq op r Kv = true := by
                    cases hkk : Nat.beq k k' with
                    | true =>
                      rw [hkk] at hs
                      have := Nat.eq_of_beq_eq_true hkk; subst this
                      rw [hσ] at hσ'; cases hσ'
                      refine ⟨_, ?_, hs⟩
                      constructor
                      · intro h; rw [Nat.eq_of_beq_eq_true h]
                      · intro h; cases h; exact Nat.beq_refl _
                    | false =>
                      rw [hkk] at hs
                      simp only at hs
                      cases hff : Nat.beq fam fam' with
                      | true => rw [hff] at hs; cases hs
                      | false =>
                        rw [hff] at hs
                        refine ⟨_, ?_, hs⟩
                        constructor
                        · intro h; cases h
                        · intro h
                          cases h
                          rcases hH.inj k k' _ _ bk hk1 hk2 hσ hσ' with h1 | ⟨f, h1, h2⟩
                          · subst h1; rw [Nat.beq_refl] at hkk; cases hkk
                          · cases h1; cases h2; rw [Nat.beq_refl] at hff; cases hff
                  have hkn : ∀ u v, (some (⟨bk, off, none⟩ : Addr)) = some u → (some (⟨bk', off', none⟩ : Addr)) = some v → u ≠ v → knownAt L u ∧ knownAt L v := fun u v hu hv _ => by
                    cases hu; cases hv; exact ⟨known hk1 hσ, known hk2 hσ'⟩
                  rcases isEq_elim hre with ⟨rfl, h⟩ | ⟨rfl, h⟩
                  · exact ⟨r, hr, hkn, hk _ h⟩
                  · exact ⟨r, hr, hkn, hk _ h⟩
              · cases hs
          · cases hs
        · cases hs
  · rename_i k off len m w l2 c2
    simp only [AV.real] at ha
    split at ha
    · cases ha; cases hb
      split at hs
      · rename_i el hu
        refine svcOp_bin ho hx hy ?_
        rcases isEq_elim hs with ⟨rfl, h⟩ | ⟨rfl, h⟩ <;> simp only [binPure, hu] <;> exact hk _ h
      · cases hs
    · cases ha
  · rename_i fn p q
    simp only [AV.real] at ha
    split at ha
    · cases ha; cases hb
      split at hs
      · rename_i r1 r2 r3 hu
        refine svcOp_bin ho hx hy ?_
        rcases isEq_elim hs with ⟨rfl, h⟩ | ⟨rfl, h⟩ <;> simp only [binPure, hu] <;> exact hk _ h
      · cases hs
    · cases ha
  · rename_i t w
    simp only [AV.real] at ha
    cases hw : w.real σ with
    | none => rw [hw] at ha; cases ha
    | some v =>
      rw [hw] at ha; cases ha; cases hb
      split at hs
      · rename_i ms hu
        refine svcOp_bin ho hx hy ?_
        rcases isEq_elim hs with ⟨rfl, h⟩ | ⟨rfl, h⟩ <;> simp only [binPure, hu] <;> exact hk _ h
      · cases hs
  · rename_i m w i
    simp only [AV.real] at ha
    cases hw : σ.num w with
    | none => rw [hw] at ha; cases ha
    | some v =>
      rw [hw] at ha; cases ha; cases hb
      split at hs
      · rename_i hc
        split at hs
        · rename_i h1
          obtain ⟨t, ht⟩ := cmp_sound (P := P) (T := T) (a := ((m + v : Nat) : Int)) (b := i) hc
          refine svcOp_bin ho hx hy ?_
          rw [ht]
          cases t
          · exact hk _ hs
          · exact hk _ h1
        · cases hs
      · cases hs
  · rename_i i m w
    simp only [AV.real] at hb
    cases hw : σ.num w with
    | none => rw [hw] at hb; cases hb
    | some v =>
      rw [hw] at hb; cases hb; cases ha
      split at hs
      · rename_i hc
        split at hs
        · rename_i h1
          obtain ⟨t, ht⟩ := cmp_sound (P := P) (T := T) (a := i) (b := ((m + v : Nat) : Int)) hc
          refine svcOp_bin ho hx hy ?_
          rw [ht]
          cases t
          · exact hk _ hs
          · exact hk _ h1
        · cases hs
      · cases hs
  · rename_i xs ys
    obtain ⟨u, hu, hs⟩ := opt_elim hs
    obtain ⟨v, hv, hs⟩ := opt_elim hs
    simp only [AV.real, knownV_reals hu] at ha
    simp only [AV.real, knownV_reals hv] at hb
    cases ha; cases hb
    exact binV_sound ho hx hy hs hk
  · rename_i xs b
    obtain ⟨u, hu, hs⟩ := opt_elim hs
    simp only [AV.real, knownV_reals hu] at ha
    cases ha; cases hb
    exact binV_sound ho hx hy hs hk
  · rename_i a ys
    obtain ⟨v, hv, hs⟩ := opt_elim hs
    simp only [AV.real, knownV_reals hv] at hb
    cases ha; cases hb
    exact binV_sound ho hx hy hs hk
  · cases hs

theorem new_elim {o : Nat → AO} {Kn : Nat → AH → Bool} (h : A.new o Kn = true) : A.nxt < nameMax ∧ Kn A.nxt { A with nxt := A.nxt + 1, tab := A.tab.set 24 A.nxt (o A.nxt) } = true := by
  unfold AH.new at h
  split at h
  · rename_i hlt; exact ⟨by simpa [Nat.blt_eq] using hlt, h⟩
  · cases h
theorem name_elim {Kn : Nat → AH → Bool} (h : A.name Kn = true) : Kn A.nxt { A with nxt := A.nxt + 1 } = true := h
/-! conversions -/
theorem toBytes_sound : ∀ {cs : List AV} {l : List UInt8} {vs : List Value}, toBytes cs = some l → reals σ cs = some vs → vs = l.map fun b => .int .u8 b.toNat
  | [], l, vs, h, hr => by
    simp only [toBytes, Option.some.injEq] at h; subst h
    cases hr; rfl
  | a :: r, l, vs, h, hr => by
    obtain ⟨v, w, h1, h2, rfl⟩ := reals_cons.1 hr
    cases a with
    | v x =>
      cases x with
      | int k m =>
        cases k <;> simp only [toBytes, reduceCtorEq] at h
        cases h3 : (decide (0 ≤ m) && decide (m < 256)) with
        | false => rw [h3] at h; cases h
        | true =>
          cases h4 : toBytes r with
          | none => rw [h3, h4] at h; cases h
          | some l' =>
            rw [h3, h4] at h
            simp only [Option.some.injEq] at h; subst h
            simp only [Bool.and_eq_true, decide_eq_true_eq] at h3
            rw [toBytes_sound h4 h2]
            simp only [AV.real, Option.some.injEq] at h1; subst h1
            simp only [List.map_cons, List.cons.injEq, Value.int.injEq, true_and, and_true]
            have : (UInt8.ofNat m.toNat).toNat = m.toNat := by simp; omega
            rw [this]; omega
      | _ => simp [toBytes] at h
    | _ => simp [toBytes] at h
theorem svcOp_conv {cfg : Cfg} {bx : Bx} {S D : TypeId} {x : Operand} {Ko : SV → Bx → Heap → Prop} (ho : o.op = .convert S D x) (hp : pureOp P env o = none) (h : svcConvert P env bx L S D x Ko) : svcOp P cfg env bx L o Ko := by
  unfold svcOp; rw [hp]; simp only [ho]; exact h
theorem convA_sound (hH : HRel σ A L) {S D : TypeId} {x : Operand} {a : AV} {v : Value} (ho : o.op = .convert S D x) (hx : evv env x = some v) (ha : a.real σ = some v) (hs : convA P A S D a K = true) : svcOp P (evCfg rd) env [] L o (OpPost σ K) := by
  unfold convA at hs
  split at hs
  · rename_i k m
    cases ha
    split at hs
    · rename_i d1 k' hS hD
      refine svcOp_pure (s := .v (.int k' (k'.wrap m))) ?_ (.here hs rfl hH)
      unfold pureOp; simp only [ho, hx, hS, hD]
    · rename_i d1 hS hD
      refine svcOp_pure (s := .v (.string (Utf8.encode m))) ?_ (.here hs rfl hH)
      unfold pureOp; simp only [ho, hx, hS, hD]
    · cases hs
  · rename_i s
    cases ha
    split at hs
    · rename_i hS hD
      refine svcOp_pure (s := .v (.string s)) ?_ (.here hs rfl hH)
      unfold pureOp; simp only [ho, hx, hS, hD]
    · rename_i el hS hD
      split at hs
      · rename_i hu
        refine svcOp_conv ho (by unfold pureOp; simp only [ho, hx, hS, hD]) ?_
        unfold svcConvert
        simp only [hx, hS, hD, hu]
        rintro b c M hb hc rfl
        obtain ⟨hlt, hs⟩ := new_elim (name_elim hs)
        obtain ⟨hl1, hH1⟩ := hH.name (.n (c - s.size))
        have hrow : reals ((σ.set A.nxt (.n (c - s.size))).set (A.nxt + 1) (.n b)) (s.data.toList.map fun b => AV.v (.int .u8 b.toNat)) = some (byteCells s) := reals_map_v _ _
        have hx1 : (σ.set A.nxt (.n (c - s.size))).num A.nxt = some (c - s.size) := num_set_same _ _ _
        have hbl : (byteCells s).length = s.size := by simp [byteCells]
        obtain ⟨hl2, hH2⟩ := hH1.alloc (o := fun k => .cells k el false (s.data.toList.map fun b => .v (.int .u8 b.toNat)) s.size 1 (some A.nxt)) (ob := .cells (byteCells s ++ List.replicate (c - s.size) (Value.int .u8 0)).toArray el (c, c + 1)) hb hlt (fun f hf => by cases hf; rfl)
          ⟨b, c - s.size, _, (c, c + 1), byteCells s, num_set_same _ _ _, (Le.set _ (hH1.dom _ (Nat.le_refl _))).num hx1, upd_same _ _ _, (fun h => by cases h), (by simp [hbl]), hrow, fun i v hi => by
            rw [List.getElem?_toArray, List.getElem?_append_left (List.getElem?_eq_some_iff.1 hi).1]; exact hi⟩
        refine ⟨_, rfl, rfl, _, _, .s (A.nxt + 1) 0 s.size s.size (some A.nxt), hl1.trans hl2, hs, ?_, hH2⟩
        simp only [AV.real, Sg.ext]
        rw [hl2.num hx1]
        have : (Sg.num ((σ.set A.nxt (.n (c - s.size))).set (A.nxt + 1) (.n b)) (A.nxt + 1)) = some b := num_set_same _ _ _
        simp only [this]
        congr 2; omega
      · cases hs
    · cases hs
  · rename_i l c
    cases ha
    split at hs
    · rename_i el hS hD
      split at hs
      · rename_i hu
        refine svcOp_conv ho (by unfold pureOp; simp only [ho, hx]) ?_
        unfold svcConvert
        simp only [hx, hS, hD, hu]
        exact .here hs rfl hH
      · cases hs
    · cases hs
  · rename_i k off len m w
    simp only [AV.real] at ha
    split at ha
    · rename_i b e2 hb he2
      cases ha
      split at hs
      · rename_i el hS hD
        split at hs
        · rename_i hu
          obtain ⟨cs, h1, hs⟩ := opt_elim hs
          obtain ⟨l, h2, hs⟩ := opt_elim hs
          obtain ⟨vs, q1, q2, q3⟩ := readA_sound h1 hH hb
          have q4 := toBytes_sound h2 q1
          refine svcOp_conv ho (by unfold pureOp; simp only [ho, hx]) ?_
          unfold svcConvert
          simp only [hx, hS, hD, hu]
          refine ⟨⟨l.toArray⟩, ?_, .inr ?_, .here hs rfl hH⟩
          · have : vs.length = l.length := by rw [q4]; simp
            show l.toArray.size = len
            simp; omega
          · have : byteCells ⟨l.toArray⟩ = vs := by rw [q4]; simp [byteCells]
            rw [this]; exact q3
        · cases hs
      · cases hs
    · cases ha
  · cases hs

/-! pieces -/
theorem bndA_sound (he : ERel σ n e env) {x : Option Operand} {d : Nat} {j : Int} (h : bndA e x d = some j) : bnd env x d = some j := by
  unfold bndA at h
  unfold bnd
  split at h
  · exact h
  · rename_i y
    split at h
    · rename_i k j' hy
      simp only [Option.some.injEq] at h; subst h
      obtain ⟨v, h1, _, h2⟩ := evA_sound he hy
      cases h1
      simp only [h2]
    · cases h
theorem bndA_other (he : ERel σ n e env) {x : Option Operand} {d d' : Nat} {j : Int} (hx : x.isSome = true) (h : bndA e x d = some j) : bnd env x d' = some j := by
  cases x with
  | none => cases hx
  | some y => exact bndA_sound he (x := some y) (d := d') h
end
end Go.Proofs.YtmcaejnofmbilaaGreat.Tri
