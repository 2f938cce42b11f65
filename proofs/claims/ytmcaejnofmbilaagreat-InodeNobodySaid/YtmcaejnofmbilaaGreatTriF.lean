/- More operations: tests of pointers, indices, slices, new rows, calls, append. -/
import Derived.Test.YtmcaejnofmbilaaGreatTriE
import Derived.Laws.MakeOwn
import Derived.Laws.BytesString
import Derived.LaidEqlPtr
namespace Go.Proofs.YtmcaejnofmbilaaGreat.Tri
set_option linter.all false
open Go.RowKit

section
variable {P : Program} {R : Rl} {cfg : Cfg} {n m : Nat} {ds : Dq} {ro : Option Nat} {β : Nat → Nat} {e : Env} {bx : Bx} {L : Heap} {a : Act} {w : World} {o : Oper} {K : SV → Bx → Heap → Prop} {next : Act → World → Prop} {Q : Exit → Act → World → Prop}

/-! pick, a pointer's test -/
def svcPick (e : Env) (bx : Bx) (L : Heap) (c x y : Operand) (K : SV → Bx → Heap → Prop) : Prop :=
  match evv e c with
  | some (.bool t) => pIf t (match evs e x with
    | some s => K s bx L
    | none => False) (match evs e y with
    | some s => K s bx L
    | none => False)
  | _ => False
theorem svcPick_sound (h : St R n ds β e bx L a w) {c x y : Operand} (ho : o.op = .pick c x y) (hs : svcPick e bx L c x y K) (hg : Goes R n ds e a o K next) : o.wpIn (WF ro) m P a w next Q := by
  have hd : ∀ c, o.op ≠ .defer c := fun c hc => by rw [ho] at hc; cases hc
  unfold svcPick at hs
  split at hs
  · rename_i t ht
    cases t with
    | true =>
      simp only [pIf] at hs
      split at hs
      · rename_i s hx
        exact wpIn_value hd (v := sval β s) (by simp [execOp, ho, h.evv ht, h.evs hx, asBool]) (hg s bx L β w hs h)
      · exact hs.elim
    | false =>
      simp only [pIf] at hs
      split at hs
      · rename_i s hx
        exact wpIn_value hd (v := sval β s) (by simp [execOp, ho, h.evv ht, h.evs hx, asBool]) (hg s bx L β w hs h)
      · exact hs.elim
  · exact hs.elim

def svcNil (e : Env) (bx : Bx) (L : Heap) (x : Operand) (K : SV → Bx → Heap → Prop) : Prop :=
  match evv e x with
  | some (.pointer p) => pSome p fun ad => K (.v (.pointer (some ad))) bx L
  | _ => False
theorem svcNil_sound (h : St R n ds β e bx L a w) {x : Operand} (ho : o.op = .nilCheck x) (hs : svcNil e bx L x K) (hg : Goes R n ds e a o K next) : o.wpIn (WF ro) m P a w next Q := by
  have hd : ∀ c, o.op ≠ .defer c := fun c hc => by rw [ho] at hc; cases hc
  unfold svcNil at hs
  split at hs
  · rename_i p hx
    cases p with
    | none => exact (hs : False).elim
    | some ad => exact goes_value h hg hd (v := .pointer (some ad)) (by simp [execOp, ho, h.evv hx]) hs
  · exact hs.elim

/-! quotients, shifts, joined strings, pointers held against each other -/
def isConst : Operand → Bool
  | .const _ => true
  | _ => false
def knownAt (L : Heap) (x : Addr) : Prop := ∃ c E, L x.block = some (.cells c E (0, 0))
def svcBin (P : Program) (e : Env) (bx : Bx) (L : Heap) (op : BinOp) (T : TypeId) (x y : Operand) (K : SV → Bx → Heap → Prop) : Prop :=
  match evv e x, evv e y with
  | some (.int k u), some (.int k' v) =>
    match op with
    | .quo => match decide (k = k') with
      | true => v ≠ 0 ∧ K (.v (.int k (k.wrap (u.tdiv v)))) bx L
      | false => False
    | .rem => match decide (k = k') with
      | true => v ≠ 0 ∧ K (.v (.int k (u.tmod v))) bx L
      | false => False
    | .shl => 0 ≤ v ∧ K (.v (.int k (k.wrap (u * 2 ^ (min v.toNat k.bits))))) bx L
    | .shr => 0 ≤ v ∧ K (.v (.int k (u.fdiv (2 ^ (min v.toNat k.bits))))) bx L
    | _ => False
  | some (.string s), some (.string t) =>
    match op with
    | .add => s.size + t.size ≤ 9223372036854775807 ∧ K (.v (.string (s ++ t))) bx L
    | _ => False
  | some (.pointer p), some (.pointer q) =>
    match P.underlying T with
    | some (.pointer el) => match P.info? el with
      | some i => match i.size with
        | 0 => False
        | _ + 1 => ∃ r : Bool, (r = true ↔ p = q) ∧ (∀ u v, p = some u → q = some v → u ≠ v → knownAt L u ∧ knownAt L v) ∧
          match op with
          | .eql => K (.v (.bool r)) bx L
          | .neq => K (.v (.bool (!r))) bx L
          | _ => False
      | none => False
    | _ => False
  | some .nilIface, some .nilIface => match isConst x || isConst y with
    | true => match P.underlying T with
      | some (.interface _) => match op with
        | .eql => K (.v (.bool true)) bx L
        | .neq => K (.v (.bool false)) bx L
        | _ => False
      | _ => False
    | false => False
  | _, _ => False
theorem run_ptr_eq {T el : TypeId} {i : TypeInfo} {k : Nat} (hu : P.underlying T = some (.pointer el)) (hi : P.info? el = some i) (hs : i.size = k + 1) {p q : Option Addr} {r : Bool} (hr : r = true ↔ p = q)
    (hk : ∀ u v, p = some u → q = some v → u ≠ v → (∃ c E, w.heap[u.block]? = some (.cells c E (0, 0))) ∧ ∃ c E, w.heap[v.block]? = some (.cells c E (0, 0))) :
    (Op.equal T (.pointer p) (.pointer q)).run P w = .ok r w := by
  refine equal_run fun d => ?_
  cases p with
  | none =>
    cases q with
    | none => have : r = true := hr.2 rfl; subst this; simp [Op.equalIn, run_underlying hu]
    | some v => have : r = false := by cases r with
                  | false => rfl
                  | true => cases hr.1 rfl
                subst this; simp [Op.equalIn, run_underlying hu]
  | some u =>
    cases q with
    | none => have : r = false := by cases r with
                | false => rfl
                | true => cases hr.1 rfl
              subst this; simp [Op.equalIn, run_underlying hu]
    | some v =>
      by_cases huv : u = v
      · subst huv
        have : r = true := hr.2 rfl
        subst this
        simp [Op.equalIn, run_underlying hu, sizeOf, typeInfo, hi, run_sameAddr_same]
      · have : r = false := by cases r with
          | false => rfl
          | true => exact absurd (Option.some.inj (hr.1 rfl)) huv
        subst this
        obtain ⟨⟨c, E, h1⟩, c', E', h2⟩ := hk u v rfl rfl huv
        simp [Op.equalIn, run_underlying hu, sizeOf, typeInfo, hi, hs, run_sameAddr_other w huv h1 h2]
theorem svcBin_sound (hR : RK cfg R) (h : St R n ds β e bx L a w) {op : BinOp} {T T' : TypeId} {x y : Operand} (ho : o.op = .binOp op T x y T') (hs : svcBin P e bx L op T x y K) (hg : Goes R n ds e a o K next) : o.wpIn (WF ro) m P a w next Q := by
  have hd : ∀ c, o.op ≠ .defer c := fun c hc => by rw [ho] at hc; cases hc
  unfold svcBin at hs
  split at hs
  · rename_i k u k' v hx hy
    have hgd : (eqGuard op T x y (.int k u) (.int k' v)).run P w = .ok () w := run_eqGuard_plain _ _ _ _ _ _ _ rfl
    split at hs
    · split at hs
      · rename_i hk
        have hk := of_decide_eq_true hk
        subst hk
        exact goes_value h hg hd (by simp [execOp, ho, h.evv hx, h.evv hy, hgd, binOp, Op.intDiv, hs.1]) hs.2
      · exact hs.elim
    · split at hs
      · rename_i hk
        have hk := of_decide_eq_true hk
        subst hk
        exact goes_value h hg hd (by simp [execOp, ho, h.evv hx, h.evv hy, hgd, binOp, Op.intDiv, hs.1]) hs.2
      · exact hs.elim
    · exact goes_value h hg hd (by simp [execOp, ho, h.evv hx, h.evv hy, hgd, binOp, Op.shift]; intro hlt; exact absurd hs.1 (by omega)) hs.2
    · exact goes_value h hg hd (by simp [execOp, ho, h.evv hx, h.evv hy, hgd, binOp, Op.shift]; intro hlt; exact absurd hs.1 (by omega)) hs.2
    · exact hs.elim
  · rename_i s t hx hy
    have hgd : (eqGuard op T x y (.string s) (.string t)).run P w = .ok () w := run_eqGuard_plain _ _ _ _ _ _ _ rfl
    split at hs
    · have hmax : ¬ (((s.size + t.size : Nat) : Int) > IntKind.i64.max) := by
        have : IntKind.i64.max = 9223372036854775807 := by decide
        rw [this]; have := hs.1; omega
      have hst : (Op.stringOp .add s t).run P w = .ok (.string (s ++ t)) w := by
        unfold Op.stringOp
        simp only [if_neg hmax, Sem.run_pure]
      exact goes_value h hg hd (by simp [execOp, ho, h.evv hx, h.evv hy, hgd, binOp, hst]) hs.2
    · exact hs.elim
  · rename_i p q hx hy
    have hgd : (eqGuard op T x y (.pointer p) (.pointer q)).run P w = .ok () w := run_eqGuard_plain _ _ _ _ _ _ _ rfl
    split at hs
    · rename_i el hu
      split at hs
      · rename_i i hi
        split at hs
        · exact hs.elim
        · rename_i k hk
          obtain ⟨r, hr, hkn, hs⟩ := hs
          have he := run_ptr_eq (P := P) (w := w) hu hi hk hr fun u v hp hq hne => by
            obtain ⟨⟨c, E, h1⟩, c', E', h2⟩ := hkn u v hp hq hne
            exact ⟨⟨c, E, h.sub hR _ _ h1⟩, c', E', h.sub hR _ _ h2⟩
          have hb := run_eql_of he rfl
          split at hs
          · exact goes_value h hg hd (by simp [execOp, ho, h.evv hx, h.evv hy, hgd, hb.1]) hs
          · exact goes_value h hg hd (by simp [execOp, ho, h.evv hx, h.evv hy, hgd, hb.2]) hs
          · exact hs.elim
      · exact hs.elim
    · exact hs.elim
  · rename_i hx hy
    split at hs
    · rename_i hc
      split at hs
      · rename_i ms hu
        have hgd : (eqGuard op T x y .nilIface .nilIface).run P w = .ok () w := by
          unfold eqGuard
          cases op <;> first
            | (simp; done)
            | (cases x <;> cases y <;> first | (simp; done) | (simp [isConst] at hc))
        have he := equal_run (P := P) (w := w) (T := T) (x := .nilIface) (y := .nilIface) (b := true) (fun d => by simp [Op.equalIn, run_underlying hu])
        split at hs
        · exact goes_value h hg hd (by simp [execOp, ho, h.evv hx, h.evv hy, hgd]; unfold binOp; simp [he]) hs
        · exact goes_value h hg hd (by simp [execOp, ho, h.evv hx, h.evv hy, hgd]; unfold binOp; simp [he]) hs
        · exact hs.elim
      · exact hs.elim
    · exact hs.elim
  · exact hs.elim

/-! indices -/
def svcIndex (P : Program) (e : Env) (bx : Bx) (L : Heap) (T : TypeId) (x i : Operand) (K : SV → Bx → Heap → Prop) : Prop :=
  match P.underlying T with
  | some .string => match evv e x, evv e i with
    | some (.string s), some (.int _ j) => 0 ≤ j ∧ ∃ b : UInt8, s[j.toNat]? = some b ∧ K (.v (.int .u8 b.toNat)) bx L
    | _, _ => False
  | _ => False
theorem svcIndex_sound (h : St R n ds β e bx L a w) {T : TypeId} {x i : Operand} (ho : o.op = .index T x i) (hs : svcIndex P e bx L T x i K) (hg : Goes R n ds e a o K next) : o.wpIn (WF ro) m P a w next Q := by
  have hd : ∀ c, o.op ≠ .defer c := fun c hc => by rw [ho] at hc; cases hc
  unfold svcIndex at hs
  split at hs
  · rename_i hu
    split at hs
    · rename_i s k j hx hi
      obtain ⟨h0, b, hb, hk⟩ := hs
      exact goes_value h hg hd (by simp [execOp, ho, h.evv hx, h.evv hi, Instr.index, asIntOf, run_underlying hu, h0, hb]) hk
    · exact hs.elim
  · exact hs.elim

def svcIndexAddr (P : Program) (cfg : Cfg) (e : Env) (bx : Bx) (L : Heap) (T : TypeId) (x i : Operand) (K : SV → Bx → Heap → Prop) : Prop :=
  match P.underlying T with
  | some (.slice el) => match P.info? el, evv e x, evv e i with
    | some it, some (.slice p len _), some (.int _ j) => 0 ≤ j ∧ j < len ∧ pSome p fun ad => K (.v (.pointer (some (ad.add (j.toNat * it.size))))) bx L
    | _, _, _ => False
  | some (.array len el) => match P.info? el, evs e x, evv e i with
    | some it, some (.v (.pointer (some ad))), some (.int _ j) => 0 ≤ j ∧ j < len ∧ K (.v (.pointer (some (ad.add (j.toNat * it.size))))) bx L
    | some it, some (.a k off), some (.int _ j) => match cfg.pr with
      | true => 0 ≤ j ∧ j < len ∧ K (.a k (off + j.toNat * it.size)) bx L
      | false => False
    | _, _, _ => False
  | _ => False
theorem svcIndexAddr_sound (h : St R n ds β e bx L a w) {T : TypeId} {x i : Operand} (ho : o.op = .indexAddr T x i) (hs : svcIndexAddr P cfg e bx L T x i K) (hg : Goes R n ds e a o K next) : o.wpIn (WF ro) m P a w next Q := by
  have hd : ∀ c, o.op ≠ .defer c := fun c hc => by rw [ho] at hc; cases hc
  unfold svcIndexAddr at hs
  split at hs
  · rename_i el hu
    split at hs
    · rename_i it p len c k j hi hx hj
      obtain ⟨h0, h1, hk⟩ := hs
      cases p with
      | none => exact (hk : False).elim
      | some ad =>
        exact goes_value h hg hd (by simp [execOp, ho, h.evv hx, h.evv hj, Instr.indexAt, asIntOf, run_underlying hu, h0, h1, sizeOf, typeInfo, hi]) hk
    · exact hs.elim
  · rename_i len el hu
    split at hs
    · rename_i it ad k j hi hx hj
      obtain ⟨h0, h1, hk⟩ := hs
      exact goes_value h hg hd (by simp [execOp, ho, h.evs hx, h.evv hj, sval, Instr.indexAt, Instr.sureAddr, asIntOf, run_underlying hu, h0, h1, sizeOf, typeInfo, hi]) hk
    · rename_i it k off k' j hi hx hj
      split at hs
      · obtain ⟨h0, h1, hk⟩ := hs
        refine wpIn_value hd (v := sval β (.a k (off + j.toNat * it.size))) ?_ (hg _ bx L β w hk h)
        simp only [execOp, ho, h.evs hx, h.evv hj, sval]
        simp [Instr.indexAt, Instr.sureAddr, asIntOf, run_underlying hu, h0, h1, sizeOf, typeInfo, hi]
        exact add_spot rfl _
      · exact hs.elim
    · exact hs.elim
  · exact hs.elim

/-! pieces -/
def bnd (e : Env) (x : Option Operand) (d : Nat) : Option Int :=
  match x with
  | none => some d
  | some y => match evv e y with
    | some (.int _ j) => some j
    | _ => none
theorem bnd_eval (h : St R n ds β e bx L a w) {x : Option Operand} {d : Nat} {j : Int} (hb : bnd e x d = some j) : (x = none ∧ j = d) ∨ ∃ y k, x = some y ∧ a.eval y = .int k j := by
  unfold bnd at hb
  split at hb
  · simp only [Option.some.injEq] at hb; exact .inl ⟨rfl, hb.symm⟩
  · rename_i y
    split at hb
    · rename_i k j' hy
      simp only [Option.some.injEq] at hb; subst hb
      exact .inr ⟨y, k, rfl, h.evv hy⟩
    · cases hb
theorem run_bounds (isSlice : Bool) (len cap : Nat) {lo hi mx : Option Value} {l h' m' : Int}
    (hl : (lo = none ∧ l = 0) ∨ ∃ k, lo = some (.int k l)) (hh : (hi = none ∧ h' = len) ∨ ∃ k, hi = some (.int k h')) (hm : (mx = none ∧ m' = cap) ∨ ∃ k, mx = some (.int k m'))
    (hmh : mx ≠ none → hi ≠ none) (h1 : 0 ≤ l) (h2 : l ≤ h') (h3 : h' ≤ m') (h4 : m' ≤ cap) :
    (Instr.sliceBounds isSlice len cap lo hi mx).run P w = .ok (l.toNat, h'.toNat, m'.toNat) w := by
  have sb : ∀ (k : IntKind) (i : Int) (y : Nat) (code : BoundsCode), 0 ≤ i → i ≤ y → (Instr.sliceBound (.int k i) y code).run P w = .ok i.toNat w := fun k i y code ha hb => by
    simp [Instr.sliceBound, asIntOf, ha, hb]
  rcases hm with ⟨rfl, rfl⟩ | ⟨km, rfl⟩ <;> rcases hh with ⟨rfl, rfl⟩ | ⟨kh, rfl⟩ <;> rcases hl with ⟨rfl, rfl⟩ | ⟨kl, rfl⟩ <;>
    first
    | (simp at hmh; done)
    | (simp (disch := omega) [Instr.sliceBounds, sb])
/-- Where a piece begins. -/
def advP (p : Option Addr) (l m sz : Nat) : Option Addr := if m = l then p else p.map (·.add (l * sz))
def advA (ad : Addr) (l m sz : Nat) : Addr := if m = l then ad else ad.add (l * sz)
def svcSlice (P : Program) (e : Env) (bx : Bx) (L : Heap) (T : TypeId) (x : Operand) (lo hi mx : Option Operand) (K : SV → Bx → Heap → Prop) : Prop :=
  match P.underlying T with
  | some .string => match evv e x with
    | some (.string s) => match mx, bnd e lo 0, bnd e hi s.size with
      | none, some l, some h => 0 ≤ l ∧ l ≤ h ∧ h ≤ s.size ∧ K (.v (.string (s.extract l.toNat h.toNat))) bx L
      | _, _, _ => False
    | _ => False
  | some (.slice el) => match P.info? el, evv e x with
    | some it, some (.slice p len cap) => match mx.isSome && hi.isNone, bnd e lo 0, bnd e hi len, bnd e mx cap with
      | false, some l, some h, some m => 0 ≤ l ∧ l ≤ h ∧ h ≤ m ∧ m ≤ cap ∧
        K (.v (.slice (advP p l.toNat m.toNat it.size) (h.toNat - l.toNat) (m.toNat - l.toNat))) bx L
      | _, _, _, _ => False
    | _, _ => False
  | some (.array len el) => match P.info? el, evv e x with
    | some it, some (.pointer (some ad)) => match mx.isSome && hi.isNone, bnd e lo 0, bnd e hi len, bnd e mx len with
      | false, some l, some h, some m => 0 ≤ l ∧ l ≤ h ∧ h ≤ m ∧ m ≤ len ∧
        K (.v (.slice (some (advA ad l.toNat m.toNat it.size)) (h.toNat - l.toNat) (m.toNat - l.toNat))) bx L
      | _, _, _, _ => False
    | _, _ => False
  | _ => False
theorem svcSlice_sound (h : St R n ds β e bx L a w) {T : TypeId} {x : Operand} {lo hi mx : Option Operand} (ho : o.op = .slice T x lo hi mx) (hs : svcSlice P e bx L T x lo hi mx K) (hg : Goes R n ds e a o K next) : o.wpIn (WF ro) m P a w next Q := by
  have hd : ∀ c, o.op ≠ .defer c := fun c hc => by rw [ho] at hc; cases hc
  have ev : ∀ {z : Option Operand} {d : Nat} {j : Int}, bnd e z d = some j → (z.map a.eval = none ∧ j = d) ∨ ∃ k, z.map a.eval = some (.int k j) := fun {z d j} hb => by
    rcases bnd_eval h hb with ⟨rfl, rfl⟩ | ⟨y, k, rfl, hy⟩
    · exact .inl ⟨rfl, rfl⟩
    · exact .inr ⟨k, by simp [hy]⟩
  have ev0 : ∀ {l : Int}, bnd e lo 0 = some l → (lo.map a.eval = none ∧ l = 0) ∨ ∃ k, lo.map a.eval = some (.int k l) := fun {l} hb => by
    rcases ev hb with ⟨h1, h2⟩ | h1
    · exact .inl ⟨h1, by simpa using h2⟩
    · exact .inr h1
  unfold svcSlice at hs
  split at hs
  · rename_i hu
    split at hs
    · rename_i s hx
      split at hs
      · rename_i l h' hl hh
        obtain ⟨h1, h2, h3, hk⟩ := hs
        have hb := run_bounds (P := P) (w := w) false s.size s.size (ev0 hl) (ev hh) (.inl ⟨rfl, rfl⟩) (by simp) h1 h2 h3 (by omega)
        exact goes_value h hg hd (by simp [execOp, ho, h.evv hx, Instr.sliceAt, Instr.slice, run_underlying hu, hb]) hk
      · exact hs.elim
    · exact hs.elim
  · rename_i el hu
    split at hs
    · rename_i it p len cap hi' hx
      split at hs
      · rename_i l h' m' hb0 hl hh hm
        obtain ⟨h1, h2, h3, h4, hk⟩ := hs
        have hb := run_bounds (P := P) (w := w) true len cap (ev0 hl) (ev hh) (ev hm) (by cases mx <;> cases hi <;> simp_all) h1 h2 h3 h4
        exact goes_value h hg hd (by simp [execOp, ho, h.evv hx, Instr.sliceAt, Instr.slice, run_underlying hu, hb, sizeOf, typeInfo, hi', advP]) hk
      · exact hs.elim
    · exact hs.elim
  · rename_i len el hu
    split at hs
    · rename_i it ad hi' hx
      split at hs
      · rename_i l h' m' hb0 hl hh hm
        obtain ⟨h1, h2, h3, h4, hk⟩ := hs
        have hb := run_bounds (P := P) (w := w) false len len (ev0 hl) (ev hh) (ev hm) (by cases mx <;> cases hi <;> simp_all) h1 h2 h3 h4
        exact goes_value h hg hd (by simp [execOp, ho, h.evv hx, Instr.sliceAt, Instr.sureAddr, run_underlying hu, hb, sizeOf, typeInfo, hi', advA]) hk
      · exact hs.elim
    · exact hs.elim
  · exact hs.elim

/-! new rows -/
def rowCells (P : Program) (el : TypeId) (k : Nat) (parts : List (Nat × Value)) : Option (Array Value) :=
  match P.info? el with
  | some i => match i.zero with
    | some z => match Nat.ble (k * i.size) 16777216 with
      | true => Instr.fill (fun j => some (j * i.size, i.size)) ((Array.range (k * i.size)).map (z.cells[· % z.cells.size]!)) parts
      | false => none
    | none => none
  | none => none
def svcBuildSlice (P : Program) (e : Env) (bx : Bx) (L : Heap) (T : TypeId) (k : Nat) (parts : Array (Nat × Operand)) (K : SV → Bx → Heap → Prop) : Prop :=
  match P.underlying T, evvs e (parts.toList.map (·.2)) with
  | some (.slice el), some vs => match rowCells P el k ((parts.toList.map (·.1)).zip vs) with
    | some cells => ∀ b M, L b = none → M = upd L b (.cells cells el (0, 0)) → K (.v (.slice (some ⟨b, 0, none⟩) k k)) bx M
    | none => False
  | _, _ => False
theorem svcBuildSlice_sound (hR : RK cfg R) (h : St R n ds β e bx L a w) {T : TypeId} {k : Nat} {parts : Array (Nat × Operand)} (ho : o.op = .buildSlice T k parts) (hs : svcBuildSlice P e bx L T k parts K) (hg : Goes R n ds e a o K next) : o.wpIn (WF ro) m P a w next Q := by
  have hd : ∀ c, o.op ≠ .defer c := fun c hc => by rw [ho] at hc; cases hc
  unfold svcBuildSlice at hs
  split at hs
  · rename_i el vs hu hv
    split at hs
    · rename_i cells hc
      have hpe := parts_eval h hv
      unfold rowCells at hc
      split at hc
      · rename_i i hi
        split at hc
        · rename_i z hz
          split at hc
          · rename_i hle
            have hle : ¬ k * i.size > 2 ^ 24 := by have := Nat.le_of_ble_eq_true hle; omega
            have hp : (parts.map fun p => (p.1, a.eval p.2)).toList = (parts.toList.map (·.1)).zip vs := by rw [Array.toList_map, hpe]
            have hr : (Instr.buildSlice T k (parts.map fun p => (p.1, a.eval p.2))).run P w = .ok (.slice (some ⟨w.heap.size, 0, none⟩) k k) (w.alloc (.cells cells el (0, 0))) := by
              by_cases h0 : k * i.size = 0
              · have hc' : Instr.fill (fun j => some (j * i.size, i.size)) ((Array.range (k * i.size)).map ((#[] : Array Value)[· % (#[] : Array Value).size]!)) ((parts.map fun p => (p.1, a.eval p.2)).toList) = some cells := by
                  rw [hp, ← hc, h0]
                  have hz0 : ∀ f : Nat → Value, (Array.range 0).map f = #[] := fun f => by simp
                  rw [hz0, hz0]
                have hz0 : ∀ f : Nat → Value, (Array.range 0).map f = #[] := fun f => by simp
                rw [h0, hz0] at hc'
                have hsz : (sizeOf el).run P w = .ok i.size w := by simp [sizeOf, typeInfo, hi]
                unfold Instr.buildSlice
                simp only [Sem.run_bind, run_underlying hu, Result.andThen_ok, hsz, h0, if_true, hz0, hc']
                simp [newRow]
              · have hc' : Instr.fill (fun j => some (j * i.size, i.size)) ((Array.range (k * i.size)).map (z.cells[· % z.cells.size]!)) ((parts.map fun p => (p.1, a.eval p.2)).toList) = some cells := by rw [hp]; exact hc
                have hsz : (sizeOf el).run P w = .ok i.size w := by simp [sizeOf, typeInfo, hi]
                have hzv : (zeroValue el).run P w = .ok z w := by simp [zeroValue, typeInfo, hi, hz]
                unfold Instr.buildSlice
                simp only [Sem.run_bind, run_underlying hu, Result.andThen_ok, hsz, hzv, if_neg h0, if_neg hle, Sem.run_pure, hc']
                simp [newRow]
            exact wpIn_value hd (by simp [execOp, ho, hr]; rfl) (hg (.v _) bx _ β _ (hs _ _ (Ext.allocNone (h.sub hR)) rfl) (h.alloc hR _))
          · cases hc
        · cases hc
      · cases hc
    · exact hs.elim
  · exact hs.elim

def svcMakeSlice (P : Program) (e : Env) (bx : Bx) (L : Heap) (T : TypeId) (l c : Operand) (K : SV → Bx → Heap → Prop) : Prop :=
  match P.underlying T, evv e l, evv e c with
  | some (.slice el), some (.int _ lj), some (.int _ cj) => match P.info? el with
    | some i => match i.zero with
      | some z => 0 ≤ lj ∧ lj ≤ cj ∧ (i.bytes : Int) * cj ≤ 281474976710656 ∧ cj ≤ 9223372036854775807 ∧
        ∀ b M, L b = none → M = upd L b (.cells (madeCells z.cells (cj.toNat * i.size)) el (0, 0)) → K (.v (.slice (some ⟨b, 0, none⟩) lj.toNat cj.toNat)) bx M
      | none => False
    | none => False
  | _, _, _ => False
theorem svcMakeSlice_sound (hR : RK cfg R) (h : St R n ds β e bx L a w) {T : TypeId} {l c : Operand} (ho : o.op = .makeSlice T l c) (hs : svcMakeSlice P e bx L T l c K) (hg : Goes R n ds e a o K next) : o.wpIn (WF ro) m P a w next Q := by
  have hd : ∀ c, o.op ≠ .defer c := fun c hc => by rw [ho] at hc; cases hc
  unfold svcMakeSlice at hs
  split at hs
  · rename_i el kl lj kc cj hu hl hc
    split at hs
    · rename_i i hi
      split at hs
      · rename_i z hz
        obtain ⟨h0, h1, h2, h3, hk⟩ := hs
        have hr := run_make (P := P) (w := w) T el i z hu hi hz kl kc lj cj h0 h1 h2 h3
        exact wpIn_value hd (by simp [execOp, ho, h.evv hl, h.evv hc, hr]; rfl) (hg (.v _) bx _ β _ (hk _ _ (Ext.allocNone (h.sub hR)) rfl) (h.alloc hR _))
      · exact hs.elim
    · exact hs.elim
  · exact hs.elim

/-! a call of a Go function -/
def entersB (P : Program) (f : FuncId) : Bool :=
  match P.funcs[f]? with
  | some fn => match fn.body with
    | some _ => !(fn.name == "runtime.NumGoroutine")
    | none => false
  | none => false
theorem run_entersB {f : FuncId} (h : entersB P f = true) (args : Array Value) : (callFunc f args).run P w = .ok (.enter f args) w := by
  unfold entersB at h
  split at h
  · rename_i fn hf
    split at h
    · rename_i b hb
      simp only [Bool.not_eq_true', beq_eq_false_iff_ne, ne_eq] at h
      simp [callFunc, hf, hb, h]
    · cases h
  · cases h
def callRo (cfg : Cfg) (M : Heap) (A : Prop) : Prop := match cfg.ro with
  | none => A
  | some r => Sub r M ∧ A
theorem callRo_elim {cfg : Cfg} {M : Heap} {A : Prop} (h : callRo cfg M A) : (∀ r, cfg.ro = some r → Sub r M) ∧ A := by
  unfold callRo at h
  split at h
  · rename_i hn; exact ⟨fun r hr => (by rw [hn] at hr; cases hr), h⟩
  · rename_i r hr; exact ⟨fun r' hr' => (by rw [hr] at hr'; cases hr'; exact h.1), h.2⟩
/-- The temporaries with which a round begins. -/
def roundTmps (r : Loop) (args : Array Value) : Array Value := (r.params.zip args).foldl (fun tmps (t, a) => tmps.setIfInBounds t a) r.tmps
/-- A ROUND of the loop over a function whose record is r, at yield's arguments. -/
def Round (P : Program) (l : Nat) (r : Loop) (args : Array Value) (L : Heap) (Φ : Value → Heap → Prop) : Prop :=
  ∀ w, Sub L (wl w) → RoundIn Fence.wide 0 P l r.fn (roundTmps r args) r.assign r.body w fun e w' => ∃ v M, e = .returned v ∧ Φ v M ∧ Ext L w M w'
theorem Round.mono {P : Program} {l : Nat} {r : Loop} {args : Array Value} {L : Heap} {Φ Ψ : Value → Heap → Prop} (h : Round P l r args L Φ) (hi : ∀ v M, Φ v M → Ψ v M) : Round P l r args L Ψ :=
  fun w hw => (h w hw).mono fun _ _ ⟨v, M, he, hp, hx⟩ => ⟨v, M, he, hi v M hp, hx⟩
theorem comesIn_WF {ro : Option Nat} {P : Program} {m m' : Machine} {e : Ending} (h : ComesIn (Machine.fenced P Fence.wide) P m m' e) : ComesIn (Machine.fenced P (WF ro)) P m m' e := h
theorem roundIn_WF {ro : Option Nat} {k k' : Nat} {P : Program} {l : Nat} {f : FuncId} {tmps : Array Value} {assign body : Code} {w : World} {R : Ending → World → Prop}
    (h : RoundIn Fence.wide k P l f tmps assign body w R) : RoundIn (WF ro) k' P l f tmps assign body w R :=
  ⟨trivial, fun c cs _ => h.2 c cs (room_wide _)⟩
theorem roundIn_wide {ro : Option Nat} {k k' : Nat} {P : Program} {l : Nat} {f : FuncId} {tmps : Array Value} {assign body : Code} {w : World} {R : Ending → World → Prop}
    (h : RoundIn (WF ro) k P l f tmps assign body w R) : RoundIn Fence.wide k' P l f tmps assign body w R :=
  ⟨trivial, fun c cs _ => h.2 c cs fun _ h9 => by simp [WF] at h9⟩
theorem wpIn_round' {o : Oper} {w' : World} {l f : Nat} {tmps : Array Value} {as bd : Code}
    (hd : ∀ c, o.op ≠ .defer c) (hr : (execOp a.eval o).run P w = .ok (.round l f tmps as bd) w') (hc : RoundIn Fence.wide 0 P l f tmps as bd w' fun e w'' => ∃ v, e = .returned v ∧ next (a.put o.dst v) w'') : o.wpIn (WF ro) m P a w next Q := by
  refine ⟨fun _ _ => trivial, ?_⟩
  rw [notDefer_of hd, hr]
  refine ⟨fun h => by simp [WF] at h, ?_⟩
  exact (roundIn_WF hc).mono fun e w'' ⟨v, he, hn⟩ => by subst he; exact hn
/-- A function without a body, where L is known: it answers v, and turns nothing. -/
def Outs (P : Program) (g : FuncId) (args : Array Value) (L : Heap) (v : Value) : Prop := ∀ w, Sub L (wl w) → (callFunc g args).run P w = .ok (.value v) w
def svcCall (P : Program) (cfg : Cfg) (e : Env) (bx : Bx) (L : Heap) (f : Operand) (args : List Operand) (T : TypeId) (K : SV → Bx → Heap → Prop) : Prop :=
  match evv e f, evvs e args with
  | some (.func (.func g) first cap), some vs => match entersB P g with
    | true => Tri P g (first.toList ++ vs ++ cap.toList).toArray L fun v M => tyEx P cfg.ty T fun v' => v = v' ∧ callRo cfg M (K (.v v') bx M)
    | false => tyEx P cfg.ty T fun v => Outs P g (first.toList ++ vs ++ cap.toList).toArray L v ∧ K (.v v) bx L
  | some (.func (.yield l) first _), some vs => ∃ r, L l = some (.loop r) ∧ (first.toList ++ vs).toArray.size = r.params.size ∧
      Round P l r (first.toList ++ vs).toArray L fun v M => tyEx P cfg.ty T fun v' => v = v' ∧ callRo cfg M (K (.v v') bx M)
  | _, _ => False
theorem svcCall_sound (hR : RK cfg R) (h : St R n ds β e bx L a w) {c : Call} {f : Operand} (ho : o.op = .call c) (hcal : c.callee = .value f) (hs : svcCall P cfg e bx L f c.args.toList o.type K) (hg : Goes R n ds e a o K next) : o.wpIn (WF ro) m P a w next Q := by
  have hd : ∀ c, o.op ≠ .defer c := fun c hc => by rw [ho] at hc; cases hc
  unfold svcCall at hs
  split at hs
  · rename_i g first cap vs hf hv
    have hargs : c.args.map a.eval = vs.toArray := args_eval h hv
    have he : first ++ c.args.map a.eval ++ cap = (first.toList ++ vs ++ cap.toList).toArray := by
      rw [hargs, ← Array.toList_inj]; simp
    split at hs
    · rename_i hen
      refine wpIn_enter hd (f := g) (args := first ++ c.args.map a.eval ++ cap) (w' := w) ?_ ?_
      · simp [execOp, ho, resolve, hcal, h.evv hf, Deferred.ofValue, invoke, run_entersB hen]
      · rw [he]
        refine (hs w (h.sub hR)).mono fun en w' ⟨v, M, hev, hp, hx⟩ => ?_
        obtain ⟨v', rfl, hk⟩ := tyEx_ex _ _ _ hp
        obtain ⟨hro, hk⟩ := callRo_elim hk
        exact ⟨v, hev, hg (.v v) bx M β w' hk (h.step hR hx hro)⟩
    · obtain ⟨v, hrun, hk⟩ := tyEx_ex _ _ _ hs
      have hr := hrun w (h.sub hR)
      rw [← he] at hr
      exact goes_value h hg hd (by
        have e1 : (resolve a.eval c o.type).run P w = .ok { target := .fn (.func g) cap, args := first ++ c.args.map a.eval } w := by
          simp only [resolve, hcal, h.evv hf, Deferred.ofValue, Sem.run_pure]
        simp only [execOp, ho, Sem.run_bind, e1, Result.andThen_ok, invoke, hr]) hk
  · rename_i l first cap vs hf hv
    obtain ⟨r, hl, hsz, hround⟩ := hs
    have hargs : c.args.map a.eval = vs.toArray := args_eval h hv
    have he : first ++ c.args.map a.eval = (first.toList ++ vs).toArray := by
      rw [hargs, ← Array.toList_inj]; simp
    have hw := h.sub hR _ _ hl
    have hy := run_yield (P := P) (w := w) (args := first ++ c.args.map a.eval) hw (by rw [he]; exact hsz)
    refine wpIn_round' hd (w' := w) (l := l) (f := r.fn) (tmps := roundTmps r (first ++ c.args.map a.eval)) (as := r.assign) (bd := r.body) ?_ ?_
    · have e1 : (resolve a.eval c o.type).run P w = .ok { target := .fn (.yield l) cap, args := first ++ c.args.map a.eval } w := by
        simp only [resolve, hcal, h.evv hf, Deferred.ofValue, Sem.run_pure]
      simp only [execOp, ho, Sem.run_bind, e1, Result.andThen_ok, invoke, hy]
      rfl
    · rw [he]
      refine (hround w (h.sub hR)).mono fun en w' ⟨v, M, hev, hp, hx⟩ => ?_
      obtain ⟨v', rfl, hk⟩ := tyEx_ex _ _ _ hp
      obtain ⟨hro, hk⟩ := callRo_elim hk
      exact ⟨v, hev, hg (.v v) bx M β w' hk (h.step hR hx hro)⟩
  · exact hs.elim
end
end Go.Proofs.YtmcaejnofmbilaaGreat.Tri
