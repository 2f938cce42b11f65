/- The state of a walk: slots, local boxes, what is known of the heap; the typed reading of values. -/
import Derived.Test.YtmcaejnofmbilaaGreatTriA
namespace Go.Proofs.YtmcaejnofmbilaaGreat.Tri
set_option linter.all false
open Go.RowKit

inductive SV where
  | v (x : Value)
  | a (k off : Nat)
abbrev Env := List (Nat × SV)
abbrev Bx := List (Nat × List Value)
def get {α : Type} : List (Nat × α) → Nat → Option α
  | [], _ => none
  | p :: r, t => match Nat.beq p.1 t with
    | true => some p.2
    | false => get r t
theorem get_cons_same {α : Type} (r : List (Nat × α)) (t : Nat) (x : α) : get ((t, x) :: r) t = some x := by simp [get]
theorem get_cons_other {α : Type} (r : List (Nat × α)) {t u : Nat} (x : α) (h : u ≠ t) : get ((u, x) :: r) t = get r t := by
  have : Nat.beq u t = false := by cases hb : Nat.beq u t with
    | false => rfl
    | true => exact absurd (Nat.eq_of_beq_eq_true hb) h
  simp only [get, this]

/-- Only these keys, in this order. -/
def trim {α : Type} (keep : List Nat) (e : List (Nat × α)) : List (Nat × α) :=
  match keep with
  | [] => []
  | k :: r => match get e k with
    | some x => (k, x) :: trim r e
    | none => trim r e
theorem get_trim {α : Type} (e : List (Nat × α)) : ∀ (keep : List Nat) {t : Nat} {x : α}, get (trim keep e) t = some x → get e t = some x
  | [], t, x, h => by simp [trim, get] at h
  | k :: r, t, x, h => by
    unfold trim at h
    cases hk : get e k with
    | none => rw [hk] at h; exact get_trim e r h
    | some y =>
      rw [hk] at h
      by_cases ek : k = t
      · subst ek; rw [get_cons_same] at h; cases h; exact hk
      · rw [get_cons_other _ _ ek] at h; exact get_trim e r h

def evs (e : Env) : Operand → Option SV
  | .tmp t => get e t
  | .const v => some (.v v)
  | .global g => some (.v (.pointer (some ⟨g, 0, none⟩)))
  | .func f => some (.v (.func (.func f) #[] #[]))
def evv (e : Env) (x : Operand) : Option Value := match evs e x with
  | some (.v v) => some v
  | _ => none
def evvs (e : Env) : List Operand → Option (List Value)
  | [] => some []
  | x :: r => match evv e x with
    | some v => match evvs e r with
      | some l => some (v :: l)
      | none => none
    | none => none

def sval (β : Nat → Nat) : SV → Value
  | .v x => x
  | .a k off => .pointer (some ⟨β k, off, none⟩)

/-- How a walk goes: which slots hold boxes that do not leave (prom, if pr); what must stay as it is (ro); the record of the loop over a function of which it is a round (rd); how deep types are read (ty). -/
structure Cfg where
  prom : List Nat
  pr : Bool
  ro : Option Heap
  rd : Option Nat
  ty : Nat
abbrev Rl := (Nat → Nat) → Bx → Heap → World → Prop
/-- What is asked of the relation between what a walk knows and the world. -/
structure RK (cfg : Cfg) (R : Rl) : Prop where
  sub : ∀ {β bx L w}, R β bx L w → Sub L (wl w)
  rok : ∀ {β bx L w r}, R β bx L w → cfg.ro = some r → Sub r L
  step : ∀ {β bx L w M w'}, R β bx L w → Ext L w M w' → (∀ r, cfg.ro = some r → Sub r M) → R β bx M w'
  new : ∀ {β bx L w}, cfg.pr = true → R β bx L w → ∀ (d : Nat) (cs : List Value) (T : TypeId), R (fun k => if k = d then w.heap.size else β k) ((d, cs) :: bx) L (w.alloc (.cells cs.toArray T (0, 0)))
  read : ∀ {β bx L w k cs}, cfg.pr = true → R β bx L w → get bx k = some cs → ∃ T, w.heap[β k]? = some (.cells cs.toArray T (0, 0))
  set : ∀ {β bx L w k cs}, cfg.pr = true → R β bx L w → get bx k = some cs → ∀ (cs' : List Value) (T : TypeId), w.heap[β k]? = some (.cells cs.toArray T (0, 0)) →
    R β ((k, cs') :: bx) L { w with heap := w.heap.setIfInBounds (β k) (.cells cs'.toArray T (0, 0)) }
  trim : ∀ {β bx L w} (keep : List Nat), cfg.pr = true → R β bx L w → R β (Tri.trim keep bx) L w
  lt : ∀ {β bx L w k cs}, R β bx L w → get bx k = some cs → β k < w.heap.size
  claim : ∀ {β bx L w b o}, (∃ β1 bx1 L1 w1, R β1 bx1 L1 w1 ∧ w1.heap.size ≤ b) → R β bx L w → w.heap[b]? = some o → L b = none → (∀ k cs, get bx k = some cs → β k ≠ b) → R β bx (upd L b o) w

/-- The marks of the loops over functions, and how large the heap was at the start. -/
structure Dq where
  lo : Nat
  l : List Nat
  hid : List (Nat × Obj)
/-- A block that the machine has made and the walk has not come to. -/
structure Hid (R : Rl) (β : Nat → Nat) (bx : Bx) (L : Heap) (w : World) (p : Nat × Obj) : Prop where
  here : w.heap[p.1]? = some p.2
  none : L p.1 = none
  late : ∃ β1 bx1 L1 w1, R β1 bx1 L1 w1 ∧ w1.heap.size ≤ p.1
  box : ∀ k cs, get bx k = some cs → β k ≠ p.1
/-- WHAT THE STATE SAYS OF THE MACHINE. -/
structure St (R : Rl) (n : Nat) (ds : Dq) (β : Nat → Nat) (e : Env) (bx : Bx) (L : Heap) (a : Act) (w : World) : Prop where
  inv : R β bx L w
  siz : a.tmps.size = n
  val : ∀ t s, get e t = some s → a.tmps.getD t undef = sval β s
  dfr : a.defers = ds.l.map fun D => { target := .collected D, args := #[] }
  mrk : ∀ D ∈ ds.l, w.heap[D]? = some (.deferred (some [])) ∧ L D = none ∧ ds.lo ≤ D
  nod : ds.l.Nodup
  low : ds.lo ≤ w.heap.size
  hid : ∀ p ∈ ds.hid, Hid R β bx L w p

section
variable {R : Rl} {n : Nat} {ds : Dq} {β : Nat → Nat} {e : Env} {bx : Bx} {L : Heap} {a : Act} {w : World}
theorem St.evs (h : St R n ds β e bx L a w) {x : Operand} {s : SV} (hx : evs e x = some s) : a.eval x = sval β s := by
  cases x with
  | tmp t => exact h.val t s hx
  | const v => simp only [Tri.evs, Option.some.injEq] at hx; subst hx; rfl
  | global g => simp only [Tri.evs, Option.some.injEq] at hx; subst hx; rfl
  | func f => simp only [Tri.evs, Option.some.injEq] at hx; subst hx; rfl
theorem evs_of_evv {x : Operand} {v : Value} (hx : evv e x = some v) : Tri.evs e x = some (.v v) := by
  unfold evv at hx
  cases h : Tri.evs e x with
  | none => rw [h] at hx; cases hx
  | some s => cases s with
    | v y => rw [h] at hx; cases hx; rfl
    | a k off => rw [h] at hx; cases hx
theorem St.evv (h : St R n ds β e bx L a w) {x : Operand} {v : Value} (hx : evv e x = some v) : a.eval x = v := h.evs (evs_of_evv hx)
theorem St.evvs (h : St R n ds β e bx L a w) : ∀ {xs : List Operand} {vs : List Value}, evvs e xs = some vs → xs.map a.eval = vs
  | [], vs, hx => by simp only [Tri.evvs, Option.some.injEq] at hx; subst hx; rfl
  | x :: r, vs, hx => by
    unfold Tri.evvs at hx
    cases h1 : Tri.evv e x with
    | none => rw [h1] at hx; cases hx
    | some v =>
      rw [h1] at hx
      cases h2 : Tri.evvs e r with
      | none => rw [h2] at hx; cases hx
      | some l => rw [h2] at hx; cases hx; simp [h.evv h1, h.evvs h2]
theorem getD_set_same (ts : Array Value) (d : Nat) (v : Value) (hd : d < ts.size) : (ts.setIfInBounds d v).getD d undef = v := by
  simp [Array.getD_eq_getD_getElem?, hd]
theorem getD_set_other (ts : Array Value) {d t : Nat} (v : Value) (hne : d ≠ t) : (ts.setIfInBounds d v).getD t undef = ts.getD t undef := by
  simp [Array.getD_eq_getD_getElem?, Array.getElem?_setIfInBounds_ne hne]
/-- A slot is written. -/
theorem St.put (h : St R n ds β e bx L a w) {d : Nat} (hd : d < n) (s : SV) : St R n ds β ((d, s) :: e) bx L (a.put (some d) (sval β s)) w := by
  refine ⟨h.inv, by simp [Act.put, h.siz], fun t s' ht => ?_, h.dfr, h.mrk, h.nod, h.low, h.hid⟩
  by_cases e1 : d = t
  · subst e1; rw [get_cons_same] at ht; cases ht
    exact getD_set_same _ _ _ (by rw [h.siz]; exact hd)
  · rw [get_cons_other _ _ e1] at ht
    exact (getD_set_other _ _ e1).trans (h.val t s' ht)
theorem St.trimE (h : St R n ds β e bx L a w) (keep : List Nat) : St R n ds β (trim keep e) bx L a w :=
  ⟨h.inv, h.siz, fun t s ht => h.val t s (get_trim e keep ht), h.dfr, h.mrk, h.nod, h.low, h.hid⟩

def noRef (d : Nat) : Env → Bool
  | [] => true
  | p :: r => match p.2 with
    | .v _ => noRef d r
    | .a k _ => match Nat.beq k d with
      | true => false
      | false => noRef d r
theorem noRef_get {d : Nat} : ∀ {e : Env}, noRef d e = true → ∀ t k off, get e t = some (.a k off) → k ≠ d
  | [], _, t, k, off, ht => by simp [get] at ht
  | p :: r, hn, t, k, off, ht => by
    obtain ⟨u, s⟩ := p
    by_cases e1 : u = t
    · subst e1; rw [get_cons_same] at ht; cases ht
      simp only [noRef] at hn
      intro e; subst e; simp at hn
    · rw [get_cons_other _ _ e1] at ht
      refine noRef_get ?_ t k off ht
      cases s with
      | v x => exact hn
      | a k' off' =>
        simp only [noRef] at hn
        split at hn
        · cases hn
        · exact hn
variable {cfg : Cfg}
theorem St.sub (h : St R n ds β e bx L a w) (hR : RK cfg R) : Sub L (wl w) := hR.sub h.inv
theorem St.step (h : St R n ds β e bx L a w) (hR : RK cfg R) {M : Heap} {w' : World} (hx : Ext L w M w') (hro : ∀ r, cfg.ro = some r → Sub r M) : St R n ds β e bx M a w' :=
  ⟨hR.step h.inv hx hro, h.siz, h.val, h.dfr, fun D hD => by
    obtain ⟨h1, h2, h3⟩ := h.mrk D hD
    obtain ⟨k1, k2⟩ := hx.old D (Array.getElem?_eq_some_iff.1 h1).1 h2
    exact ⟨k2.trans h1, k1, h3⟩, h.nod, Nat.le_trans h.low hx.size, fun p hp => by
    obtain ⟨h1, h2, h3, h4⟩ := h.hid p hp
    obtain ⟨k1, k2⟩ := hx.old p.1 (Array.getElem?_eq_some_iff.1 h1).1 h2
    exact ⟨k2.trans h1, k1, h3, h4⟩⟩
/-- A new block that is known. -/
theorem St.alloc (h : St R n ds β e bx L a w) (hR : RK cfg R) (o : Obj) : St R n ds β e bx (upd L w.heap.size o) a (w.alloc o) :=
  h.step hR (Ext.alloc (h.sub hR) o) fun r hr => (hR.rok h.inv hr).trans (Sub.upd (Ext.allocNone (h.sub hR)))
theorem St.drew (h : St R n ds β e bx L a w) (hR : RK cfg R) (k : Nat) : St R n ds β e bx L a { w with drawn := k } :=
  h.step hR (Ext.drew (h.sub hR) k) fun r hr => hR.rok h.inv hr
/-- A new box. -/
theorem St.newBox (h : St R n ds β e bx L a w) (hR : RK cfg R) (hp : cfg.pr = true) {d : Nat} (hn : noRef d e = true) (cs : List Value) (T : TypeId) :
    St R n ds (fun k => if k = d then w.heap.size else β k) e ((d, cs) :: bx) L a (w.alloc (.cells cs.toArray T (0, 0))) := by
  refine ⟨hR.new hp h.inv d cs T, h.siz, fun t s ht => ?_, h.dfr, fun D hD => ?_, h.nod, Nat.le_trans h.low (by simp), fun p hp => ?_⟩
  rotate_left 2
  · obtain ⟨h1, h2, h3, h4⟩ := h.hid p hp
    have hlt : p.1 < w.heap.size := (Array.getElem?_eq_some_iff.1 h1).1
    refine ⟨(Below.heap_alloc w _ p.1 hlt).trans h1, h2, h3, fun k cs' hk => ?_⟩
    by_cases ek : d = k
    · subst ek; simp only [if_true]; omega
    · rw [get_cons_other _ _ ek] at hk
      rw [if_neg (fun e => ek e.symm)]; exact h4 k cs' hk
  rotate_left
  · obtain ⟨h1, h2, h3⟩ := h.mrk D hD
    exact ⟨(Below.heap_alloc w _ D (Array.getElem?_eq_some_iff.1 h1).1).trans h1, h2, h3⟩
  rw [h.val t s ht]
  cases s with
  | v x => rfl
  | a k off =>
    have := noRef_get hn t k off ht
    simp [sval, this]
end

/-! ### A plain call: where it began stands in the relation -/
structure Plain (L0 : Heap) (w0 : World) (β : Nat → Nat) (bx : Bx) (L : Heap) (w : World) : Prop where
  ext : Ext L0 w0 L w
  box : ∀ k cs, get bx k = some cs → w0.heap.size ≤ β k ∧ L (β k) = none ∧ ∃ T, w.heap[β k]? = some (.cells cs.toArray T (0, 0))
  inj : ∀ k k' cs cs', get bx k = some cs → get bx k' = some cs' → β k = β k' → k = k'
section
variable {L0 : Heap} {w0 : World} {n : Nat} {β : Nat → Nat} {e : Env} {bx : Bx} {L : Heap} {a : Act} {w : World}
theorem Plain.step (h : Plain L0 w0 β bx L w) {M : Heap} {w' : World} (hx : Ext L w M w') : Plain L0 w0 β bx M w' :=
  ⟨h.ext.trans hx, fun k cs hk => by
    obtain ⟨h1, h2, T, h3⟩ := h.box k cs hk
    have hlt : β k < w.heap.size := (Array.getElem?_eq_some_iff.1 h3).1
    obtain ⟨k1, k2⟩ := hx.old _ hlt h2
    exact ⟨h1, k1, T, k2.trans h3⟩, h.inj⟩
theorem Plain.newBox (h : Plain L0 w0 β bx L w) (d : Nat) (cs : List Value) (T : TypeId) :
    Plain L0 w0 (fun k => if k = d then w.heap.size else β k) ((d, cs) :: bx) L (w.alloc (.cells cs.toArray T (0, 0))) := by
  have h1 := h.step (Ext.allocHid h.ext.sub (.cells cs.toArray T (0, 0)))
  refine ⟨h1.ext, fun k cs' hk => ?_, fun k k' c c' hk hk' he => ?_⟩
  · by_cases ek : d = k
    · subst ek; rw [get_cons_same] at hk; cases hk
      simp only [if_true]
      exact ⟨h.ext.size, Ext.allocNone h.ext.sub, T, World.alloc_heap_new _ _⟩
    · rw [get_cons_other _ _ ek] at hk
      obtain ⟨k1, k2, T', k3⟩ := h1.box k cs' hk
      rw [if_neg (fun e => ek e.symm)]
      exact ⟨k1, k2, T', k3⟩
  · have hlt : ∀ {k : Nat} {c : List Value}, get bx k = some c → β k < w.heap.size := fun {k c} hk => by
      obtain ⟨_, _, T', k3⟩ := h.box k c hk
      exact (Array.getElem?_eq_some_iff.1 k3).1
    by_cases e1 : d = k <;> by_cases e2 : d = k'
    · rw [← e1, ← e2]
    · rw [get_cons_other _ _ e2] at hk'
      have := hlt hk'
      rw [if_pos e1.symm, if_neg (fun e => e2 e.symm)] at he
      omega
    · rw [get_cons_other _ _ e1] at hk
      have := hlt hk
      rw [if_pos e2.symm, if_neg (fun e => e1 e.symm)] at he
      omega
    · rw [get_cons_other _ _ e1] at hk
      rw [get_cons_other _ _ e2] at hk'
      rw [if_neg (fun e => e1 e.symm), if_neg (fun e => e2 e.symm)] at he
      exact h.inj k k' c c' hk hk' he
theorem Plain.setBox (h : Plain L0 w0 β bx L w) {k : Nat} {cs : List Value} (hk : get bx k = some cs) (cs' : List Value) (T : TypeId)
    (h3 : w.heap[β k]? = some (.cells cs.toArray T (0, 0))) : Plain L0 w0 β ((k, cs') :: bx) L { w with heap := w.heap.setIfInBounds (β k) (.cells cs'.toArray T (0, 0)) } := by
  obtain ⟨h1, h2, _⟩ := h.box k cs hk
  have hlt : β k < w.heap.size := (Array.getElem?_eq_some_iff.1 h3).1
  have oth : ∀ {b : Nat}, b ≠ β k → (w.heap.setIfInBounds (β k) (.cells cs'.toArray T (0, 0)))[b]? = w.heap[b]? := fun {b} hb => Array.getElem?_setIfInBounds_ne (by omega)
  refine ⟨⟨h.ext.os, h.ext.tape, h.ext.output, by simpa using h.ext.size, fun b o hb => ?_, fun b hb hL => ?_⟩, fun j c hj => ?_, fun j j' c c' hj hj' he => ?_⟩
  · have hne : b ≠ β k := by intro e; subst e; rw [h2] at hb; cases hb
    exact (oth hne).trans (h.ext.sub b o hb)
  · obtain ⟨k1, k2⟩ := h.ext.old b hb hL
    exact ⟨k1, (oth (by omega)).trans k2⟩
  · by_cases ej : k = j
    · subst ej; rw [get_cons_same] at hj; cases hj
      refine ⟨h1, h2, T, ?_⟩
      show (w.heap.setIfInBounds (β k) _)[β k]? = _
      simp [hlt]
    · rw [get_cons_other _ _ ej] at hj
      obtain ⟨q1, q2, T', q3⟩ := h.box j c hj
      exact ⟨q1, q2, T', (oth (fun e => ej (h.inj j k c cs hj hk e).symm)).trans q3⟩
  · have key : ∀ {j : Nat} {c : List Value}, get ((k, cs') :: bx) j = some c → ∃ c1, get bx j = some c1 := fun {j c} hj => by
      by_cases ej : k = j
      · subst ej; exact ⟨cs, hk⟩
      · rw [get_cons_other _ _ ej] at hj; exact ⟨c, hj⟩
    obtain ⟨c1, q1⟩ := key hj
    obtain ⟨c2, q2⟩ := key hj'
    exact h.inj j j' c1 c2 q1 q2 he
end
/-- A plain walk's relation is one. -/
theorem Plain.rk (L0 : Heap) (w0 : World) {cfg : Cfg} (hro : cfg.ro = none) : RK cfg (Plain L0 w0) where
  sub := fun h => h.ext.sub
  rok := fun _ hr => by rw [hro] at hr; cases hr
  step := fun h hx _ => h.step hx
  new := fun _ h d cs T => h.newBox d cs T
  read := fun _ h hk => let ⟨_, _, T, h3⟩ := h.box _ _ hk; ⟨T, h3⟩
  set := fun _ h hk cs' T h3 => h.setBox hk cs' T h3
  lt := fun h hk => let ⟨_, _, T, h3⟩ := h.box _ _ hk; (Array.getElem?_eq_some_iff.1 h3).1
  claim := fun {β bx L w b o} hl h hb hn hbx => by
    obtain ⟨β1, bx1, L1, w1, h1, hle⟩ := hl
    have hge : w0.heap.size ≤ b := Nat.le_trans h1.ext.size hle
    refine ⟨⟨h.ext.os, h.ext.tape, h.ext.output, h.ext.size, fun x p hx => ?_, fun x hx hL => ?_⟩, fun k cs hk => ?_, h.inj⟩
    · by_cases e : x = b
      · subst e; rw [upd_same] at hx; cases hx; exact hb
      · rw [upd_other _ _ e] at hx; exact h.ext.sub x p hx
    · obtain ⟨q1, q2⟩ := h.ext.old x hx hL
      exact ⟨by rw [upd_other _ _ (by omega)]; exact q1, q2⟩
    · obtain ⟨q1, q2, T, q3⟩ := h.box k cs hk
      exact ⟨q1, by rw [upd_other _ _ (hbx k cs hk)]; exact q2, T, q3⟩
  trim := fun keep _ h => ⟨h.ext, fun k cs hk => h.box k cs (get_trim _ keep hk), fun k k' cs cs' hk hk' => h.inj k k' cs cs' (get_trim _ keep hk) (get_trim _ keep hk')⟩

/-! ### Reading -/
/-- The cells from a on are these. -/
def Holds (L : Heap) (a : Addr) (cs : List Value) : Prop :=
  a.spot = none ∧ ∃ c E fz, L a.block = some (.cells c E fz) ∧ ∀ i v, cs[i]? = some v → c[a.off + i]? = some v
theorem add_spot {a : Addr} (h : a.spot = none) (i : Nat) : a.add i = ⟨a.block, a.off + i, none⟩ := by
  cases a; simp only at h; subst h; unfold Addr.add; split <;> simp_all
theorem Holds.cell {L : Heap} {a : Addr} {cs : List Value} {w : World} (h : Holds L a cs) (hs : Sub L (wl w)) : ∀ i v, cs[i]? = some v → w.cell? (a.add i) = some v := by
  intro i v hi
  obtain ⟨h1, c, E, fz, h2, h3⟩ := h
  rw [add_spot h1]
  have := hs _ _ h2
  unfold wl at this
  simp [World.cell?, this, h3 i v hi]
theorem Holds.sub {L M : Heap} {a : Addr} {cs : List Value} (h : Holds L a cs) (hs : Sub L M) : Holds M a cs :=
  let ⟨h1, c, E, fz, h2, h3⟩ := h
  ⟨h1, c, E, fz, hs _ _ h2, h3⟩

/-- Some value of the type's shape. -/
def tyExs (g : TypeId → (Value → Prop) → Prop) : List TypeId → (List Value → Prop) → Prop
  | [], k => k []
  | t :: ts, k => g t fun v => tyExs g ts fun vs => k (v :: vs)
def cellsOfAll : List Value → List Value
  | [] => []
  | v :: vs => v.cells.toList ++ cellsOfAll vs
def tyEx (P : Program) : Nat → TypeId → (Value → Prop) → Prop
  | 0, _, k => ∃ v, k v
  | f + 1, T, k => match P.underlying T with
    | some (.int kd) => ∃ x : Int, k (.int kd x)
    | some .bool => ∃ x : Bool, k (.bool x)
    | some .string => ∃ x : ByteArray, k (.string x)
    | some (.pointer _) => ∃ x : Option Addr, k (.pointer x)
    | some (.slice _) => ∃ (p : Option Addr) (m c : Nat), k (.slice p m c)
    | some (.map _ _) => ∃ x : Option Nat, k (.map x)
    | some (.struct fs) => tyExs (tyEx P f) (fs.toList.map (·.type)) fun vs => k (.agg (cellsOfAll vs).toArray)
    | some (.tuple ts) => tyExs (tyEx P f) ts.toList fun vs => k (.tuple vs.toArray)
    | _ => ∃ v, k v
theorem tyExs_ex {g : TypeId → (Value → Prop) → Prop} (hg : ∀ t k, g t k → ∃ v, k v) : ∀ (ts : List TypeId) (k : List Value → Prop), tyExs g ts k → ∃ vs, k vs
  | [], k, h => ⟨[], h⟩
  | t :: ts, k, h => by
    obtain ⟨v, hv⟩ := hg _ _ h
    obtain ⟨vs, hvs⟩ := tyExs_ex hg ts _ hv
    exact ⟨_, hvs⟩
theorem tyEx_ex {P : Program} : ∀ (f : Nat) (T : TypeId) (k : Value → Prop), tyEx P f T k → ∃ v, k v
  | 0, _, _, h => h
  | f + 1, T, k, h => by
    unfold tyEx at h
    split at h
    · exact let ⟨_, hx⟩ := h; ⟨_, hx⟩
    · exact let ⟨_, hx⟩ := h; ⟨_, hx⟩
    · exact let ⟨_, hx⟩ := h; ⟨_, hx⟩
    · exact let ⟨_, hx⟩ := h; ⟨_, hx⟩
    · exact let ⟨_, _, _, hx⟩ := h; ⟨_, hx⟩
    · exact let ⟨_, hx⟩ := h; ⟨_, hx⟩
    · exact let ⟨_, hx⟩ := tyExs_ex (tyEx_ex f) _ _ h; ⟨_, hx⟩
    · exact let ⟨_, hx⟩ := tyExs_ex (tyEx_ex f) _ _ h; ⟨_, hx⟩
    · exact h
end Go.Proofs.YtmcaejnofmbilaaGreat.Tri
