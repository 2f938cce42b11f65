/- The operations that read, write or make memory. -/
import Derived.Test.YtmcaejnofmbilaaGreatTriD
namespace Go.Proofs.YtmcaejnofmbilaaGreat.Tri
set_option linter.all false
open Go.RowKit

def pIf (t : Bool) (A B : Prop) : Prop := match t with
  | true => A
  | false => B
theorem pIf_mk {t : Bool} {A B : Prop} (h1 : t = true → A) (h2 : t = false → B) : pIf t A B := by
  cases t
  · exact h2 rfl
  · exact h1 rfl
def pSome (p : Option Addr) (K : Addr → Prop) : Prop := match p with
  | some a => K a
  | none => False

def memN (d : Nat) : List Nat → Bool
  | [] => false
  | x :: r => match Nat.beq x d with
    | true => true
    | false => memN d r
def zeroOf (P : Program) (T : TypeId) : Option Value := match P.info? T with
  | some i => i.zero
  | none => none
theorem run_zeroOf {P : Program} {T : TypeId} {z : Value} (w : World) (h : zeroOf P T = some z) : (zeroValue T).run P w = .ok z w := by
  unfold zeroOf at h
  cases hi : P.info? T with
  | none => rw [hi] at h; cases h
  | some i => rw [hi] at h; simp only at h; simp [zeroValue, typeInfo, hi, h]

/-- The shape of what a variable of the type bears. -/
def loadOK (P : Program) (T : TypeId) (v : Value) : Bool :=
  match P.underlying T with
  | some (.struct _) => match v, P.info? T with
    | .agg cs, some i => Nat.beq cs.toList.length i.size
    | _, _ => false
  | some (.array _ _) => match v, P.info? T with
    | .agg cs, some i => Nat.beq cs.toList.length i.size
    | _, _ => false
  | some _ => match v with
    | .agg _ => false
    | .tuple _ => false
    | _ => true
  | none => false
theorem run_loadOK {P : Program} {T : TypeId} {v : Value} {w : World} {ad : Addr} (h : loadOK P T v = true) (hc : ∀ i u, v.cells.toList[i]? = some u → w.cell? (ad.add i) = some u) :
    (loadVar T ad).run P w = .ok v w := by
  unfold loadOK at h
  split at h
  · rename_i fs hu
    split at h
    · rename_i cs i hi
      have hl := Nat.eq_of_beq_eq_true h
      have hr := run_loadCells_list (P := P) (w := w) ad cs.toList hc
      simp [loadVar, isAgg, run_underlying hu, sizeOf, typeInfo, hi, ← hl] at hr ⊢
      simp [hr]
    · cases h
  · rename_i fs hu
    split at h
    · rename_i cs i hi
      have hl := Nat.eq_of_beq_eq_true h
      have hr := run_loadCells_list (P := P) (w := w) ad cs.toList hc
      simp [loadVar, isAgg, run_underlying hu, sizeOf, typeInfo, hi, ← hl] at hr ⊢
      simp [hr]
    · cases h
  · rename_i d hd1 hd2 hu
    have hagg : (isAgg T).run P w = .ok false w := by
      cases d <;> simp_all [isAgg, run_underlying hu]
    have hv : v.cells = #[v] := by
      cases v <;> first | rfl | (simp at h)
    have h0 := hc 0 v (by rw [hv]; rfl)
    have : ad.add 0 = ad := by simp [Addr.add]
    rw [this] at h0
    simp [loadVar, hagg, h0]
  · cases h

def setAt (cs : List Value) (off : Nat) : List Value → List Value
  | [] => cs
  | v :: vs => setAt (cs.set off v) (off + 1) vs
theorem setAt_length : ∀ (vs cs : List Value) (off : Nat), (setAt cs off vs).length = cs.length
  | [], _, _ => rfl
  | v :: vs, cs, off => by rw [setAt, setAt_length vs]; simp
def allSingle : List Value → Bool
  | [] => true
  | v :: vs => match v with
    | .agg _ => false
    | .tuple _ => false
    | _ => allSingle vs
def storeOK (P : Program) (T : TypeId) (v : Value) : Bool :=
  match P.info? T with
  | some i => match Nat.beq v.cells.toList.length i.size with
    | true => allSingle v.cells.toList
    | false => false
  | none => false
theorem setCell_eq {w : World} {b off : Nat} {c : Array Value} {E : TypeId} (hb : w.heap[b]? = some (.cells c E (0, 0))) (v : Value) :
    w.setCell ⟨b, off, none⟩ v = { w with heap := w.heap.setIfInBounds b (.cells (c.toList.set off v).toArray E (0, 0)) } := by
  have hlt : b < w.heap.size := (Array.getElem?_eq_some_iff.1 hb).1
  unfold World.setCell
  congr 1
  apply Array.ext_getElem?
  intro i
  rw [Array.getElem?_modify]
  by_cases e : b = i
  · subst e
    simp only [if_true, hb]
    simp only [hlt, Array.getElem?_setIfInBounds_self_of_lt, Option.map_some]
    congr 2
    apply Array.ext'; simp
  · rw [if_neg e, Array.getElem?_setIfInBounds_ne e]
theorem run_storeCells {P : Program} {b off : Nat} {E : TypeId} : ∀ (vs : List Value) (c : List Value) (w : World) (i : Nat), w.heap[b]? = some (.cells c.toArray E (0, 0)) → off + i + vs.length ≤ c.length → allSingle vs = true →
    (storeCells ⟨b, off, none⟩ vs i).run P w = .ok () { w with heap := w.heap.setIfInBounds b (.cells (setAt c (off + i) vs).toArray E (0, 0)) }
  | [], c, w, i, hb, _, _ => by
    simp only [storeCells, setAt, Sem.run_pure]
    congr 1
    have e : w.heap.setIfInBounds b (.cells c.toArray E (0, 0)) = w.heap := by
      have hlt : b < w.heap.size := (Array.getElem?_eq_some_iff.1 hb).1
      apply Array.ext_getElem?
      intro i
      by_cases e : b = i
      · subst e; rw [Array.getElem?_setIfInBounds_self_of_lt hlt, hb]
      · rw [Array.getElem?_setIfInBounds_ne e]
    rw [e]
  | v :: vs, c, w, i, hb, hl, hs => by
    have hv : v.oneCell' = true := by cases v <;> first | rfl | (simp [allSingle] at hs)
    have hs' : allSingle vs = true := by cases v <;> first | exact hs | (simp [allSingle] at hs)
    simp only [List.length_cons] at hl
    have e1 : (⟨b, off, none⟩ : Addr).add i = ⟨b, off + i, none⟩ := add_spot rfl i
    have hcell : w.cell? ⟨b, off + i, none⟩ = some (c[off + i]'(by omega)) := by
      simp [World.cell?, hb, List.getElem?_eq_getElem (show off + i < c.length by omega)]
    have hfz : w.frozen? ⟨b, off + i, none⟩ = false := by simp [World.frozen?, hb]
    have hlt : b < w.heap.size := (Array.getElem?_eq_some_iff.1 hb).1
    rw [storeCells, Sem.run_bind, e1, run_store P w _ v _ hv, hcell, hfz]
    simp only [Bool.false_eq_true, if_false, Result.andThen_ok]
    rw [setCell_eq hb]
    have hb2 : ({ w with heap := w.heap.setIfInBounds b (.cells (c.set (off + i) v).toArray E (0, 0)) } : World).heap[b]? = some (.cells (c.set (off + i) v).toArray E (0, 0)) := by simp [hlt]
    rw [run_storeCells vs (c.set (off + i) v) _ (i + 1) hb2 (by simp; omega) hs']
    simp [setAt, Nat.add_assoc]
theorem run_storeOK {P : Program} {T : TypeId} {v : Value} {w : World} {b off : Nat} {c : List Value} {E : TypeId} (h : storeOK P T v = true) (hb : w.heap[b]? = some (.cells c.toArray E (0, 0))) (hl : off + v.cells.toList.length ≤ c.length) :
    (storeVar T ⟨b, off, none⟩ v).run P w = .ok () { w with heap := w.heap.setIfInBounds b (.cells (setAt c off v.cells.toList).toArray E (0, 0)) } := by
  unfold storeOK at h
  split at h
  · rename_i i hi
    split at h
    · rename_i hsz
      have hl' := Nat.eq_of_beq_eq_true hsz
      have := run_storeCells (P := P) (off := off) v.cells.toList c w 0 hb (by simpa using hl) h
      simp only [Nat.add_zero] at this
      simp only [Array.length_toList] at hl'
      simp [storeVar, sizeOf, typeInfo, hi, hl', this]
    · cases h
  · cases h

def boxRead (P : Program) (T : TypeId) (cs : List Value) (off : Nat) : Option Value :=
  match P.underlying T with
  | some (.struct _) => match P.info? T with
    | some i => match Nat.ble (off + i.size) cs.length with
      | true => some (.agg ((cs.drop off).take i.size).toArray)
      | false => none
    | none => none
  | some (.array _ _) => match P.info? T with
    | some i => match Nat.ble (off + i.size) cs.length with
      | true => some (.agg ((cs.drop off).take i.size).toArray)
      | false => none
    | none => none
  | some _ => match cs[off]? with
    | some v => match v with
      | .agg _ => none
      | .tuple _ => none
      | v => some v
    | none => none
  | none => none
theorem boxRead_ok {P : Program} {T : TypeId} {cs : List Value} {off : Nat} {v : Value} (h : boxRead P T cs off = some v) :
    loadOK P T v = true ∧ ∀ i u, v.cells.toList[i]? = some u → cs[off + i]? = some u := by
  unfold boxRead at h
  unfold loadOK
  split at h
  · rename_i fs hu
    split at h
    · rename_i i hi
      split at h
      · rename_i hle
        simp only [Option.some.injEq] at h; subst h
        have hle := Nat.le_of_ble_eq_true hle
        refine ⟨by simp [hi]; omega, fun j u hj => ?_⟩
        simp only [Value.cells, List.getElem?_take, List.getElem?_drop] at hj
        split at hj
        · exact hj
        · cases hj
      · cases h
    · cases h
  · rename_i fs hu
    split at h
    · rename_i i hi
      split at h
      · rename_i hle
        simp only [Option.some.injEq] at h; subst h
        have hle := Nat.le_of_ble_eq_true hle
        refine ⟨by simp [hi]; omega, fun j u hj => ?_⟩
        simp only [Value.cells, List.getElem?_take, List.getElem?_drop] at hj
        split at hj
        · exact hj
        · cases hj
      · cases h
    · cases h
  · rename_i d hd1 hd2 hu
    split at h
    · rename_i v' hv
      split at h
      · cases h
      · cases h
      · rename_i hn1 hn2
        simp only [Option.some.injEq] at h; subst h
        refine ⟨?_, fun j u hj => ?_⟩
        · cases d <;> simp_all
        · have hvc : v'.cells = #[v'] := by
            cases v' <;> first | rfl | (exact absurd rfl (hn1 _))
          rw [hvc] at hj
          match j, hj with
          | 0, hj => simp only [List.getElem?_cons_zero, Option.some.injEq] at hj; subst hj; exact hv
          | j + 1, hj => simp at hj
    · cases h
  · cases h

def pStore (L : Heap) (ad : Addr) (vs : List Value) (K : Heap → Prop) : Prop :=
  ad.spot = none ∧ ∃ c E, L ad.block = some (.cells c E (0, 0)) ∧ ad.off + vs.length ≤ c.toList.length ∧ K (upd L ad.block (.cells (setAt c.toList ad.off vs).toArray E (0, 0)))

section
variable {P : Program} {R : Rl} {cfg : Cfg} {n m : Nat} {ds : Dq} {ro : Option Nat} {β : Nat → Nat} {e : Env} {bx : Bx} {L : Heap} {a : Act} {w : World} {o : Oper} {K : SV → Bx → Heap → Prop} {next : Act → World → Prop} {Q : Exit → Act → World → Prop}

/-- What follows when an operation has yielded. -/
def Goes (R : Rl) (n : Nat) (ds : Dq) (e : Env) (a : Act) (o : Oper) (K : SV → Bx → Heap → Prop) (next : Act → World → Prop) : Prop :=
  ∀ s bx' M β' w', K s bx' M → St R n ds β' e bx' M a w' → next (a.put o.dst (sval β' s)) w'

theorem goes_value (h : St R n ds β e bx L a w) (hg : Goes R n ds e a o K next) (hd : ∀ c, o.op ≠ .defer c) {v : Value} (hr : (execOp a.eval o).run P w = .ok (.value v) w) (hk : K (.v v) bx L) : o.wpIn (WF ro) m P a w next Q :=
  wpIn_value hd hr (hg (.v v) bx L β w hk h)

/-! the clauses -/
def svcAlloc (cfg : Cfg) (e : Env) (bx : Bx) (L : Heap) (dst : Option Nat) (T : TypeId) (v : Value) (K : SV → Bx → Heap → Prop) : Prop :=
  match dst with
  | some d => match cfg.pr && memN d cfg.prom with
    | true => match noRef d e with
      | true => K (.a d 0) ((d, v.cells.toList) :: bx) L
      | false => False
    | false => ∀ b M, L b = none → M = upd L b (.cells v.cells T (0, 0)) → K (.v (.pointer (some ⟨b, 0, none⟩))) bx M
  | none => False
theorem svcAlloc_sound (hR : RK cfg R) (h : St R n ds β e bx L a w) {T : TypeId} {v : Value} (hs : svcAlloc cfg e bx L o.dst T v K) (hg : Goes R n ds e a o K next) (hd : ∀ c, o.op ≠ .defer c)
    (hr : (execOp a.eval o).run P w = .ok (.value (.pointer (some ⟨w.heap.size, 0, none⟩))) (w.alloc (.cells v.cells T (0, 0)))) : o.wpIn (WF ro) m P a w next Q := by
  unfold svcAlloc at hs
  split at hs
  · rename_i d hdst
    split at hs
    · rename_i hpr
      split at hs
      · rename_i hn
        have hb := h.newBox hR (by simp at hpr; exact hpr.1) hn v.cells.toList T
        have := hg (.a d 0) _ _ _ _ hs hb
        simp only [sval, if_true] at this
        exact wpIn_value hd hr this
      · exact hs.elim
    · exact wpIn_value hd hr (hg (.v _) bx _ β _ (hs _ _ (Ext.allocNone (h.sub hR)) rfl) (h.alloc hR _))
  · exact hs.elim

def svcLoad (P : Program) (cfg : Cfg) (e : Env) (bx : Bx) (L : Heap) (T : TypeId) (x : Operand) (K : SV → Bx → Heap → Prop) : Prop :=
  match evs e x with
  | some (.a k off) => match cfg.pr, get bx k with
    | true, some cs => match boxRead P T cs off with
      | some v => K (.v v) bx L
      | none => False
    | _, _ => False
  | some (.v (.pointer (some ad))) => tyEx P cfg.ty T fun v => match loadOK P T v with
    | true => Holds L ad v.cells.toList ∧ K (.v v) bx L
    | false => False
  | _ => False
theorem svcLoad_sound (hR : RK cfg R) (h : St R n ds β e bx L a w) {T : TypeId} {x : Operand} (ho : o.op = .load T x) (hs : svcLoad P cfg e bx L T x K) (hg : Goes R n ds e a o K next) : o.wpIn (WF ro) m P a w next Q := by
  have hd : ∀ c, o.op ≠ .defer c := fun c hc => by rw [ho] at hc; cases hc
  unfold svcLoad at hs
  split at hs
  · rename_i k off hx
    split at hs
    · rename_i cs hpr hk
      split at hs
      · rename_i v hv
        obtain ⟨h1, h2⟩ := boxRead_ok hv
        obtain ⟨T', hb⟩ := hR.read hpr h.inv hk
        have hr := run_loadOK (P := P) (w := w) (ad := ⟨β k, off, none⟩) h1 (fun i u hi => by
          rw [add_spot rfl]; simp [World.cell?, hb, h2 i u hi])
        exact goes_value h hg hd (by simp [execOp, ho, h.evs hx, sval, Instr.loadAt, Instr.sureAddr, hr]) hs
      · exact hs.elim
    · exact hs.elim
  · rename_i ad hx
    obtain ⟨v, hv⟩ := tyEx_ex _ _ _ hs
    split at hv
    · rename_i h1
      obtain ⟨h2, h3⟩ := hv
      have hr := run_loadOK (P := P) (w := w) (ad := ad) h1 (h2.cell (h.sub hR))
      exact goes_value h hg hd (by simp [execOp, ho, h.evs hx, sval, Instr.loadAt, Instr.sureAddr, hr]) h3
    · exact hv.elim
  · exact hs.elim

def andRo (cfg : Cfg) (b : Nat) (A : Prop) : Prop := match cfg.ro with
  | none => A
  | some r => r b = none ∧ A
theorem andRo_elim {cfg : Cfg} {b : Nat} {A : Prop} (h : andRo cfg b A) : (∀ r, cfg.ro = some r → r b = none) ∧ A := by
  unfold andRo at h
  split at h
  · rename_i hn; exact ⟨fun r hr => (by rw [hn] at hr; cases hr), h⟩
  · rename_i r hr; exact ⟨fun r' hr' => (by rw [hr] at hr'; cases hr'; exact h.1), h.2⟩

def svcStore (P : Program) (cfg : Cfg) (e : Env) (bx : Bx) (L : Heap) (T : TypeId) (x y : Operand) (K : SV → Bx → Heap → Prop) : Prop :=
  match evv e y with
  | some v => match storeOK P T v with
    | true => match evs e x with
      | some (.a k off) => match cfg.pr, get bx k with
        | true, some cs => match Nat.ble (off + v.cells.toList.length) cs.length with
          | true => K (.v undef) ((k, setAt cs off v.cells.toList) :: bx) L
          | false => False
        | _, _ => False
      | some (.v (.pointer (some ad))) => pStore L ad v.cells.toList fun M => andRo cfg ad.block (K (.v undef) bx M)
      | _ => False
    | false => False
  | none => False
theorem svcStore_sound (hR : RK cfg R) (h : St R n ds β e bx L a w) {T : TypeId} {x y : Operand} (ho : o.op = .store T x y) (hs : svcStore P cfg e bx L T x y K) (hg : Goes R n ds e a o K next) : o.wpIn (WF ro) m P a w next Q := by
  have hd : ∀ c, o.op ≠ .defer c := fun c hc => by rw [ho] at hc; cases hc
  unfold svcStore at hs
  split at hs
  · rename_i v hv
    split at hs
    · rename_i hok
      split at hs
      · rename_i k off hx
        split at hs
        · rename_i cs hpr hk
          split at hs
          · rename_i hle
            have hle := Nat.le_of_ble_eq_true hle
            obtain ⟨T', hb⟩ := hR.read hpr h.inv hk
            have hr := run_storeOK (P := P) (w := w) (b := β k) (off := off) hok hb hle
            refine wpIn_skip' hd (by simp [execOp, ho, h.evs hx, h.evv hv, sval, Instr.storeAt, Instr.sureAddr, hr]; rfl) ?_
            exact hg (.v undef) _ _ β _ hs ⟨hR.set hpr h.inv hk _ T' hb, h.siz, h.val, h.dfr, fun D hD => by
              obtain ⟨h8, h9, h10⟩ := h.mrk D hD
              refine ⟨?_, h9, h10⟩
              have hne : β k ≠ D := by intro e9; subst e9; rw [hb] at h8; cases h8
              exact (Array.getElem?_setIfInBounds_ne hne).trans h8, h.nod, by simpa using h.low, fun p hp => by
              obtain ⟨q1, q2, q3, q4⟩ := h.hid p hp
              refine ⟨(Array.getElem?_setIfInBounds_ne (q4 k cs hk)).trans q1, q2, q3, fun k' cs' hk' => ?_⟩
              by_cases ek : k = k'
              · subst ek; exact q4 k cs hk
              · rw [get_cons_other _ _ ek] at hk'; exact q4 k' cs' hk'⟩
          · exact hs.elim
        · exact hs.elim
      · rename_i ad hx
        obtain ⟨h1, c, E, h2, h3, h4⟩ := hs
        obtain ⟨hro, h4⟩ := andRo_elim h4
        obtain ⟨b, off, sp⟩ := ad
        simp only at h1; subst h1
        have hb := h.sub hR _ _ h2
        unfold wl at hb
        have hr := run_storeOK (P := P) (w := w) (b := b) (off := off) (c := c.toList) (E := E) hok (by simpa using hb) h3
        refine wpIn_skip' hd (by simp [execOp, ho, h.evs hx, h.evv hv, sval, Instr.storeAt, Instr.sureAddr, hr]; rfl) ?_
        refine hg (.v undef) _ _ β _ h4 (h.step hR (Ext.set (h.sub hR) h2 _ rfl) fun r hr' x2 y2 hx2 => ?_)
        rw [upd_other]
        · exact hR.rok h.inv hr' x2 y2 hx2
        · intro ex; subst ex; have h9 := hro r hr'; rw [h9] at hx2; cases hx2
      · exact hs.elim
    · exact hs.elim
  · exact hs.elim
end
end Go.Proofs.YtmcaejnofmbilaaGreat.Tri
