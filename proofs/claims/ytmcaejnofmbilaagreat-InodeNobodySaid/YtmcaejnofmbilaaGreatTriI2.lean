/- Regions whose order is drawn: soundness. -/
import Derived.Test.YtmcaejnofmbilaaGreatTriI1
import Derived.OrdersIn
namespace Go.Proofs.YtmcaejnofmbilaaGreat.Tri
set_option linter.all false
open Go.RowKit

theorem memN_iff {d : Nat} : ∀ {l : List Nat}, memN d l = true ↔ d ∈ l
  | [] => by simp [memN]
  | x :: r => by
    unfold memN
    cases hb : Nat.beq x d with
    | true => have := Nat.eq_of_beq_eq_true hb; subst this; simp
    | false =>
      have hne : x ≠ d := fun e => by subst e; rw [Nat.beq_refl] at hb; cases hb
      simp only [List.mem_cons]
      rw [memN_iff]
      constructor
      · exact .inr
      · rintro (h | h)
        · exact absurd h.symm hne
        · exact h
theorem binds_any (ed : Edge) : Region.binds .any ed = bindsAny ed := by
  obtain ⟨on, g⟩ := ed
  cases g <;> rfl

section
variable {P : Program} {R : Rl} {cfg : Cfg} {n m : Nat} {ds : Dq} {ro : Option Nat} {β : Nat → Nat} {e : Env} {bx : Bx} {L : Heap} {a : Act} {w : World} {Q : Exit → Act → World → Prop}

theorem svcOp_plain {o : Oper} {K : SV → Bx → Heap → Prop} (h : svcOp P cfg e bx L o K) : (∀ cs b, o.op ≠ .select cs b) ∧ (∀ c, o.op ≠ .defer c) := by
  constructor
  · intro cs b hc
    have hp : pureOp P e o = none := by unfold pureOp; simp [hc]
    unfold svcOp at h; simp [hp, hc] at h
  · intro c hc
    have hp : pureOp P e o = none := by unfold pureOp; simp [hc]
    unfold svcOp at h; simp [hp, hc] at h

theorem wpIn_at {o : Oper} {a a2 : Act} {next next2 : Act → World → Prop} (hsel : ∀ cs b, o.op ≠ .select cs b) (hdef : ∀ c, o.op ≠ .defer c)
    (heq : ∀ x ∈ o.op.operands, a.eval x = a2.eval x) (h : o.wpIn (WF ro) m P a2 w next2 (fun _ _ _ => False)) (hn : ∀ v w', next2 (a2.put o.dst v) w' → next (a.put o.dst v) w')
    (hn2 : ∀ d w', ¬ next2 ({ a2 with defers := d :: a2.defers }.put o.dst undef) w') : o.wpIn (WF ro) m P a w next Q := by
  refine ⟨fun _ _ => trivial, ?_⟩
  have h2 := h.2
  rw [notDefer_of hdef, ← execOp_congr o hsel heq] at h2
  rw [notDefer_of hdef]
  generalize (execOp a.eval o).run P w = r at h2 ⊢
  cases r with
  | ok x w' =>
    cases x <;> simp only [Oper.uponIn] at h2 ⊢
    case value v => exact hn _ _ h2
    case skip => exact hn _ _ h2
    case defer d => exact (hn2 _ _ h2).elim
    case enter f args =>
      refine ⟨h2.1, CallsIn.mono h2.2 fun en w'' he => ?_⟩
      cases en with
      | returned v => exact hn _ _ he
      | panicked c => exact False.elim he
      | outgrown => exact (let ⟨_, _, h3⟩ := he; False.elim h3)
    case row row args => exact ⟨h2.1, RowsIn.mono h2.2 fun v w'' he => hn _ _ he⟩
    case round l f tmps assign body =>
      refine ⟨h2.1, RoundIn.mono h2.2 fun en w'' he => ?_⟩
      cases en with
      | returned v => exact hn _ _ he
      | panicked c => exact False.elim he
      | outgrown => exact (let ⟨_, _, h3⟩ := he; False.elim h3)
  | halt x w' =>
    cases x <;> simp only [Oper.uponIn] at h2 ⊢

/-- The activation with its slots filled as the environment says. -/
def fillA (n : Nat) (β : Nat → Nat) (e : Env) (a : Act) : Act :=
  { tmps := Array.ofFn (n := n) fun t => match get e t.val with
      | some s => sval β s
      | none => a.tmps.getD t.val undef, defers := a.defers }
theorem fill_size : (fillA n β e a).tmps.size = n := by simp [fillA]
theorem fill_lt {t : Nat} (h : t < n) : (fillA n β e a).tmps.getD t undef = match get e t with
    | some s => sval β s
    | none => a.tmps.getD t undef := by
  simp [fillA, Array.getD_eq_getD_getElem?, h]
theorem fill_ge {t : Nat} (h : n ≤ t) : (fillA n β e a).tmps.getD t undef = undef := by
  rw [Array.getD_eq_getD_getElem?, Array.getElem?_eq_none (by rw [fill_size]; exact h)]; rfl
theorem getD_ge {t : Nat} (hs : a.tmps.size = n) (h : n ≤ t) : a.tmps.getD t undef = undef := by
  rw [Array.getD_eq_getD_getElem?, Array.getElem?_eq_none (by rw [hs]; exact h)]; rfl
theorem fill_agree {t : Nat} (hs : a.tmps.size = n) (h : ∀ s, get e t = some s → a.tmps.getD t undef = sval β s) : a.tmps.getD t undef = (fillA n β e a).tmps.getD t undef := by
  rcases Nat.lt_or_ge t n with hlt | hge
  · rw [fill_lt hlt]
    cases he : get e t with
    | none => rfl
    | some s => exact h s he
  · rw [fill_ge hge, getD_ge hs hge]
theorem getElem?_of_getD {xs ys : Array Value} (hs : xs.size = ys.size) {t : Nat} (h : xs.getD t undef = ys.getD t undef) : xs[t]? = ys[t]? := by
  rcases Nat.lt_or_ge t xs.size with hlt | hge
  · have hlt' : t < ys.size := hs ▸ hlt
    simp only [Array.getD_eq_getD_getElem?, Array.getElem?_eq_getElem hlt, Array.getElem?_eq_getElem hlt', Option.getD_some] at h
    rw [Array.getElem?_eq_getElem hlt, Array.getElem?_eq_getElem hlt', h]
  · rw [Array.getElem?_eq_none hge, Array.getElem?_eq_none (hs ▸ hge)]
theorem wanted_agree {ops : Array Oper} {o : Oper} {a a2 : Act} (hs : a.tmps.size = a2.tmps.size) (h : ∀ t ∈ o.looksAt ops, a.tmps.getD t undef = a2.tmps.getD t undef) :
    Region.wanted o (yielded ops a.tmps) = Region.wanted o (yielded ops a2.tmps) := by
  unfold Region.wanted
  cases hg : o.guard with
  | none => rfl
  | some gw =>
    obtain ⟨g, want⟩ := gw
    have hy : yielded ops a.tmps g = yielded ops a2.tmps g := by
      unfold yielded
      cases ht : (ops[g]?).bind (·.dst) with
      | none => rfl
      | some t =>
        simp only [Option.bind_some]
        rw [getElem?_of_getD hs (h t (by simp [Oper.looksAt, hg, ht]))]
    simp only [hy]
theorem eval_agree {ops : Array Oper} {o : Oper} {a a2 : Act} (h : ∀ t ∈ o.looksAt ops, a.tmps.getD t undef = a2.tmps.getD t undef) : ∀ x ∈ o.op.operands, a.eval x = a2.eval x := by
  intro x hx
  cases x with
  | tmp t => exact h t (List.mem_append_left _ (List.mem_filterMap.2 ⟨.tmp t, by simpa using hx, rfl⟩))
  | _ => rfl

/-- What the walk says of everything but the slots. -/
structure Base (R : Rl) (n : Nat) (ds : Dq) (β : Nat → Nat) (bx : Bx) (L : Heap) (a : Act) (w : World) : Prop where
  inv : R β bx L w
  siz : a.tmps.size = n
  dfr : a.defers = ds.l.map fun D => { target := .collected D, args := #[] }
  mrk : ∀ D ∈ ds.l, w.heap[D]? = some (.deferred (some [])) ∧ L D = none ∧ ds.lo ≤ D
  nod : ds.l.Nodup
  low : ds.lo ≤ w.heap.size
  hid : ∀ p ∈ ds.hid, Hid R β bx L w p
theorem Base.fill (h : Base R n ds β bx L a w) (hb : ∀ t s, get e t = some s → n ≤ t → sval β s = undef) : St R n ds β e bx L (fillA n β e a) w :=
  ⟨h.inv, fill_size, fun t s ht => by
    rcases Nat.lt_or_ge t n with hlt | hge
    · rw [fill_lt hlt, ht]
    · rw [fill_ge hge, hb t s ht hge], h.dfr, h.mrk, h.nod, h.low, h.hid⟩
theorem St.base (h : St R n ds β e bx L a w) : Base R n ds β bx L a w := ⟨h.inv, h.siz, h.dfr, h.mrk, h.nod, h.low, h.hid⟩
theorem Base.put (h : Base R n ds β bx L a w) (dst : Option Nat) (v : Value) : Base R n ds β bx L (a.put dst v) w := by
  refine ⟨h.inv, ?_, ?_, h.mrk, h.nod, h.low, h.hid⟩
  · cases dst <;> simp [Act.put, h.siz]
  · cases dst <;> exact h.dfr
theorem put_defers (a : Act) (dst : Option Nat) (v : Value) : (a.put dst v).defers = a.defers := by cases dst <;> rfl
theorem put_size (a : Act) (dst : Option Nat) (v : Value) : (a.put dst v).tmps.size = a.tmps.size := by cases dst <;> simp [Act.put]
theorem put_getD_ne {a : Act} {dst : Option Nat} {v : Value} {t : Nat} (h : dst ≠ some t) : (a.put dst v).tmps.getD t undef = a.tmps.getD t undef := by
  cases dst with
  | none => rfl
  | some d => exact getD_set_other _ _ (fun e => h (by rw [e]))
theorem put_getD_eq {a : Act} {v : Value} {t : Nat} (h : t < a.tmps.size) : (a.put (some t) v).tmps.getD t undef = v := getD_set_same _ _ _ h

/-- One operation, out of its clause, at an activation that agrees where the operation looks. -/
theorem svcOp_at (hR : RK cfg R) {ops : Array Oper} {o : Oper} {K : SV → Bx → Heap → Prop} {next : Act → World → Prop} (hB : Base R n ds β bx L a w) (hb : ∀ t s, get e t = some s → t < n)
    (hag : ∀ t ∈ o.looksAt ops, ∀ s, get e t = some s → a.tmps.getD t undef = sval β s) (hs : svcOp P cfg e bx L o K)
    (hn : ∀ s bx' M β' w', K s bx' M → Base R n ds β' bx' M (a.put o.dst (sval β' s)) w' → (∀ t s, get e t = some s → sval β' s = sval β s) → next (a.put o.dst (sval β' s)) w') : o.wpIn (WF ro) m P a w next Q := by
  obtain ⟨hsel, hdef⟩ := svcOp_plain hs
  have hag' : ∀ t ∈ o.looksAt ops, a.tmps.getD t undef = (fillA n β e a).tmps.getD t undef := fun t ht => fill_agree hB.siz (hag t ht)
  have hst := hB.fill (e := e) fun t s ht hge => absurd (hb t s ht) (by omega)
  refine wpIn_at hsel hdef (eval_agree hag') (next2 := fun a' w' => a'.defers = a.defers ∧ ∀ v, a' = (fillA n β e a).put o.dst v → next (a.put o.dst v) w') (svcOp_sound hR hst hs ?_) ?_ ?_
  · intro s bx' M β' w' hk hst'
    refine ⟨put_defers _ _ _, fun v hv => ?_⟩
    have e1 : a.put o.dst v = a.put o.dst (sval β' s) := by
      cases hd : o.dst with
      | none => rfl
      | some d =>
        rw [hd] at hv
        rcases Nat.lt_or_ge d n with hlt | hge
        · have h1 : ((fillA n β e a).put (some d) (sval β' s)).tmps.getD d undef = sval β' s := put_getD_eq (by rw [fill_size]; exact hlt)
          rw [hv, put_getD_eq (by rw [fill_size]; exact hlt)] at h1
          rw [h1]
        · have e3 : ∀ u, a.put (some d) u = a := fun u => by
            simp only [Act.put]
            rw [Array.setIfInBounds_eq_of_size_le (by rw [hB.siz]; exact hge)]
          rw [e3, e3]
    rw [e1]
    refine hn s bx' M β' w' hk (Base.put ⟨hst'.inv, hB.siz, hB.dfr, hst'.mrk, hst'.nod, hst'.low, hst'.hid⟩ _ _) fun t s ht => ?_
    rw [← hst'.val t s ht, hst.val t s ht]
  · intro v w' h2
    exact h2.2 v rfl
  · intro d w' h2
    have := h2.1
    rw [put_defers] at this
    simp [fillA] at this
theorem svcGuard_congr {ops : Array Oper} {o : Oper} {e2 : Env} (h : ∀ t ∈ o.looksAt ops, get e t = get e2 t) : svcGuard ops e o = svcGuard ops e2 o := by
  unfold svcGuard
  cases hg : o.guard with
  | none => rfl
  | some gw =>
    obtain ⟨j, want⟩ := gw
    simp only
    cases hj : ops[j]? with
    | none => rfl
    | some oj =>
      simp only
      cases hd : oj.dst with
      | none => rfl
      | some d => simp only [h d (by simp [Oper.looksAt, hg, hj, hd])]
theorem looks_evs {ops : Array Oper} {o : Oper} {e2 : Env} (h : ∀ t ∈ o.looksAt ops, get e t = get e2 t) : ∀ x ∈ o.op.operands, evs e x = evs e2 x := by
  intro x hx
  cases x with
  | tmp t => exact h t (List.mem_append_left _ (List.mem_filterMap.2 ⟨.tmp t, by simpa using hx, rfl⟩))
  | _ => rfl
theorem guard_at {ops : Array Oper} {o : Oper} {g : Bool} (hB : Base R n ds β bx L a w) (hb : ∀ t s, get e t = some s → t < n)
    (hag : ∀ t ∈ o.looksAt ops, ∀ s, get e t = some s → a.tmps.getD t undef = sval β s) (hg : svcGuard ops e o = some g) : Region.wanted o (yielded ops a.tmps) = g := by
  have hst := hB.fill (e := e) fun t s ht hge => absurd (hb t s ht) (by omega)
  rw [← svcGuard_wanted hst hg]
  exact wanted_agree (by rw [fill_size, hB.siz]) fun t ht => fill_agree hB.siz (hag t ht)

/-! the form of the region -/
variable {ops : Array Oper}
def Closed (ops : Array Oper) (C : Nat → Prop) : Prop := ∀ i, C i → ∀ o, ops[i]? = some o → ∀ ed ∈ o.after, bindsAny ed = true → C ed.on
theorem behind_sub {C : Nat → Prop} (hC : Closed ops C) : ∀ (f : Nat) (todo acc : List Nat), (∀ i ∈ todo, C i) → (∀ i ∈ acc, C i) → ∀ i ∈ behind ops.toList f todo acc, C i
  | 0, todo, acc, _, ha, i, hi => by simp only [behind] at hi; exact ha i hi
  | f + 1, [], acc, _, ha, i, hi => by simp only [behind] at hi; exact ha i hi
  | f + 1, j :: todo, acc, ht, ha, i, hi => by
    simp only [behind] at hi
    split at hi
    · exact behind_sub hC f todo acc (fun k hk => ht k (by simp [hk])) ha i hi
    · split at hi
      · rename_i o ho
        refine behind_sub hC f _ _ (fun k hk => ?_) (fun k hk => ?_) i hi
        · rcases List.mem_append.1 hk with hk | hk
          · obtain ⟨ed, hed, rfl⟩ := List.mem_map.1 hk
            obtain ⟨h1, h2⟩ := List.mem_filter.1 hed
            exact hC j (ht j (by simp)) o (by simpa using ho) ed (by simpa using h1) h2
          · exact ht k (by simp [hk])
        · rcases List.mem_cons.1 hk with rfl | hk
          · exact ht k (by simp)
          · exact ha k hk
      · exact behind_sub hC f todo acc (fun k hk => ht k (by simp [hk])) ha i hi
theorem formRow_spec {oi : Oper} {i : Nat} : ∀ (l : List Oper) (j : Nat), formRow P ops oi i j l = true → ∀ k o, l[k]? = some o → formPair P ops oi i o (j + k) = true
  | [], _, _, k, o, hk => by simp at hk
  | x :: r, j, h, k, o, hk => by
    unfold formRow at h
    split at h
    · rename_i h1
      cases k with
      | zero => simp only [List.getElem?_cons_zero, Option.some.injEq] at hk; subst hk; exact h1
      | succ k =>
        have := formRow_spec r (j + 1) h k o (by simpa using hk)
        rw [show j + (k + 1) = j + 1 + k by omega]; exact this
    · cases h
theorem formAll_spec : ∀ (l : List Oper) (i : Nat), formAll P ops i l = true → ∀ k o, l[k]? = some o → formRow P ops o (i + k) 0 ops.toList = true
  | [], _, _, k, o, hk => by simp at hk
  | x :: r, i, h, k, o, hk => by
    unfold formAll at h
    split at h
    · rename_i h1
      cases k with
      | zero => simp only [List.getElem?_cons_zero, Option.some.injEq] at hk; subst hk; exact h1
      | succ k =>
        have := formAll_spec r (i + 1) h k o (by simpa using hk)
        rw [show i + (k + 1) = i + 1 + k by omega]; exact this
    · cases h
theorem form_pair (hf : formAll P ops 0 ops.toList = true) {i j : Nat} {oi oj : Oper} (hi : ops[i]? = some oi) (hj : ops[j]? = some oj) : formPair P ops oi i oj j = true := by
  have h1 := formAll_spec ops.toList 0 hf i oi (by simpa using hi)
  have h2 := formRow_spec ops.toList 0 h1 j oj (by simpa using hj)
  simpa using h2
theorem form_self (hf : formAll P ops 0 ops.toList = true) {i d : Nat} {oi : Oper} (hi : ops[i]? = some oi) (hd : oi.dst = some d) (hm : movable P oi = true) : d ∉ oi.looksAt ops := by
  have h := form_pair hf hi hi
  unfold formPair at h
  simp only [hd, Nat.beq_refl, hm, Bool.true_and, Bool.not_eq_true'] at h
  intro hmem
  rw [memN_iff.2 hmem] at h; cases h
theorem form_other (hf : formAll P ops 0 ops.toList = true) {i j d : Nat} {oi oj : Oper} (hi : ops[i]? = some oi) (hj : ops[j]? = some oj) (hne : i ≠ j) (hd : oi.dst = some d) (hm : oj.dst = some d ∨ d ∈ oj.looksAt ops) :
    i ∈ behind ops.toList 4096 [j] [] ∨ (movable P oi = false ∧ j ∈ behind ops.toList 4096 [i] []) := by
  have h := form_pair hf hi hj
  unfold formPair at h
  have hb : Nat.beq i j = false := by cases hb : Nat.beq i j with
    | false => rfl
    | true => exact absurd (Nat.eq_of_beq_eq_true hb) hne
  have hmem : memN d (oj.dst.toList ++ oj.looksAt ops) = true := memN_iff.2 (by
    rcases hm with h1 | h1
    · simp [h1]
    · exact List.mem_append_right _ h1)
  simp only [hd, hb, hmem, Bool.not_true, Bool.false_or, Bool.or_eq_true, Bool.and_eq_true, Bool.not_eq_true'] at h
  rcases h with h | ⟨h1, h2⟩
  · exact .inl (memN_iff.1 h)
  · exact .inr ⟨h1, memN_iff.1 h2⟩

/-! the order of evaluation -/
def OrdE (ops : Array Oper) : List Nat → Prop
  | [] => True
  | i :: r => i ∉ r ∧ (∃ o, ops[i]? = some o ∧ ∀ ed ∈ o.after, bindsAny ed = true → ed.on ∈ r) ∧ OrdE ops r
theorem OrdE.closed : ∀ {E : List Nat}, OrdE ops E → Closed ops (· ∈ E)
  | i :: r, h, j, hj, o, ho, ed, hed, hb => by
    obtain ⟨_, ⟨o', ho', hdep⟩, hr⟩ := h
    rcases List.mem_cons.1 hj with rfl | hj
    · rw [ho] at ho'; cases ho'; exact List.mem_cons_of_mem _ (hdep ed hed hb)
    · exact List.mem_cons_of_mem _ (OrdE.closed hr j hj o ho ed hed hb)
theorem OrdE.nodup : ∀ {E : List Nat}, OrdE ops E → E.Nodup ∧ ∀ i ∈ E, i < ops.size
  | [], _ => ⟨List.nodup_nil, fun i hi => by simp at hi⟩
  | i :: r, h => by
    obtain ⟨h1, ⟨o', ho', _⟩, hr⟩ := h
    obtain ⟨h2, h3⟩ := OrdE.nodup hr
    refine ⟨List.nodup_cons.2 ⟨h1, h2⟩, fun j hj => ?_⟩
    rcases List.mem_cons.1 hj with rfl | hj
    · exact (Array.getElem?_eq_some_iff.1 ho').1
    · exact h3 j hj

/-- A movable operation that the walk has evaluated and the machine has not. -/
structure Pend (P : Program) (cfg : Cfg) (n : Nat) (ops : Array Oper) (i : Nat) (o : Oper) (e : Env) (bx : Bx) (L : Heap) (pend : List (Nat × Oper × SV)) : Prop where
  mov : movable P o = true
  is : ∃ g s, svcGuard ops e o = some g ∧ (∀ d, o.dst = some d → d < n ∧ get e d = some s) ∧ (g = false → s = .v undef) ∧
    (g = true → (∀ K' : SV → Bx → Heap → Prop, K' s bx L → svcOp P cfg e bx L o K') ∧ (memDep o = true → (i, o, s) ∈ pend) ∧ (memDep o = false → ∀ bx2 L2 (K' : SV → Bx → Heap → Prop), K' s bx2 L2 → svcOp P cfg e bx2 L2 o K'))
/-- A late operation that the machine has carried out and the walk has not come to: its slot bears the new block. -/
structure Late (P : Program) (cfg : Cfg) (n : Nat) (ds : Dq) (ops : Array Oper) (S : Nat → Prop) (E : List Nat) (a : Act) (i b : Nat) : Prop where
  inS : S i
  notE : i ∉ E
  is : ∃ o T z d, ops[i]? = some o ∧ allocLate P cfg n o = true ∧ o.op = .alloc T ∧ o.dst = some d ∧ zeroOf P T = some z ∧ depsOK E o.after.toList = true ∧ a.tmps.getD d undef = .pointer (some ⟨b, 0, none⟩) ∧ (b, Obj.cells z.cells T (0, 0)) ∈ ds.hid
structure DI (P : Program) (cfg : Cfg) (R : Rl) (n : Nat) (ds : Dq) (ops : Array Oper) (S : Nat → Prop) (H : List (Nat × Nat)) (E : List Nat) (pend : List (Nat × Oper × SV)) (e : Env) (bx : Bx) (L : Heap) (β : Nat → Nat) (a : Act) (w : World) : Prop where
  base : Base R n ds β bx L a w
  sml : ∀ t s, get e t = some s → t < n
  clS : Closed ops S
  ord : OrdE ops E
  sub : ∀ i, S i → i ∈ E ∨ ∃ b, (i, b) ∈ H
  lat : ∀ i b, (i, b) ∈ H → Late P cfg n ds ops S E a i b
  hnd : (H.map (·.1)).Nodup ∧ (H.map (·.2)).Nodup
  pen : ∀ i ∈ E, ¬ S i → ∃ o, ops[i]? = some o ∧ Pend P cfg n ops i o e bx L pend
  val : ∀ t s, get e t = some s → (∀ i ∈ E, ¬ S i → ∀ o, ops[i]? = some o → o.dst ≠ some t) → (∀ i b, (i, b) ∈ H → ∀ o, ops[i]? = some o → o.dst ≠ some t) → a.tmps.getD t undef = sval β s

section
variable {S : Nat → Prop} {H : List (Nat × Nat)} {E : List Nat} {pend : List (Nat × Oper × SV)}
/-- What stands behind an operation that may come now has been carried out. -/
theorem behind_ready (hS : Closed ops S) {j : Nat} {oj : Oper} (hj : ops[j]? = some oj) (hr : ∀ ed ∈ oj.after, bindsAny ed = true → S ed.on) : ∀ i ∈ behind ops.toList 4096 [j] [], S i ∨ i = j := by
  refine behind_sub (C := fun i => S i ∨ i = j) (fun i hi o ho ed hed hb => ?_) 4096 [j] [] (fun i hi => .inr (by simpa using hi)) (fun i hi => by simp at hi)
  rcases hi with hi | rfl
  · exact .inl (hS i hi o ho ed hed hb)
  · rw [hj] at ho; cases ho; exact .inl (hr ed hed hb)
/-- No evaluated operation that is still to come writes what an operation that may come now looks at or writes. -/
theorem no_writer (hf : formAll P ops 0 ops.toList = true) (h : DI P cfg R n ds ops S H E pend e bx L β a w) {j : Nat} {oj : Oper} (hj : ops[j]? = some oj) (hr : ∀ ed ∈ oj.after, bindsAny ed = true → S ed.on)
    {i t : Nat} {oi : Oper} (hi : i ∈ E) (hiS : ¬ S i) (hne : i ≠ j) (ho : ops[i]? = some oi) (hd : oi.dst = some t) (hm : oj.dst = some t ∨ t ∈ oj.looksAt ops) : False := by
  rcases form_other hf ho hj hne hd hm with h1 | ⟨h1, _⟩
  · rcases behind_ready h.clS hj hr i h1 with h2 | h2
    · exact hiS h2
    · exact hne h2
  · obtain ⟨o', ho', hp⟩ := h.pen i hi hiS
    rw [ho] at ho'; cases ho'
    rw [hp.mov] at h1; cases h1
/-- Nor does a late one. -/
theorem no_late (hf : formAll P ops 0 ops.toList = true) (h : DI P cfg R n ds ops S H E pend e bx L β a w) {j : Nat} {oj : Oper} (hj : ops[j]? = some oj) (hjS : ¬ S j) (hbh : ∀ i ∈ behind ops.toList 4096 [j] [], i ∈ E ∨ i = j)
    {i b t : Nat} {oi : Oper} (hi : (i, b) ∈ H) (ho : ops[i]? = some oi) (hd : oi.dst = some t) (hm : oj.dst = some t ∨ t ∈ oj.looksAt ops) : False := by
  have hl := h.lat i b hi
  have hne : i ≠ j := fun e1 => hjS (e1 ▸ hl.inS)
  rcases form_other hf ho hj hne hd hm with h1 | ⟨_, h1⟩
  · rcases hbh i h1 with h2 | h2
    · exact hl.notE h2
    · exact hne h2
  · exact hjS (behind_sub (C := fun k => S k) h.clS 4096 [i] [] (fun k hk => by simp at hk; exact hk ▸ hl.inS) (fun k hk => by simp at hk) j h1)
theorem behind_E {j : Nat} (hE : OrdE ops E) (hj : j ∈ E) : ∀ i ∈ behind ops.toList 4096 [j] [], i ∈ E ∨ i = j :=
  fun i hi => .inl (behind_sub hE.closed 4096 [j] [] (fun k hk => by simp at hk; exact hk ▸ hj) (fun k hk => by simp at hk) i hi)
theorem behind_new {j : Nat} {oj : Oper} (hE : OrdE ops E) (hj : ops[j]? = some oj) (hdep : ∀ ed ∈ oj.after, bindsAny ed = true → ed.on ∈ E) : ∀ i ∈ behind ops.toList 4096 [j] [], i ∈ E ∨ i = j := by
  refine behind_sub (C := fun i => i ∈ E ∨ i = j) (fun i hi o ho ed hed hb => ?_) 4096 [j] [] (fun i hi => .inr (by simpa using hi)) (fun i hi => by simp at hi)
  rcases hi with hi | rfl
  · exact .inl (hE.closed i hi o ho ed hed hb)
  · rw [hj] at ho; cases ho; exact .inl (hdep ed hed hb)
theorem agree_looks (hf : formAll P ops 0 ops.toList = true) (h : DI P cfg R n ds ops S H E pend e bx L β a w) {j : Nat} {oj : Oper} (hj : ops[j]? = some oj) (hr : ∀ ed ∈ oj.after, bindsAny ed = true → S ed.on) (hjE : j ∈ E → movable P oj = true) (hjS : ¬ S j) (hbh : ∀ i ∈ behind ops.toList 4096 [j] [], i ∈ E ∨ i = j) :
    ∀ t ∈ oj.looksAt ops, ∀ s, get e t = some s → a.tmps.getD t undef = sval β s := by
  intro t ht s hs
  refine h.val t s hs (fun i hi hiS o ho hd => ?_) fun i b hi o ho hd => no_late hf h hj hjS hbh hi ho hd (.inr ht)
  by_cases hij : i = j
  · subst hij
    rw [hj] at ho; cases ho
    exact form_self hf hj hd (hjE hi) ht
  · exact no_writer hf h hj hr hi hiS hij ho hd (.inr ht)

/-- An evaluated operation is carried out. -/
theorem run_pend (hR : RK cfg R) (hf : formAll P ops 0 ops.toList = true) (h : DI P cfg R n ds ops S H E pend e bx L β a w) {j : Nat} {oj : Oper} (hj : ops[j]? = some oj) (hr : ∀ ed ∈ oj.after, bindsAny ed = true → S ed.on) (hjE : j ∈ E) (hjS : ¬ S j)
    {K : Act → World → Prop} (hK : ∀ β' a' w', DI P cfg R n ds ops (fun i => S i ∨ i = j) H E pend e bx L β' a' w' → K a' w') : wpOpIn (WF ro) m P ops Q j K a w := by
  obtain ⟨o', ho', hp⟩ := h.pen j hjE hjS
  rw [hj] at ho'; cases ho'
  obtain ⟨g, s, hg, hw, hgf, hgt⟩ := hp.is
  have hbh := behind_E h.ord hjE
  have hag := agree_looks hf h hj hr (fun _ => hp.mov) hjS hbh
  have hwant := guard_at h.base h.sml hag hg
  have hcl : Closed ops fun i => S i ∨ i = j := fun i hi o ho ed hed hb => by
    rcases hi with hi | rfl
    · exact .inl (h.clS i hi o ho ed hed hb)
    · rw [hj] at ho; cases ho; exact .inl (hr ed hed hb)
  have mk : ∀ β' w', Base R n ds β' bx L (a.put oj.dst (sval β' s)) w' → (∀ t s, get e t = some s → sval β' s = sval β s) → DI P cfg R n ds ops (fun i => S i ∨ i = j) H E pend e bx L β' (a.put oj.dst (sval β' s)) w' := by
    intro β' w' hB hβ
    refine ⟨hB, h.sml, hcl, h.ord, fun i hi => hi.elim (h.sub i) fun e1 => .inl (e1 ▸ hjE), fun i b hi => ?_, h.hnd, fun i hi hiS => h.pen i hi fun h1 => hiS (.inl h1), fun t s0 hs0 hno hno2 => ?_⟩
    · obtain ⟨q1, q2, o, T, z, d, q3, q4, q5, q6, q7, q8, q9, q10⟩ := h.lat i b hi
      refine ⟨.inl q1, q2, o, T, z, d, q3, q4, q5, q6, q7, q8, ?_, q10⟩
      rw [put_getD_ne fun hd => no_late hf h hj hjS hbh hi q3 q6 (.inl hd)]; exact q9
    by_cases hd : oj.dst = some t
    · obtain ⟨h1, h2⟩ := hw t hd
      rw [hs0] at h2; cases h2
      rw [hd]; exact put_getD_eq (by rw [h.base.siz]; exact h1)
    · rw [put_getD_ne hd, hβ t s0 hs0]
      refine h.val t s0 hs0 (fun i hi hiS o ho hdo => ?_) hno2
      by_cases hij : i = j
      · subst hij; rw [hj] at ho; cases ho; exact hd hdo
      · exact hno i hi (fun h1 => h1.elim hiS hij) o ho hdo
  unfold wpOpIn
  simp only [hj]
  cases g with
  | true =>
    rw [if_pos hwant]
    have hop := (hgt rfl).1 (fun s' bx' M => s' = s ∧ bx' = bx ∧ M = L) ⟨rfl, rfl, rfl⟩
    refine svcOp_at hR h.base h.sml hag hop fun s' bx' M β' w' hk hB hβ => ?_
    obtain ⟨rfl, rfl, rfl⟩ := hk
    exact hK _ _ _ (mk β' w' hB hβ)
  | false =>
    rw [if_neg (by rw [hwant]; simp)]
    refine ⟨fun _ _ => trivial, ?_⟩
    have hsv : undef = sval β s := by rw [hgf rfl]; rfl
    rw [hsv]
    exact hK _ _ _ (mk β w (h.base.put _ _) fun _ _ _ => rfl)

/-- The environment with a slot written, where no operation looks that is meant. -/
theorem Pend.keep {i : Nat} {o : Oper} (h : Pend P cfg n ops i o e bx L pend) {e' : Env} {bx' : Bx} {M : Heap} {pend' : List (Nat × Oper × SV)} (hl : ∀ t ∈ o.looksAt ops, get e t = get e' t) (hd : ∀ d, o.dst = some d → get e' d = get e d)
    (hp : ∀ s, memDep o = true → (i, o, s) ∈ pend → (∀ d, o.dst = some d → get e d = some s) → (∀ K' : SV → Bx → Heap → Prop, K' s bx L → svcOp P cfg e bx L o K') → (i, o, s) ∈ pend' ∧ ∀ K' : SV → Bx → Heap → Prop, K' s bx' M → svcOp P cfg e bx' M o K') : Pend P cfg n ops i o e' bx' M pend' := by
  obtain ⟨hm, g, s, hg, hw, hgf, hgt⟩ := h
  refine ⟨hm, g, s, by rw [← svcGuard_congr hl]; exact hg, fun d hd' => ⟨(hw d hd').1, by rw [hd d hd']; exact (hw d hd').2⟩, hgf, fun h1 => ?_⟩
  obtain ⟨q1, q2, q3⟩ := hgt h1
  cases hmd : memDep o with
  | true =>
    obtain ⟨r1, r2⟩ := hp s hmd (q2 hmd) (fun d hd' => (hw d hd').2) q1
    exact ⟨fun K' hk => svcOp_congr hm (looks_evs hl) (r2 K' hk), fun _ => r1, fun h2 => by simp at h2⟩
  | false =>
    exact ⟨fun K' hk => svcOp_congr hm (looks_evs hl) (q3 hmd _ _ K' hk), fun h2 => by simp at h2, fun _ bx2 L2 K' hk => svcOp_congr hm (looks_evs hl) (q3 hmd bx2 L2 K' hk)⟩
theorem putS_spec {dst : Option Nat} {s : SV} {K : Env → Prop} (hp : putS n dst e s K) : ∃ e', K e' ∧ ((dst = none ∧ e' = e) ∨ ∃ d, dst = some d ∧ d < n ∧ e' = (d, s) :: e) := by
  unfold putS at hp
  split at hp
  · rename_i d
    split at hp
    · rename_i hd
      exact ⟨_, hp, .inr ⟨d, rfl, by simpa [Nat.blt_eq] using hd, rfl⟩⟩
    · exact hp.elim
  · exact ⟨e, hp, .inl ⟨rfl, rfl⟩⟩
theorem depsOK_spec {E : List Nat} : ∀ {l : List Edge}, depsOK E l = true ↔ ∀ ed ∈ l, bindsAny ed = true → ed.on ∈ E
  | [] => by simp [depsOK]
  | ed :: r => by
    unfold depsOK
    cases hb : bindsAny ed with
    | true =>
      cases hm : memN ed.on E with
      | true =>
        simp only [List.mem_cons]
        rw [depsOK_spec]
        constructor
        · rintro h x (rfl | hx) hbx
          · exact memN_iff.1 hm
          · exact h x hx hbx
        · exact fun h x hx hbx => h x (.inr hx) hbx
      | false =>
        simp only [List.mem_cons]
        constructor
        · intro h; cases h
        · intro h
          have := memN_iff.2 (h ed (.inl rfl) hb)
          rw [hm] at this; cases this
    | false =>
      simp only [List.mem_cons]
      rw [depsOK_spec]
      constructor
      · rintro h x (rfl | hx) hbx
        · rw [hb] at hbx; cases hbx
        · exact h x hx hbx
      · exact fun h x hx hbx => h x (.inr hx) hbx
theorem mem_readyAt {all : List Oper} {E : List Nat} {want : Bool} {i : Nat} {o : Oper} : ∀ {l : List Oper} {j : Nat}, (i, o) ∈ readyAt P all E want j l ↔ j ≤ i ∧ l[i - j]? = some o ∧ i ∉ E ∧ depsOK E o.after.toList = true ∧ movable P o = want
  | [], j => by simp [readyAt]
  | x :: r, j => by
    have ih := mem_readyAt (all := all) (E := E) (want := want) (i := i) (o := o) (l := r) (j := j + 1)
    have key : (j ≤ i ∧ (x :: r)[i - j]? = some o ∧ i ∉ E ∧ depsOK E o.after.toList = true ∧ movable P o = want) ↔
        ((i = j ∧ x = o ∧ i ∉ E ∧ depsOK E o.after.toList = true ∧ movable P o = want) ∨ (j + 1 ≤ i ∧ r[i - (j + 1)]? = some o ∧ i ∉ E ∧ depsOK E o.after.toList = true ∧ movable P o = want)) := by
      constructor
      · rintro ⟨h1, h2, h3⟩
        by_cases e1 : i = j
        · subst e1
          rw [Nat.sub_self] at h2
          simp only [List.getElem?_cons_zero, Option.some.injEq] at h2
          exact .inl ⟨rfl, h2, h3⟩
        · refine .inr ⟨by omega, ?_, h3⟩
          rw [show i - j = (i - (j + 1)) + 1 by omega, List.getElem?_cons_succ] at h2
          exact h2
      · rintro (⟨rfl, rfl, h3⟩ | ⟨h1, h2, h3⟩)
        · exact ⟨Nat.le_refl _, by simp, h3⟩
        · refine ⟨by omega, ?_, h3⟩
          rw [show i - j = (i - (j + 1)) + 1 by omega, List.getElem?_cons_succ]
          exact h2
    rw [key]
    unfold readyAt
    cases hm : memN j E with
    | true =>
      simp only
      rw [ih]
      constructor
      · exact .inr
      · rintro (⟨rfl, rfl, h3, _⟩ | h)
        · exact absurd (memN_iff.1 hm) h3
        · exact h
    | false =>
      have hnm : j ∉ E := fun h => by rw [memN_iff.2 h] at hm; cases hm
      simp only
      cases hd : depsOK E x.after.toList with
      | false =>
        simp only
        rw [ih]
        constructor
        · exact .inr
        · rintro (⟨rfl, rfl, _, h4, _⟩ | h)
          · rw [hd] at h4; cases h4
          · exact h
      | true =>
        simp only
        cases hmv : movable P x <;> cases want <;> simp only [List.mem_cons, Prod.mk.injEq] <;> rw [ih] <;> constructor
        all_goals first
          | (rintro (⟨rfl, rfl⟩ | h)
             · exact .inl ⟨rfl, rfl, hnm, hd, hmv⟩
             · exact .inr h)
          | (rintro (⟨rfl, rfl, _⟩ | h)
             · first | exact .inl ⟨rfl, rfl⟩ | (rename_i h9; rw [hmv] at h9; simp at h9)
             · first | exact .inr h | exact h)
          | exact .inr
          | (rintro (⟨rfl, rfl, _, _, h9⟩ | h)
             · rw [hmv] at h9; cases h9
             · exact h)
end
end
end Go.Proofs.YtmcaejnofmbilaaGreat.Tri
