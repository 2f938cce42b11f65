/- The evaluator: what its names stand for; memory. -/
import Derived.Test.YtmcaejnofmbilaaGreatCevA
namespace Go.Proofs.YtmcaejnofmbilaaGreat.Tri
set_option linter.all false
open Go.RowKit

/-! ### tables -/
theorem even_split {n m : Nat} (h : Nat.beq (n % 2) 0 = Nat.beq (m % 2) 0) : n = m ↔ n / 2 = m / 2 := by
  constructor
  · rintro rfl; rfl
  · intro h2
    have : n % 2 = m % 2 := by
      rcases Nat.mod_two_eq_zero_or_one n with h3 | h3 <;> rcases Nat.mod_two_eq_zero_or_one m with h4 | h4 <;> rw [h3, h4] at h <;> simp_all
    omega
theorem Tab.get_set {α : Type} : ∀ (f : Nat) (t : Tab α) (n : Nat) (o : α) (m : Nat), n + 1 < 2 ^ f → (Tab.set f t n o).get m = if m = n then some o else t.get m
  | 0, t, n, o, m, h => by simp at h
  | f + 1, t, n, o, m, h => by
    have hp : 2 ^ (f + 1) = 2 * 2 ^ f := by rw [Nat.pow_succ]; omega
    have ih : ∀ t' (j i : Nat), j + 1 < 2 ^ f → (Tab.set f t' j o).get i = if i = j then some o else t'.get i := fun t' j i hj => Tab.get_set f t' j o i hj
    cases t with
    | leaf =>
      cases n with
      | zero =>
        cases m with
        | zero => simp [Tab.set, Tab.get]
        | succ m => simp only [Tab.set, Tab.get]; split <;> simp
      | succ n =>
        have hn : n / 2 + 1 < 2 ^ f := by omega
        cases m with
        | zero => simp only [Tab.set]; split <;> simp [Tab.get]
        | succ m =>
          simp only [Tab.set]
          cases hb : Nat.beq (n % 2) 0 <;> simp only [Tab.get] <;> cases hc : Nat.beq (m % 2) 0 <;> simp only <;> first
            | (rw [ih _ _ _ hn]
               have := even_split (n := m) (m := n) (by rw [hb, hc])
               by_cases e : m = n
               · subst e; simp
               · rw [if_neg (by rw [← this]; exact e), if_neg (by omega)]; simp [Tab.get])
            | (have : m ≠ n := by intro e; subst e; rw [hb] at hc; cases hc
               rw [if_neg (by omega)]; try simp [Tab.get])
    | node v l r =>
      cases n with
      | zero =>
        cases m with
        | zero => simp [Tab.set, Tab.get]
        | succ m => simp only [Tab.set, Tab.get]; simp
      | succ n =>
        have hn : n / 2 + 1 < 2 ^ f := by omega
        cases m with
        | zero => simp only [Tab.set]; split <;> simp [Tab.get]
        | succ m =>
          simp only [Tab.set]
          cases hb : Nat.beq (n % 2) 0 <;> simp only [Tab.get] <;> cases hc : Nat.beq (m % 2) 0 <;> simp only <;> first
            | (rw [ih _ _ _ hn]
               have := even_split (n := m) (m := n) (by rw [hb, hc])
               by_cases e : m = n
               · subst e; simp
               · rw [if_neg (by rw [← this]; exact e), if_neg (by omega)])
            | (have : m ≠ n := by intro e; subst e; rw [hb] at hc; cases hc
               rw [if_neg (by omega)])
theorem Tab.get_set24 {α : Type} {t : Tab α} {n : Nat} {o : α} {m : Nat} (h : n < nameMax) : (Tab.set 24 t n o).get m = if m = n then some o else t.get m :=
  Tab.get_set 24 t n o m (by unfold nameMax at h; omega)

/-! ### values -/
def Le (σ τ : Sg) : Prop := ∀ k m, σ k = some m → τ k = some m
theorem Le.refl (σ : Sg) : Le σ σ := fun _ _ h => h
theorem Le.trans {σ τ υ : Sg} (h : Le σ τ) (k : Le τ υ) : Le σ υ := fun a b c => k a b (h a b c)
theorem Le.num {σ τ : Sg} (h : Le σ τ) {k b : Nat} (hk : σ.num k = some b) : τ.num k = some b := by
  unfold Sg.num at hk ⊢
  cases hs : σ k with
  | none => rw [hs] at hk; cases hk
  | some m => rw [hs] at hk; rw [h k m hs]; exact hk
theorem Le.ext {σ τ : Sg} (h : Le σ τ) {x : Option Nat} {e : Nat} (hx : σ.ext x = some e) : τ.ext x = some e := by
  cases x with
  | none => exact hx
  | some k => exact h.num hx
def Sg.set (σ : Sg) (k : Nat) (m : Mean) : Sg := fun j => match Nat.beq j k with
  | true => some m
  | false => σ j
theorem Sg.set_same (σ : Sg) (k : Nat) (m : Mean) : σ.set k m k = some m := by unfold Sg.set; rw [Nat.beq_refl]
theorem Sg.set_other (σ : Sg) {k j : Nat} (m : Mean) (h : j ≠ k) : σ.set k m j = σ j := by
  unfold Sg.set
  have : Nat.beq j k = false := by cases hb : Nat.beq j k with
    | false => rfl
    | true => exact absurd (Nat.eq_of_beq_eq_true hb) h
  rw [this]
theorem Le.set {σ : Sg} {k : Nat} (m : Mean) (h : σ k = none) : Le σ (σ.set k m) := fun j x hj => by
  rw [Sg.set_other]
  · exact hj
  · intro e; subst e; rw [h] at hj; cases hj
theorem num_set_same (σ : Sg) (k b : Nat) : (σ.set k (.n b)).num k = some b := by unfold Sg.num; rw [Sg.set_same]
theorem num_set_other (σ : Sg) {k j : Nat} (m : Mean) (h : j ≠ k) : (σ.set k m).num j = σ.num j := by unfold Sg.num; rw [Sg.set_other _ _ h]
mutual
theorem real_mono {σ τ : Sg} (h : Le σ τ) : ∀ {a : AV} {v : Value}, a.real σ = some v → a.real τ = some v
  | .v x, v, ha => ha
  | .p k off, v, ha => by
    simp only [AV.real] at ha ⊢
    cases hs : σ.num k with
    | none => rw [hs] at ha; cases ha
    | some b => rw [hs] at ha; rw [h.num hs]; exact ha
  | .s k off len m x, v, ha => by
    simp only [AV.real] at ha ⊢
    cases hs : σ.num k with
    | none => rw [hs] at ha; cases ha
    | some b =>
      cases hx : σ.ext x with
      | none => rw [hs, hx] at ha; cases ha
      | some e => rw [hs, hx] at ha; rw [h.num hs, h.ext hx]; exact ha
  | .c m x, v, ha => by
    simp only [AV.real] at ha ⊢
    cases hs : σ.num x with
    | none => rw [hs] at ha; cases ha
    | some b => rw [hs] at ha; rw [h.num hs]; exact ha
  | .f fn a b, v, ha => by
    simp only [AV.real] at ha ⊢
    cases h1 : reals σ a with
    | none => rw [h1] at ha; cases ha
    | some x =>
      cases h2 : reals σ b with
      | none => rw [h1, h2] at ha; cases ha
      | some y => rw [h1, h2] at ha; rw [reals_mono h h1, reals_mono h h2]; exact ha
  | .y l, v, ha => by
    simp only [AV.real] at ha ⊢
    cases hs : σ.num l with
    | none => rw [hs] at ha; cases ha
    | some b => rw [hs] at ha; rw [h.num hs]; exact ha
  | .i t x, v, ha => by
    simp only [AV.real] at ha ⊢
    cases h1 : x.real σ with
    | none => rw [h1] at ha; cases ha
    | some y => rw [h1] at ha; rw [real_mono h h1]; exact ha
  | .g cs, v, ha => by
    simp only [AV.real] at ha ⊢
    cases h1 : reals σ cs with
    | none => rw [h1] at ha; cases ha
    | some y => rw [h1] at ha; rw [reals_mono h h1]; exact ha
  | .t cs, v, ha => by
    simp only [AV.real] at ha ⊢
    cases h1 : reals σ cs with
    | none => rw [h1] at ha; cases ha
    | some y => rw [h1] at ha; rw [reals_mono h h1]; exact ha
  | .z x, v, ha => by
    simp only [AV.real] at ha ⊢
    cases hs : σ x with
    | none => rw [hs] at ha; cases ha
    | some m => rw [hs] at ha; rw [h x m hs]; exact ha
theorem reals_mono {σ τ : Sg} (h : Le σ τ) : ∀ {l : List AV} {vs : List Value}, reals σ l = some vs → reals τ l = some vs
  | [], vs, ha => ha
  | a :: r, vs, ha => by
    simp only [reals] at ha ⊢
    cases h1 : a.real σ with
    | none => rw [h1] at ha; cases ha
    | some x =>
      cases h2 : reals σ r with
      | none => rw [h1, h2] at ha; cases ha
      | some y => rw [h1, h2] at ha; rw [real_mono h h1, reals_mono h h2]; exact ha
end
section
variable {σ : Sg}
theorem reals_cons {a : AV} {r : List AV} {vs : List Value} : reals σ (a :: r) = some vs ↔ ∃ v w, a.real σ = some v ∧ reals σ r = some w ∧ vs = v :: w := by
  simp only [reals]
  constructor
  · intro h
    cases h1 : a.real σ with
    | none => rw [h1] at h; cases h
    | some x =>
      cases h2 : reals σ r with
      | none => rw [h1, h2] at h; cases h
      | some y => rw [h1, h2] at h; cases h; exact ⟨x, y, rfl, rfl, rfl⟩
  · rintro ⟨v, w, h1, h2, rfl⟩
    rw [h1, h2]
theorem reals_length : ∀ {l : List AV} {vs : List Value}, reals σ l = some vs → l.length = vs.length
  | [], vs, h => by cases h; rfl
  | a :: r, vs, h => by
    obtain ⟨v, w, _, h2, rfl⟩ := reals_cons.1 h
    simp [reals_length h2]
theorem reals_get : ∀ {l : List AV} {vs : List Value} {i : Nat} {a : AV}, reals σ l = some vs → l[i]? = some a → ∃ v, vs[i]? = some v ∧ a.real σ = some v
  | [], vs, i, a, h, hi => by simp at hi
  | x :: r, vs, i, a, h, hi => by
    obtain ⟨v, w, h1, h2, rfl⟩ := reals_cons.1 h
    cases i with
    | zero => simp only [List.getElem?_cons_zero, Option.some.injEq] at hi; subst hi; exact ⟨v, rfl, h1⟩
    | succ i => exact reals_get (i := i) h2 (by simpa using hi)
theorem reals_append {l m : List AV} {vs ws : List Value} (h1 : reals σ l = some vs) (h2 : reals σ m = some ws) : reals σ (l ++ m) = some (vs ++ ws) := by
  induction l generalizing vs with
  | nil => cases h1; exact h2
  | cons a r ih =>
    obtain ⟨v, w, h3, h4, rfl⟩ := reals_cons.1 h1
    exact reals_cons.2 ⟨v, w ++ ws, h3, ih h4, rfl⟩
theorem reals_take {l : List AV} {vs : List Value} (h : reals σ l = some vs) (n : Nat) : reals σ (l.take n) = some (vs.take n) := by
  induction l generalizing vs n with
  | nil => cases h; simp [reals]
  | cons a r ih =>
    obtain ⟨v, w, h3, h4, rfl⟩ := reals_cons.1 h
    cases n with
    | zero => rfl
    | succ n => exact reals_cons.2 ⟨v, w.take n, h3, ih h4 n, rfl⟩
theorem reals_drop {l : List AV} {vs : List Value} (h : reals σ l = some vs) (n : Nat) : reals σ (l.drop n) = some (vs.drop n) := by
  induction l generalizing vs n with
  | nil => cases h; simp [reals]
  | cons a r ih =>
    cases n with
    | zero => exact h
    | succ n =>
      obtain ⟨v, w, h3, h4, rfl⟩ := reals_cons.1 h
      exact ih h4 n
theorem reals_set {l : List AV} {vs : List Value} (h : reals σ l = some vs) (n : Nat) {a : AV} {v : Value} (ha : a.real σ = some v) : reals σ (l.set n a) = some (vs.set n v) := by
  induction l generalizing vs n with
  | nil => cases h; simp [reals]
  | cons b r ih =>
    obtain ⟨u, w, h3, h4, rfl⟩ := reals_cons.1 h
    cases n with
    | zero => exact reals_cons.2 ⟨v, w, ha, h4, rfl⟩
    | succ n => exact reals_cons.2 ⟨u, w.set n v, h3, ih h4 n, rfl⟩
theorem reals_setAt {xs : List AV} : ∀ {l : List AV} {vs ws : List Value} (off : Nat), reals σ l = some vs → reals σ xs = some ws → reals σ (setAtA l off xs) = some (setAt vs off ws) := by
  induction xs with
  | nil => intro l vs ws off h1 h2; cases h2; exact h1
  | cons a r ih =>
    intro l vs ws off h1 h2
    obtain ⟨v, w, h3, h4, rfl⟩ := reals_cons.1 h2
    exact ih (off + 1) (reals_set h1 off h3) h4
theorem reals_v (xs : List Value) : reals σ (xs.map .v) = some xs := by
  induction xs with
  | nil => rfl
  | cons a r ih => exact reals_cons.2 ⟨a, r, rfl, ih, rfl⟩
theorem reals_map_v {α : Type} (xs : List α) (f : α → Value) : reals σ (xs.map fun b => .v (f b)) = some (xs.map f) := by
  have := reals_v (σ := σ) (xs.map f)
  rw [List.map_map] at this
  exact this
theorem reals_repl {l : List AV} {vs : List Value} (h : reals σ l = some vs) : ∀ n, ∃ ws, reals σ (replA l n) = some ws ∧ ws.length = n * vs.length ∧ ws = (List.replicate n vs).flatten
  | 0 => ⟨[], rfl, by simp, rfl⟩
  | n + 1 => by
    obtain ⟨ws, h1, h2, h3⟩ := reals_repl h n
    refine ⟨vs ++ ws, reals_append h h1, ?_, ?_⟩
    · simp [h2, Nat.add_mul]; omega
    · rw [List.replicate_succ, List.flatten_cons, h3]
theorem aCells_real {a : AV} {v : Value} (h : a.real σ = some v) : reals σ (aCells a) = some v.cells.toList := by
  have one : ∀ {v : Value}, v.cells = #[v] → a.real σ = some v → reals σ [a] = some v.cells.toList := fun hv ha => by rw [hv]; exact reals_cons.2 ⟨_, [], ha, rfl, rfl⟩
  cases a with
  | v x =>
    have e : x = v := Option.some.inj h
    subst e
    cases x with
    | agg cs => exact reals_v _
    | _ => exact one rfl rfl
  | g cs =>
    simp only [AV.real] at h
    cases h1 : reals σ cs with
    | none => rw [h1] at h; cases h
    | some y => rw [h1] at h; cases h; simpa [aCells, Value.cells] using h1
  | p k off =>
    have h' := h
    simp only [AV.real] at h
    cases hs : σ.num k with
    | none => rw [hs] at h; cases h
    | some b => rw [hs] at h; cases h; exact one rfl h'
  | s k off len m x =>
    have h' := h
    simp only [AV.real] at h
    split at h
    · cases h; exact one rfl h'
    · cases h
  | c m x =>
    have h' := h
    simp only [AV.real] at h
    cases hs : σ.num x with
    | none => rw [hs] at h; cases h
    | some b => rw [hs] at h; cases h; exact one rfl h'
  | f fn a b =>
    have h' := h
    simp only [AV.real] at h
    split at h
    · cases h; exact one rfl h'
    · cases h
  | y l =>
    have h' := h
    simp only [AV.real] at h
    cases hs : σ.num l with
    | none => rw [hs] at h; cases h
    | some b => rw [hs] at h; cases h; exact one rfl h'
  | i t x =>
    have h' := h
    simp only [AV.real] at h
    cases hs : x.real σ with
    | none => rw [hs] at h; cases h
    | some b => rw [hs] at h; cases h; exact one rfl h'
  | t cs =>
    have h' := h
    simp only [AV.real] at h
    cases hs : reals σ cs with
    | none => rw [hs] at h; cases h
    | some b => rw [hs] at h; cases h; exact one rfl h'
  | z x =>
    have h' := h
    simp only [AV.real] at h
    split at h
    · cases h; exact one rfl h'
    · cases h
theorem aList_real {a : AV} {cs : List AV} {v : Value} (hl : aList a = some cs) (h : a.real σ = some v) : ∃ l : Array Value, v = .agg l ∧ reals σ cs = some l.toList := by
  cases a with
  | v x =>
    have e : x = v := Option.some.inj h
    subst e
    cases x <;> simp only [aList, reduceCtorEq, Option.some.injEq] at hl
    subst hl
    exact ⟨_, rfl, reals_v _⟩
  | g cs' =>
    simp only [aList, Option.some.injEq] at hl; subst hl
    simp only [AV.real] at h
    cases h1 : reals σ cs' with
    | none => rw [h1] at h; cases h
    | some y => rw [h1] at h; cases h; exact ⟨_, rfl, by simpa using h1⟩
  | _ => simp [aList] at hl
theorem oneA_real {a : AV} {v : Value} (ho : oneA a = true) (h : a.real σ = some v) : allSingle [v] = true ∧ v.cells = #[v] := by
  cases a with
  | v x =>
    have e : x = v := Option.some.inj h
    subst e
    cases x <;> first | (exact ⟨rfl, rfl⟩) | (simp [oneA] at ho)
  | g cs => simp [oneA] at ho
  | t cs => simp [oneA] at ho
  | p k off =>
    simp only [AV.real] at h
    cases hs : σ.num k with
    | none => rw [hs] at h; cases h
    | some b => rw [hs] at h; cases h; exact ⟨rfl, rfl⟩
  | s k off len m x =>
    simp only [AV.real] at h
    split at h
    · cases h; exact ⟨rfl, rfl⟩
    · cases h
  | c m x =>
    simp only [AV.real] at h
    cases hs : σ.num x with
    | none => rw [hs] at h; cases h
    | some b => rw [hs] at h; cases h; exact ⟨rfl, rfl⟩
  | f fn a b =>
    simp only [AV.real] at h
    split at h
    · cases h; exact ⟨rfl, rfl⟩
    · cases h
  | y l =>
    simp only [AV.real] at h
    cases hs : σ.num l with
    | none => rw [hs] at h; cases h
    | some b => rw [hs] at h; cases h; exact ⟨rfl, rfl⟩
  | i t x =>
    simp only [AV.real] at h
    cases hs : x.real σ with
    | none => rw [hs] at h; cases h
    | some b => rw [hs] at h; cases h; exact ⟨rfl, rfl⟩
  | z x =>
    simp only [AV.real] at h
    split at h
    · cases h; exact ⟨rfl, rfl⟩
    · cases h
theorem allSingle_cons {v : Value} {r : List Value} : allSingle (v :: r) = true ↔ allSingle [v] = true ∧ allSingle r = true := by
  cases v <;> simp [allSingle]
theorem allOne_real : ∀ {l : List AV} {vs : List Value}, allOne l = true → reals σ l = some vs → allSingle vs = true
  | [], vs, _, h => by cases h; rfl
  | a :: r, vs, ho, h => by
    obtain ⟨v, w, h1, h2, rfl⟩ := reals_cons.1 h
    unfold allOne at ho
    split at ho
    · rename_i h3
      exact allSingle_cons.2 ⟨(oneA_real h3 h1).1, allOne_real ho h2⟩
    · cases ho
end

/-! ### memory -/
structure ERel (σ : Sg) (n : Nat) (e : AEnv) (env : Env) : Prop where
  val : ∀ t a, e.get t = some a → ∃ v, a.real σ = some v ∧ get env t = some (.v v)
  key : keysBelow n env = true
theorem ERel.mono {σ τ : Sg} {n : Nat} {e : AEnv} {env : Env} (h : ERel σ n e env) (hl : Le σ τ) : ERel τ n e env :=
  ⟨fun t a ht => let ⟨v, h1, h2⟩ := h.val t a ht; ⟨v, real_mono hl h1, h2⟩, h.key⟩
def BRel (σ : Sg) (L : Heap) (k : Nat) : AO → Prop
  | .cells _ E wr cs tot esz x => ∃ (b e : Nat) (c : Array Value) (fz : Nat × Nat) (vs : List Value), σ.num k = some b ∧ σ.ext x = some e ∧ L b = some (.cells c E fz) ∧ (wr = true → fz = (0, 0)) ∧ c.size = tot + esz * e ∧ reals σ cs = some vs ∧ ∀ (i : Nat) (v : Value), vs[i]? = some v → c[i]? = some v
  | .iter s pos => ∃ b, σ.num k = some b ∧ L b = some (.stringIter s pos)
  | .loop st pd n e ps as bd => ∃ b fn t D, σ.num k = some b ∧ L b = some (.loop ⟨st, pd, fn, t, ps, as, bd, D⟩) ∧ t.size = n ∧ ∀ j a, e.get j = some a → ∃ v, a.real σ = some v ∧ t.getD j undef = v ∧ j < n
theorem BRel.mono {σ τ : Sg} {L M : Heap} {k : Nat} {o : AO} (h : BRel σ L k o) (hl : Le σ τ) (hs : ∀ b x, σ.num k = some b → L b = some x → M b = some x) : BRel τ M k o := by
  cases o with
  | cells fam E wr cs tot esz x =>
    obtain ⟨b, e, c, fz, vs, h1, h2, h3, h4, h5, h6, h7⟩ := h
    exact ⟨b, e, c, fz, vs, hl.num h1, hl.ext h2, hs _ _ h1 h3, h4, h5, reals_mono hl h6, h7⟩
  | iter s pos =>
    obtain ⟨b, h1, h2⟩ := h
    exact ⟨b, hl.num h1, hs _ _ h1 h2⟩
  | loop st pd n e ps as bd =>
    obtain ⟨b, fn, t, D, h1, h2, h3, h4⟩ := h
    exact ⟨b, fn, t, D, hl.num h1, hs _ _ h1 h2, h3, fun j a hj => let ⟨v, q1, q2⟩ := h4 j a hj; ⟨v, real_mono hl q1, q2⟩⟩
theorem BRel.num {σ : Sg} {L : Heap} {k : Nat} {o : AO} (h : BRel σ L k o) : ∃ b x, σ.num k = some b ∧ L b = some x := by
  cases o with
  | cells fam E wr cs tot esz x => obtain ⟨b, e, c, fz, vs, h1, h2, h3, _⟩ := h; exact ⟨b, _, h1, h3⟩
  | iter s pos => obtain ⟨b, h1, h2⟩ := h; exact ⟨b, _, h1, h2⟩
  | loop st pd n e ps as bd => obtain ⟨b, fn, t, D, h1, h2, _⟩ := h; exact ⟨b, _, h1, h2⟩
def famOf : AO → Option Nat
  | .cells fam _ _ _ _ _ _ => some fam
  | _ => none
structure HRel (σ : Sg) (A : AH) (L : Heap) : Prop where
  dom : ∀ k, A.nxt ≤ k → σ k = none
  key : ∀ k o, A.get k = some o → k < nameMax
  blk : ∀ k o, A.get k = some o → BRel σ L k o
  inj : ∀ k j ok oj b, A.get k = some ok → A.get j = some oj → σ.num k = some b → σ.num j = some b → k = j ∨ ∃ f, famOf ok = some f ∧ famOf oj = some f
  fam : ∀ k o f, A.get k = some o → famOf o = some f → f < A.nxt
  fm : ∀ k o f l, A.get k = some o → famOf o = some f → get A.fams f = some l → k ∈ l
  fs : ∀ k o f, A.get k = some o → famOf o = some f → get A.fams f = none → k = f
  fk : ∀ f l, get A.fams f = some l → f < A.nxt
theorem HRel.lt {σ : Sg} {A : AH} {L : Heap} (h : HRel σ A L) {k : Nat} {o : AO} (hk : A.get k = some o) : k < A.nxt := by
  obtain ⟨b, x, h1, _⟩ := (h.blk k o hk).num
  rcases Nat.lt_or_ge k A.nxt with h2 | h2
  · exact h2
  · have := h.dom k h2
    unfold Sg.num at h1; rw [this] at h1; cases h1
/-- What is known grows elsewhere. -/
theorem HRel.sub {σ : Sg} {A : AH} {L M : Heap} (h : HRel σ A L) (hs : Sub L M) : HRel σ A M :=
  ⟨h.dom, h.key, fun k o hk => (h.blk k o hk).mono (Le.refl σ) fun b x _ hx => hs b x hx, h.inj, h.fam, h.fm, h.fs, h.fk⟩
/-- A new name that stands for no block. -/
theorem HRel.name {σ : Sg} {A : AH} {L : Heap} (h : HRel σ A L) (m : Mean) : Le σ (σ.set A.nxt m) ∧ HRel (σ.set A.nxt m) { A with nxt := A.nxt + 1 } L := by
  have hn : σ A.nxt = none := h.dom _ (Nat.le_refl _)
  have hl := Le.set m hn
  refine ⟨hl, fun k hk => ?_, h.key, fun k o hk => (h.blk k o hk).mono hl fun b x _ hx => hx, fun k j ok oj b hk hj hb hb' => ?_, fun k o f hk hf => Nat.lt_succ_of_lt (h.fam k o f hk hf), h.fm, h.fs, fun f l hf => Nat.lt_succ_of_lt (h.fk f l hf)⟩
  · simp only at hk; rw [Sg.set_other _ _ (by omega)]; exact h.dom k (by omega)
  · have h1 := h.lt hk
    have h2 := h.lt hj
    rw [num_set_other _ _ (by omega)] at hb hb'
    exact h.inj k j ok oj b hk hj hb hb'
/-- A new block. -/
theorem HRel.alloc {σ : Sg} {A : AH} {L : Heap} (h : HRel σ A L) {o : Nat → AO} {ob : Obj} {b : Nat} (hb : L b = none) (hlt : A.nxt < nameMax) (hf : ∀ f, famOf (o A.nxt) = some f → f = A.nxt)
    (hB : BRel (σ.set A.nxt (.n b)) (upd L b ob) A.nxt (o A.nxt)) :
    Le σ (σ.set A.nxt (.n b)) ∧ HRel (σ.set A.nxt (.n b)) { A with nxt := A.nxt + 1, tab := A.tab.set 24 A.nxt (o A.nxt) } (upd L b ob) := by
  have hn : σ A.nxt = none := h.dom _ (Nat.le_refl _)
  have hl := Le.set (.n b) hn
  have hg : ∀ j, ({ A with nxt := A.nxt + 1, tab := A.tab.set 24 A.nxt (o A.nxt) } : AH).get j = if j = A.nxt then some (o A.nxt) else A.get j := fun j => Tab.get_set24 hlt
  have hnot : ∀ {k ok b'}, A.get k = some ok → σ.num k = some b' → b' ≠ b := fun {k ok b'} hk hb' e9 => by
    obtain ⟨b2, x, q1, q2⟩ := (h.blk k ok hk).num
    rw [hb'] at q1; cases q1; subst e9; rw [hb] at q2; cases q2
  refine ⟨hl, fun k hk => ?_, fun k ok hk => ?_, fun k ok hk => ?_, fun k j ok oj b' hk hj hkb hjb => ?_, fun k ok f hk hfk => ?_, fun k ok f l hk hfk hfl => ?_, fun k ok f hk hfk hfl => ?_, fun f l hfl => Nat.lt_succ_of_lt (h.fk f l hfl)⟩
  · simp only at hk; rw [Sg.set_other _ _ (by omega)]; exact h.dom k (by omega)
  · rw [hg] at hk
    split at hk
    · rename_i e; subst e; exact hlt
    · exact h.key k ok hk
  · rw [hg] at hk
    split at hk
    · rename_i e; cases hk; subst e; exact hB
    · exact (h.blk k ok hk).mono hl fun b' x hb' hx => by rw [upd_other _ _ (hnot hk hb')]; exact hx
  · rw [hg] at hk hj
    split at hk <;> split at hj
    · rename_i e1 e2; exact .inl (e1.trans e2.symm)
    · rename_i e1 e2
      rw [num_set_other _ _ e2] at hjb
      rw [e1, num_set_same] at hkb; cases hkb
      exact absurd rfl (hnot hj hjb)
    · rename_i e1 e2
      rw [num_set_other _ _ e1] at hkb
      rw [e2, num_set_same] at hjb; cases hjb
      exact absurd rfl (hnot hk hkb)
    · rename_i e1 e2
      rw [num_set_other _ _ e1] at hkb
      rw [num_set_other _ _ e2] at hjb
      exact h.inj k j ok oj b' hk hj hkb hjb
  · rw [hg] at hk
    split at hk
    · cases hk; have := hf f hfk; simp only; omega
    · have := h.fam k ok f hk hfk; simp only; omega
  · rw [hg] at hk
    split at hk
    · cases hk
      have e1 := hf f hfk
      have e2 := h.fk f l hfl
      omega
    · exact h.fm k ok f l hk hfk hfl
  · rw [hg] at hk
    split at hk
    · rename_i e; cases hk; rw [e]; exact (hf f hfk).symm
    · exact h.fs k ok f hk hfk hfl
end Go.Proofs.YtmcaejnofmbilaaGreat.Tri
