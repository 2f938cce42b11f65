/- The evaluator: reading and writing memory. -/
import Derived.Test.YtmcaejnofmbilaaGreatCevB
namespace Go.Proofs.YtmcaejnofmbilaaGreat.Tri
set_option linter.all false
open Go.RowKit

abbrev CK := AV → AH → Bool
def CallPost (σ : Sg) (K : CK) : Value → Heap → Prop := fun v M => ∃ τ A a, Le σ τ ∧ K a A = true ∧ a.real τ = some v ∧ HRel τ A M
def OpPost (σ : Sg) (K : CK) : SV → Bx → Heap → Prop := fun s bx M => ∃ v, s = .v v ∧ bx = [] ∧ CallPost σ K v M
def HPost (σ : Sg) (K : AH → Bool) : Heap → Prop := fun M => ∃ τ A, Le σ τ ∧ K A = true ∧ HRel τ A M
theorem CallPost.mono {σ τ : Sg} {K : CK} {v : Value} {M : Heap} (h : CallPost τ K v M) (hl : Le σ τ) : CallPost σ K v M :=
  let ⟨υ, A, a, h1, h2⟩ := h; ⟨υ, A, a, hl.trans h1, h2⟩
theorem CallPost.here {σ : Sg} {K : CK} {A : AH} {M : Heap} {a : AV} {v : Value} (hK : K a A = true) (ha : a.real σ = some v) (h : HRel σ A M) : CallPost σ K v M := ⟨σ, A, a, Le.refl σ, hK, ha, h⟩
theorem OpPost.here {σ : Sg} {K : CK} {A : AH} {M : Heap} {a : AV} {v : Value} (hK : K a A = true) (ha : a.real σ = some v) (h : HRel σ A M) : OpPost σ K (.v v) [] M := ⟨v, rfl, rfl, .here hK ha h⟩

/-- The same names, the same families. -/
def Like (A B : AH) : Prop := B.nxt = A.nxt ∧ B.fams = A.fams ∧ ∀ k, (A.get k = none ∧ B.get k = none) ∨ ∃ o p, A.get k = some o ∧ B.get k = some p ∧ famOf o = famOf p
theorem HRel.like {σ : Sg} {A B : AH} {L M : Heap} (h : HRel σ A L) (hl : Like A B) (hb : ∀ k o, B.get k = some o → BRel σ M k o) : HRel σ B M := by
  obtain ⟨h1, h2, h3⟩ := hl
  have back : ∀ {k p}, B.get k = some p → ∃ o, A.get k = some o ∧ famOf o = famOf p := fun {k p} hk => by
    rcases h3 k with ⟨_, q⟩ | ⟨o, p', q1, q2, q3⟩
    · rw [q] at hk; cases hk
    · rw [q2] at hk; cases hk; exact ⟨o, q1, q3⟩
  refine ⟨fun k hk => h.dom k (by omega), fun k o hk => ?_, hb, fun k j ok oj b hk hj hkb hjb => ?_, fun k o f hk hf => ?_, fun k o f l hk hf hl => ?_, fun k o f hk hf hl => ?_, fun f l hf => by rw [h1]; rw [h2] at hf; exact h.fk f l hf⟩
  · obtain ⟨o', q1, _⟩ := back hk; exact h.key k o' q1
  · obtain ⟨p1, q1, r1⟩ := back hk
    obtain ⟨p2, q2, r2⟩ := back hj
    rw [← r1, ← r2]
    exact h.inj k j p1 p2 b q1 q2 hkb hjb
  · obtain ⟨o', q1, q2⟩ := back hk
    rw [h1]; exact h.fam k o' f q1 (q2 ▸ hf)
  · obtain ⟨o', q1, q2⟩ := back hk
    rw [h2] at hl; exact h.fm k o' f l q1 (q2 ▸ hf) hl
  · obtain ⟨o', q1, q2⟩ := back hk
    rw [h2] at hl; exact h.fs k o' f q1 (q2 ▸ hf) hl

def truncO (o : Nat) : AO → AO
  | .cells fam E wr cs tot esz x => .cells fam E wr (cs.take o) tot esz x
  | p => p
theorem truncO_fam (o : Nat) (p : AO) : famOf (truncO o p) = famOf p := by cases p <;> rfl
theorem truncAll_get {o k : Nat} : ∀ (l : List Nat) (t : Tab AO), (∀ j p, t.get j = some p → j < nameMax) → ∀ m, (truncAll o k l t).get m = (t.get m).map fun p => if m ∈ l ∧ m ≠ k then truncO o p else p
  | [], t, _, m => by simp [truncAll]
  | j :: r, t, hk, m => by
    unfold truncAll
    cases hb : Nat.beq j k with
    | true =>
      have := Nat.eq_of_beq_eq_true hb; subst this
      simp only
      rw [truncAll_get r t hk m]
      congr 1
      funext p
      by_cases e : m ∈ r ∧ m ≠ j
      · rw [if_pos e, if_pos ⟨List.mem_cons_of_mem _ e.1, e.2⟩]
      · rw [if_neg e, if_neg fun h => e ⟨(List.mem_cons.1 h.1).resolve_left h.2, h.2⟩]
    | false =>
      have hne : j ≠ k := fun e => by subst e; rw [Nat.beq_refl] at hb; cases hb
      simp only
      split
      · rename_i fam E wr cs tot esz x hj
        have hjk := hk _ _ hj
        have hg : ∀ i, (t.set 24 j (.cells fam E wr (cs.take o) tot esz x)).get i = if i = j then some (.cells fam E wr (cs.take o) tot esz x) else t.get i := fun i => Tab.get_set24 hjk
        rw [truncAll_get r _ (fun i p hi => by
          rw [hg] at hi
          split at hi
          · rename_i e; subst e; exact hjk
          · exact hk i p hi) m, hg]
        by_cases e : m = j
        · subst e
          rw [if_pos rfl, hj]
          simp only [Option.map_some, List.mem_cons, true_or, true_and, hne, ne_eq, not_false_eq_true, if_true]
          split
          · simp [truncO, List.take_take]
          · rfl
        · rw [if_neg e]
          congr 1
          funext p
          by_cases e2 : m ∈ r ∧ m ≠ k
          · rw [if_pos e2, if_pos ⟨List.mem_cons_of_mem _ e2.1, e2.2⟩]
          · rw [if_neg e2, if_neg fun h => e2 ⟨(List.mem_cons.1 h.1).resolve_left e, h.2⟩]
      · rename_i hj
        rw [truncAll_get r t hk m]
        cases hm : t.get m with
        | none => rfl
        | some p =>
          simp only [Option.map_some]
          congr 1
          by_cases e : m = j
          · subst e
            have : truncO o p = p := by
              cases p with
              | cells fam E wr cs tot esz x => exact absurd hm (hj _ _ _ _ _ _ _)
              | _ => rfl
            rw [this]; simp
          · by_cases e2 : m ∈ r ∧ m ≠ k
            · rw [if_pos e2, if_pos ⟨List.mem_cons_of_mem _ e2.1, e2.2⟩]
            · rw [if_neg e2, if_neg fun h => e2 ⟨(List.mem_cons.1 h.1).resolve_left e, h.2⟩]
theorem put_get {A : AH} {k : Nat} {o : AO} (hk : k < nameMax) (j : Nat) : (A.put k o).get j = if j = k then some o else A.get j := Tab.get_set24 hk
theorem Like.put {A : AH} {k : Nat} {o p : AO} (hk : k < nameMax) (hg : A.get k = some o) (hf : famOf o = famOf p) : Like A (A.put k p) := by
  refine ⟨rfl, rfl, fun j => ?_⟩
  rw [put_get hk]
  by_cases e : j = k
  · subst e; rw [if_pos rfl]; exact .inr ⟨o, p, hg, rfl, hf⟩
  · rw [if_neg e]
    cases hj : A.get j with
    | none => exact .inl ⟨rfl, rfl⟩
    | some q => exact .inr ⟨q, q, rfl, rfl, rfl⟩
theorem Like.trans {A B C : AH} (h : Like A B) (k : Like B C) : Like A C := by
  obtain ⟨h1, h2, h3⟩ := h
  obtain ⟨k1, k2, k3⟩ := k
  refine ⟨k1.trans h1, k2.trans h2, fun j => ?_⟩
  rcases h3 j with ⟨q1, q2⟩ | ⟨o, p, q1, q2, q3⟩ <;> rcases k3 j with ⟨r1, r2⟩ | ⟨o', p', r1, r2, r3⟩
  · exact .inl ⟨q1, r2⟩
  · rw [q2] at r1; cases r1
  · rw [q2] at r1; cases r1
  · rw [q2] at r1; cases r1; exact .inr ⟨o, p', q1, r2, q3.trans r3⟩
theorem cut_get {A : AH} (hk : ∀ j p, A.get j = some p → j < nameMax) (fam k o m : Nat) : (A.cut fam k o).get m = (A.get m).map fun p => if (∃ l, Tri.get A.fams fam = some l ∧ m ∈ l) ∧ m ≠ k then truncO o p else p := by
  unfold AH.cut
  cases hf : Tri.get A.fams fam with
  | none =>
    simp
  | some l =>
    show (truncAll o k l A.tab).get m = _
    rw [truncAll_get l A.tab hk m]
    congr 1
    funext p
    simp
theorem Like.cut {A : AH} (hk : ∀ j p, A.get j = some p → j < nameMax) (fam k o : Nat) : Like A (A.cut fam k o) := by
  refine ⟨by unfold AH.cut; split <;> rfl, by unfold AH.cut; split <;> rfl, fun j => ?_⟩
  rw [cut_get hk]
  cases hj : A.get j with
  | none => exact .inl ⟨rfl, rfl⟩
  | some q =>
    refine .inr ⟨q, _, rfl, rfl, ?_⟩
    split
    · exact (truncO_fam _ _).symm
    · rfl
theorem BRel.trunc {σ : Sg} {L : Heap} {k o : Nat} {p : AO} (h : BRel σ L k p) : BRel σ L k (truncO o p) := by
  cases p with
  | cells fam E wr cs tot esz x =>
    obtain ⟨b, e, c, fz, vs, h1, h2, h3, h4, h5, h6, h7⟩ := h
    refine ⟨b, e, c, fz, vs.take o, h1, h2, h3, h4, h5, reals_take h6 o, fun i v hi => h7 i v ?_⟩
    rw [List.getElem?_take] at hi
    split at hi
    · exact hi
    · cases hi
  | _ => exact h
/-- A block's cells are turned from some place on. -/
theorem HRel.write {σ : Sg} {A : AH} {L : Heap} (h : HRel σ A L) {k fam E tot esz off b : Nat} {wr : Bool} {cs cs' : List AV} {vs' : List Value} {x : Option Nat} {c c' : Array Value} (hk : A.get k = some (.cells fam E wr cs tot esz x)) (hb : σ.num k = some b)
    (hL : L b = some (.cells c E (0, 0))) (hsz : c'.size = c.size) (hlow : ∀ i, i < off → c'[i]? = c[i]?) (hr : reals σ cs' = some vs') (hp : ∀ (i : Nat) (v : Value), vs'[i]? = some v → c'[i]? = some v) :
    HRel σ ((A.put k (.cells fam E wr cs' tot esz x)).cut fam k off) (upd L b (.cells c' E (0, 0))) := by
  have hlt := h.key _ _ hk
  have hl1 : Like A (A.put k (.cells fam E wr cs' tot esz x)) := Like.put hlt hk rfl
  have hkey : ∀ j p, (A.put k (.cells fam E wr cs' tot esz x)).get j = some p → j < nameMax := fun j p hj => by
    rw [put_get hlt] at hj
    split at hj
    · rename_i e; subst e; exact hlt
    · exact h.key j p hj
  refine h.like (hl1.trans (Like.cut hkey fam k off)) fun m o hm => ?_
  rw [cut_get hkey, put_get hlt] at hm
  by_cases em : m = k
  · subst em
    simp only [if_true, Option.map_some, Option.some.injEq] at hm
    rw [if_neg (by simp)] at hm
    subst hm
    obtain ⟨b0, e0, c0, fz, vs, h1, h2, h3, h4, h5, h6, h7⟩ := h.blk _ _ hk
    rw [hb] at h1; cases h1
    rw [hL] at h3; cases h3
    exact ⟨b, e0, c', (0, 0), vs', hb, h2, upd_same _ _ _, fun _ => rfl, hsz.trans h5, hr, hp⟩
  · rw [if_neg em] at hm
    cases hAm : A.get m with
    | none => rw [hAm] at hm; cases hm
    | some p =>
      rw [hAm] at hm
      simp only [Option.map_some, Option.some.injEq] at hm
      obtain ⟨bm, xm, hbm, hxm⟩ := (h.blk m p hAm).num
      by_cases eb : bm = b
      · subst eb
        -- it may be the same block: it is known ahead alone
        obtain ⟨f, r1, r2⟩ := (h.inj k m _ _ bm hk hAm hb hbm).resolve_left (Ne.symm em)
        cases r1
        obtain ⟨l, hl⟩ : ∃ l, Tri.get A.fams fam = some l := by
          cases hl : Tri.get A.fams fam with
          | some l => exact ⟨l, rfl⟩
          | none => exact absurd ((h.fs m p fam hAm r2 hl).trans (h.fs k _ fam hk rfl hl).symm) em
        rw [if_pos ⟨⟨l, hl, h.fm m p fam l hAm r2 hl⟩, em⟩] at hm
        subst hm
        have hB := h.blk m p hAm
        cases p with
        | cells fam' E' wr' csm tot' esz' x' =>
          obtain ⟨b0, e0, c0, fz, vs, h1, h2, h3, h4, h5, h6, h7⟩ := hB
          rw [hbm] at h1; cases h1
          rw [hL] at h3; cases h3
          refine ⟨bm, e0, c', (0, 0), vs.take off, hbm, h2, upd_same _ _ _, fun _ => rfl, hsz.trans h5, reals_take h6 off, fun i v hi => ?_⟩
          rw [List.getElem?_take] at hi
          split at hi
          · rename_i hio; rw [hlow i hio]; exact h7 i v hi
          · cases hi
        | iter s pos =>
          obtain ⟨b0, h1, h2⟩ := hB
          rw [hbm] at h1; cases h1
          rw [hL] at h2; cases h2
        | loop st pd n e ps as bd =>
          obtain ⟨b0, fn, t, D, h1, h2, _⟩ := hB
          rw [hbm] at h1; cases h1
          rw [hL] at h2; cases h2
      · have hB : BRel σ (upd L b (.cells c' E (0, 0))) m p := (h.blk m p hAm).mono (Le.refl σ) fun b' y hb' hy => by
          rw [hbm] at hb'; cases hb'
          rw [upd_other _ _ eb]; exact hy
        rw [← hm]
        split
        · exact hB.trunc
        · exact hB

theorem setAt_get : ∀ (vs l : List Value) (off i : Nat), off + vs.length ≤ l.length → (setAt l off vs)[i]? = if i < off then l[i]? else if i < off + vs.length then vs[i - off]? else l[i]?
  | [], l, off, i, _ => by simp only [setAt, List.length_nil, Nat.add_zero]; split <;> rfl
  | v :: vs, l, off, i, h => by
    simp only [List.length_cons] at h
    rw [setAt, setAt_get vs (l.set off v) (off + 1) i (by simp; omega)]
    by_cases h1 : i < off
    · rw [if_pos (by omega), if_pos h1, List.getElem?_set_ne (by omega)]
    · rw [if_neg h1]
      by_cases h2 : i = off
      · subst h2
        rw [if_pos (by omega), if_pos (by simp), List.getElem?_set_self (by omega), Nat.sub_self]
        rfl
      · rw [if_neg (by omega)]
        by_cases h3 : i < off + 1 + vs.length
        · rw [if_pos h3, if_pos (by simp; omega), show i - off = (i - (off + 1)) + 1 by omega]; simp
        · rw [if_neg h3, if_neg (by simp; omega), List.getElem?_set_ne (by omega)]
theorem storeA_sound {σ : Sg} {A : AH} {L : Heap} {k off b : Nat} {xs : List AV} {vs : List Value} {K : AH → Bool} (hs : storeA A k off xs K = true) (h : HRel σ A L) (hb : σ.num k = some b) (hx : reals σ xs = some vs) :
    pStore L ⟨b, off, none⟩ vs (HPost σ K) ∧ allSingle vs = true := by
  unfold storeA at hs
  split at hs
  · rename_i fam E cs tot esz x hk
    split at hs
    · rename_i hc
      simp only [Bool.and_eq_true, Nat.ble_eq] at hc
      obtain ⟨⟨h1, h2⟩, h3⟩ := hc
      obtain ⟨b0, e0, c, fz, vs0, q1, q2, q3, q4, q5, q6, q7⟩ := h.blk _ _ hk
      rw [hb] at q1; cases q1
      have hfz := q4 rfl; subst hfz
      have hlx := reals_length hx
      have hl0 := reals_length q6
      have hsz : off + vs.length ≤ c.toList.length := by simp only [Array.length_toList]; rw [q5]; have := Nat.zero_le (esz * e0); omega
      refine ⟨⟨rfl, c, E, q3, hsz, σ, _, Le.refl σ, hs, ?_⟩, allOne_real h3 hx⟩
      refine h.write (c := c) (c' := (setAt c.toList off vs).toArray) (vs' := vs0.take off ++ vs ++ vs0.drop (off + vs.length)) hk hb q3 (by simp [setAt_length]) (fun i hi => ?_) ?_ fun i v hi => ?_
      · rw [List.getElem?_toArray, setAt_get vs c.toList off i hsz, if_pos hi]; simp
      · rw [hlx]
        exact reals_append (reals_append (reals_take q6 off) hx) (reals_drop q6 _)
      · rw [List.getElem?_toArray, setAt_get vs c.toList off i hsz]
        have ht : (vs0.take off).length = off := by rw [List.length_take]; omega
        by_cases c1 : i < off
        · rw [if_pos c1]
          rw [List.append_assoc, List.getElem?_append_left (by omega), List.getElem?_take, if_pos c1] at hi
          simpa using q7 i v hi
        · rw [if_neg c1]
          rw [List.append_assoc, List.getElem?_append_right (by omega), ht] at hi
          by_cases c2 : i < off + vs.length
          · rw [if_pos c2]
            rw [List.getElem?_append_left (by omega)] at hi
            exact hi
          · rw [if_neg c2]
            rw [List.getElem?_append_right (by omega), List.getElem?_drop] at hi
            rw [show off + vs.length + (i - off - vs.length) = i by omega] at hi
            simpa using q7 i v hi
    · cases hs
  · cases hs
theorem readA_sound {σ : Sg} {A : AH} {L : Heap} {k off n b : Nat} {cs : List AV} (hs : readA A k off n = some cs) (h : HRel σ A L) (hb : σ.num k = some b) : ∃ vs, reals σ cs = some vs ∧ vs.length = n ∧ Holds L ⟨b, off, none⟩ vs := by
  unfold readA at hs
  split at hs
  · rename_i fam E wr c0 tot esz x hk
    split at hs
    · rename_i hle
      have hle := Nat.le_of_ble_eq_true hle
      simp only [Option.some.injEq] at hs; subst hs
      obtain ⟨b0, e0, c, fz, vs0, q1, q2, q3, q4, q5, q6, q7⟩ := h.blk _ _ hk
      rw [hb] at q1; cases q1
      have hl0 := reals_length q6
      refine ⟨(vs0.drop off).take n, reals_take (reals_drop q6 off) n, by rw [List.length_take, List.length_drop]; omega, rfl, c, E, fz, q3, fun i v hi => ?_⟩
      rw [List.getElem?_take] at hi
      split at hi
      · rw [List.getElem?_drop] at hi; exact q7 _ _ hi
      · cases hi
    · cases hs
  · cases hs
theorem loadA_sound {P : Program} {σ : Sg} {A : AH} {L : Heap} {T : TypeId} {k off b : Nat} {a : AV} (hs : loadA P A T k off = some a) (h : HRel σ A L) (hb : σ.num k = some b) :
    ∃ v, a.real σ = some v ∧ loadOK P T v = true ∧ Holds L ⟨b, off, none⟩ v.cells.toList := by
  unfold loadA at hs
  unfold loadOK
  split at hs
  · rename_i fs hu
    split at hs
    · rename_i i hi
      split at hs
      · rename_i cs hc
        simp only [Option.some.injEq] at hs; subst hs
        obtain ⟨vs, h1, h2, h3⟩ := readA_sound hc h hb
        exact ⟨.agg vs.toArray, by simp [AV.real, h1], by simp [hu, hi, h2], by simpa [Value.cells] using h3⟩
      · cases hs
    · cases hs
  · rename_i n el hu
    split at hs
    · rename_i i hi
      split at hs
      · rename_i cs hc
        simp only [Option.some.injEq] at hs; subst hs
        obtain ⟨vs, h1, h2, h3⟩ := readA_sound hc h hb
        exact ⟨.agg vs.toArray, by simp [AV.real, h1], by simp [hu, hi, h2], by simpa [Value.cells] using h3⟩
      · cases hs
    · cases hs
  · rename_i d hd1 hd2 hu
    split at hs
    · rename_i a' hc
      split at hs
      · rename_i ho
        simp only [Option.some.injEq] at hs; subst hs
        obtain ⟨vs, h1, h2, h3⟩ := readA_sound hc h hb
        obtain ⟨v, w, r1, r2, rfl⟩ := reals_cons.1 h1
        cases r2
        obtain ⟨s1, s2⟩ := oneA_real ho r1
        refine ⟨v, r1, ?_, by rw [s2]; exact h3⟩
        rw [hu]
        cases d <;> first
          | exact absurd rfl (hd1 _)
          | exact absurd rfl (hd2 _ _)
          | (cases v <;> first | rfl | (simp [allSingle] at s1))
      · cases hs
    · cases hs
  · cases hs
/-- A new block of known cells. -/
theorem newCells_sound {σ : Sg} {A : AH} {L : Heap} {E : TypeId} {cs : List AV} {vs : List Value} {K : CK} (hs : newCells A E cs K = true) (h : HRel σ A L) (hc : reals σ cs = some vs) {b : Nat} (hb : L b = none) :
    CallPost σ K (.pointer (some ⟨b, 0, none⟩)) (upd L b (.cells vs.toArray E (0, 0))) := by
  unfold newCells AH.new at hs
  split at hs
  · rename_i hlt
    have hlt : A.nxt < nameMax := by simpa [Nat.blt_eq] using hlt
    have hl := reals_length hc
    obtain ⟨hle, hH⟩ := h.alloc (o := fun k => .cells k E true cs cs.length 0 none) (ob := .cells vs.toArray E (0, 0)) hb hlt (fun f hf => by cases hf; rfl)
      ⟨b, 0, vs.toArray, (0, 0), vs, num_set_same _ _ _, rfl, upd_same _ _ _, fun _ => rfl, by simp [hl], reals_mono (Le.set _ (h.dom _ (Nat.le_refl _))) hc, fun i v hi => by simpa using hi⟩
    exact ⟨_, _, .p A.nxt 0, hle, hs, by simp [AV.real, num_set_same], hH⟩
  · cases hs
end Go.Proofs.YtmcaejnofmbilaaGreat.Tri
