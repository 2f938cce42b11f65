/- The evaluator: slices.Insert in the middle. -/
import Derived.Test.YtmcaejnofmbilaaGreatCevG
import Derived.Test.YtmcaejnofmbilaaGreatCevIns
namespace Go.Proofs.YtmcaejnofmbilaaGreat.Tri
set_option linter.all false
open Go.RowKit
abbrev CallFn := Nat → List AV → AH → CK → Bool
def CallOk (P : Program) (call : CallFn) : Prop := ∀ g vs A K, call g vs A K = true → ∀ σ L rs, HRel σ A L → reals σ vs = some rs → Tri P g rs.toArray L (CallPost σ K)
/-- What is asked of slices.Insert: that its code asks no more than is printed in InsVC. -/
def InsOk (P : Program) : Prop := ∀ g el, insOf P g = some el → ∃ ov rv,
  (∀ {p : Option Addr} {n c : Nat} {i : Int} {q : Option Addr} {m d : Nat} {L : Heap} {Φ : Value → Heap → Prop}, InsVC P el ov rv p n c i q m d L Φ → Tri P g #[.slice p n c, .int .i64 i, .slice q m d] L Φ) ∧
  ∀ {L : Heap} {b b2 off off2 l c l2 c2 : Nat} {ca cb : Array Value} {Ea Eb : TypeId}, L b = some (.cells ca Ea (0, 0)) → L b2 = some (.cells cb Eb (0, 0)) → b2 ≠ b → ca.size ≠ 0 →
    Outs P ov #[.slice (some ⟨b2, off2, none⟩) l2 c2, .slice (some ⟨b, off, none⟩) l c] L (.bool false)
section
variable {P : Program} {call : CallFn} {σ : Sg} {A : AH} {L : Heap} {K : CK}
theorem insertA_sound (hi : InsOk P) (hH : HRel σ A L) {g el k len m u i k2 off2 n ex b0 b2 c2 : Nat} (hg : insOf P g = some el) (hb0 : σ.num k = some b0) (hx0 : σ.ext (some u) = some ex) (hb2 : σ.num k2 = some b2)
    (hs : insertA P A el k len m u i k2 off2 n K = true) : Tri P g #[.slice (some ⟨b0, 0, none⟩) len (m + ex), .int .i64 (i : Int), .slice (some ⟨b2, off2, none⟩) n c2] L (CallPost σ K) := by
  obtain ⟨ov, rv, ht, hov⟩ := hi g el hg
  refine ht ?_
  unfold insertA at hs
  split at hs
  rotate_left
  · cases hs
  rename_i inf hinf
  split at hs
  rotate_left
  · cases hs
  rename_i z hz
  obtain ⟨old, ho, hs⟩ := opt_elim hs
  obtain ⟨xs, hxs, hs⟩ := opt_elim hs
  split at hs
  rotate_left
  · cases hs
  rename_i hc
  simp only [Bool.and_eq_true, Nat.ble_eq, Nat.blt_eq] at hc
  obtain ⟨⟨⟨⟨⟨⟨⟨⟨c1, c2'⟩, c3⟩, c4⟩, c5⟩, c6⟩, c7⟩, c8⟩, c9⟩ := hc
  have c3 := Nat.eq_of_beq_eq_true c3
  have c4 := Nat.eq_of_beq_eq_true c4
  split at hs
  rotate_left
  · cases hs
  rename_i fam E cs tot esz w fam2 E2 cs2 tot2 esz2 x2 hk0 hk2
  split at hs
  rotate_left
  · cases hs
  rename_i hc3
  simp only [Bool.and_eq_true, Bool.not_eq_true'] at hc3
  obtain ⟨⟨⟨⟨f1, f2⟩, f3⟩, f4⟩, f5⟩ := hc3
  have f1 := Nat.eq_of_beq_eq_true f1
  have f2 := Nat.eq_of_beq_eq_true f2
  have f3 := Nat.eq_of_beq_eq_true f3
  have f4 := Nat.eq_of_beq_eq_true f4
  subst f1; subst f2; subst f3; subst f4
  have hzs : z.cells.size = 1 := by
    have := reals_length (aCells_real (σ := σ) (a := .v z) rfl)
    simp only [Array.length_toList] at this
    omega
  obtain ⟨b1, e1, ca, fz, us, g1, g2, g3, g4, g5, g6, g7⟩ := hH.blk _ _ hk0
  rw [hb0] at g1; cases g1
  rw [hx0] at g2; cases g2
  have hfz := g4 rfl; subst hfz
  obtain ⟨b3, e3, cv, fz3, us3, q1, q2, q3, q4, q5, q6, q7⟩ := hH.blk _ _ hk2
  rw [hb2] at q1; cases q1
  have hfz := q4 rfl; subst hfz
  have hne : b2 ≠ b0 := fun e => by
    subst e
    rcases hH.inj k k2 _ _ _ hk0 hk2 hb0 hb2 with h | ⟨f, h1, h2⟩
    · subst h; rw [hk0] at hk2; cases hk2; rw [Nat.beq_refl] at f5; cases f5
    · simp only [famOf, Option.some.injEq] at h1 h2
      subst h1; rw [h2, Nat.beq_refl] at f5; cases f5
  obtain ⟨ws, w1, w2, w3⟩ := readA_sound ho hH hb0
  obtain ⟨vs, v1, v2, v3⟩ := readA_sound hxs hH hb2
  have hold : ∀ (j : Nat) v, ws[j]? = some v → ca[0 + j]? = some v := fun j v hj => by
    obtain ⟨_, c9, E9, fz9, r1, r2⟩ := w3
    simp only at r1
    rw [g3] at r1; cases r1
    exact r2 j v hj
  have hnew : ∀ (j : Nat) v, vs[j]? = some v → cv[off2 + j]? = some v := fun j v hj => by
    obtain ⟨_, c9, E9, fz9, r1, r2⟩ := v3
    simp only at r1
    rw [q3] at r1; cases r1
    exact r2 j v hj
  have grow_ok : ∀ {need cp : Nat}, cp < need → need ≤ 65536 → Builtin.nextslicecap need cp * inf.bytes ≤ 281474976710656 := fun {need cp} h1 h2 => by
    have h3 := nextcap_le h1
    have h4 : Builtin.nextslicecap need cp ≤ 131264 := by omega
    calc Builtin.nextslicecap need cp * inf.bytes ≤ 131264 * 4096 := Nat.mul_le_mul h4 c5
      _ ≤ 281474976710656 := by decide
  obtain ⟨hlt, hs1⟩ := new_elim (name_elim hs)
  have hsz : ca.size = m + ex := by rw [g5, Nat.one_mul]
  have hres : reals σ (old.take i ++ (xs ++ old.drop i)) = some (ws.take i ++ (vs ++ ws.drop i)) := reals_append (reals_take w1 i) (reals_append v1 (reals_drop w1 i))
  have hrl : (ws.take i ++ (vs ++ ws.drop i)).length = len + n := by simp [w2, v2]; omega
  have both : ∀ (cap' bj : Nat) (M : Heap), len + n ≤ cap' → ((bj = b0 ∧ ∃ c c' : Array Value, L b0 = some (.cells c E (0, 0)) ∧ M = upd L b0 (.cells c' E (0, 0)) ∧ c'.size = c.size ∧ ∀ j, j < i → c'[j]? = c[j]?) ∨ (L bj = none ∧ ∃ ob, M = upd L bj ob)) →
      (∃ c' : Array Value, M bj = some (.cells c' E (0, 0)) ∧ c'.size = cap' ∧ ∀ (j : Nat) (v : Value), (ws.take i ++ (vs ++ ws.drop i))[j]? = some v → c'[j]? = some v) → CallPost σ K (.slice (some ⟨bj, 0, none⟩) (len + n) cap') M := by
    rintro cap' bj M hcap hM ⟨c', hc1, hc2, hc3⟩
    obtain ⟨hl1, hH1⟩ := hH.name (.n (cap' - (len + n)))
    have hx1 : (σ.set A.nxt (.n (cap' - (len + n)))).ext (some A.nxt) = some (cap' - (len + n)) := num_set_same _ _ _
    have hl2 := Le.set (.n bj) (hH1.dom (A.nxt + 1) (Nat.le_refl _))
    obtain ⟨_, hH2⟩ := hH1.merge (k := k) (fam := fam) (b := b0) (bj := bj) (q := i) (oj := .cells fam E true (old.take i ++ (xs ++ old.drop i)) (len + n) 1 (some A.nxt)) hk0 (hl1.num hb0) hlt hM
      ⟨bj, cap' - (len + n), c', (0, 0), _, num_set_same _ _ _, hl2.ext hx1, hc1, fun _ => rfl, (by rw [hc2]; omega), reals_mono (hl1.trans hl2) hres, hc3⟩ rfl
    refine ⟨_, _, .s (A.nxt + 1) 0 (len + n) (len + n) (some A.nxt), hl1.trans hl2, hs1, ?_, hH2⟩
    have h1 : (Sg.num ((σ.set A.nxt (.n (cap' - (len + n)))).set (A.nxt + 1) (.n bj)) (A.nxt + 1)) = some bj := num_set_same _ _ _
    rw [mk_s h1 (hl2.ext hx1)]
    congr 2; omega
  refine insVC_mid hinf hz c3 hzs g3 q3 hne c1 (by omega) (by omega) (by omega) w2 hold v2 hnew (allOne_real c8 w1) (allOne_real c9 v1) (fun l c l2 c2' o o2 => hov g3 q3 hne (by omega)) (fun hfit => ⟨by omega, ?_⟩) fun hgrow => ⟨grow_ok hgrow c6, ?_, fun b' c' hb' hc' => ?_⟩
  · have hroom : 0 + i + (vs ++ ws.drop i).length ≤ ca.toList.length := by
      simp only [Array.length_toList, List.length_append, List.length_drop]
      omega
    refine both _ b0 _ (by omega) (.inl ⟨rfl, ca, _, g3, rfl, by simp [setAt_length], fun j hj => ?_⟩) ⟨_, upd_same _ _ _, ?_, fun j v hj => ?_⟩
    · rw [List.getElem?_toArray, setAt_get _ ca.toList _ j hroom, if_pos (by omega)]; simp
    · simp only [List.size_toArray, setAt_length, Array.length_toList]; exact hsz
    · rw [List.getElem?_toArray, setAt_get _ ca.toList _ j hroom]
      by_cases h1 : j < 0 + i
      · rw [if_pos h1]
        rw [List.getElem?_append_left (by rw [List.length_take]; omega), List.getElem?_take] at hj
        split at hj
        · have := hold j v hj
          simpa using this
        · cases hj
      · have hlt : (ws.take i).length = i := by rw [List.length_take]; omega
        rw [if_neg h1]
        rw [List.getElem?_append_right (by omega), hlt] at hj
        rw [if_pos (by have := (List.getElem?_eq_some_iff.1 hj).1; omega)]
        simpa using hj
  · calc (len + n) * inf.bytes ≤ 65536 * 4096 := Nat.mul_le_mul c6 c5
      _ ≤ 281474976710656 := by decide
  · refine both c' b' _ hc' (.inr ⟨hb', _, rfl⟩) ⟨_, upd_same _ _ _, ?_, fun j v hj => ?_⟩
    · simp only [List.size_toArray, List.length_append, List.length_take, List.length_drop, Array.length_toList, zeroCells_len, hzs]
      omega
    · rw [List.getElem?_toArray, List.append_assoc (ws.take i), List.getElem?_append_left (by rw [hrl]; have := (List.getElem?_eq_some_iff.1 hj).1; omega)]; exact hj
theorem enterA_sound (hi : InsOk P) (hcall : CallOk P call) (hH : HRel σ A L) {g : Nat} {as : List AV} {vs : List Value} (hs : enterA P call A g as K = true) (hv : reals σ as = some vs) : Tri P g vs.toArray L (CallPost σ K) := by
  have plain : call g as A K = true → Tri P g vs.toArray L (CallPost σ K) := fun h => hcall _ _ _ _ h σ L _ hH hv
  unfold enterA at hs
  split at hs
  · rename_i k off len m u i k2 off2 n m2 x2
    split at hs
    · rename_i hc
      simp only [Bool.and_eq_true, decide_eq_true_eq] at hc
      obtain ⟨⟨⟨h1, h2⟩, h3⟩, h4⟩ := hc
      have h4 := Nat.eq_of_beq_eq_true h4
      subst h4
      split at hs
      · rename_i el hg
        obtain ⟨v0, r0, q0, hv1, rfl⟩ := reals_cons.1 hv
        obtain ⟨v1, r1, q1, hv2, rfl⟩ := reals_cons.1 hv1
        obtain ⟨v2, r2, q2, hv3, rfl⟩ := reals_cons.1 hv2
        cases hv3
        obtain ⟨b0, ex, e1, e2, rfl⟩ := real_s q0
        cases q1
        obtain ⟨b2, ex2, e3, e4, rfl⟩ := real_s q2
        have := insertA_sound (c2 := m2 + ex2) hi hH hg e1 e2 e3 hs
        rw [Int.toNat_of_nonneg h1] at this
        exact this
      · exact plain hs
    · exact plain hs
  · exact plain hs
end
end Go.Proofs.YtmcaejnofmbilaaGreat.Tri
