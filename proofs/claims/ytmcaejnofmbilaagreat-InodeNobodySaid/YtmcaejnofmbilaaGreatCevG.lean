/- The evaluator: append, calls; every operation. -/
import Derived.Test.YtmcaejnofmbilaaGreatCevF
namespace Go.Proofs.YtmcaejnofmbilaaGreat.Tri
set_option linter.all false
open Go.RowKit
section
variable {P : Program} {σ : Sg} {n : Nat} {e : AEnv} {env : Env} {A : AH} {L : Heap} {o : Oper} {K : CK} {rd : Option Nat}

theorem zeroCells_len (z : Array Value) (k : Nat) : (Builtin.zeroCells z k).size = k * z.size := by simp [Builtin.zeroCells]
theorem append_new (hH : HRel σ A L) {el : TypeId} {i : TypeInfo} {z : Value} {xs old : List AV} {vs ws : List Value} {need b c : Nat} (hzs : z.cells.size = i.size) (hb : L b = none) (hc : need ≤ c) (hr : reals σ old = some ws) (hx : reals σ xs = some vs)
    (hlen : ws.length + vs.length = need * i.size)
    (hs : A.name (fun y A => A.new (fun k => .cells k el true (old ++ xs) (need * i.size) i.size (some y)) fun k A => K (.s k 0 need need (some y)) A) = true) :
    CallPost σ K (.slice (some ⟨b, 0, none⟩) need c) (upd L b (.cells (ws ++ vs ++ (Builtin.zeroCells z.cells (c - need)).toList).toArray el (0, 0))) := by
  obtain ⟨hlt, hs1⟩ := new_elim (name_elim hs)
  clear hs
  obtain ⟨hl1, hH1⟩ := hH.name (.n (c - need))
  have hx1 : (σ.set A.nxt (.n (c - need))).ext (some A.nxt) = some (c - need) := num_set_same _ _ _
  have hl2 := Le.set (.n b) (hH1.dom (A.nxt + 1) (Nat.le_refl _))
  obtain ⟨_, hH2⟩ := hH1.alloc (o := fun k => .cells k el true (old ++ xs) (need * i.size) i.size (some A.nxt)) (ob := .cells (ws ++ vs ++ (Builtin.zeroCells z.cells (c - need)).toList).toArray el (0, 0)) hb hlt (fun f hf => by cases hf; rfl)
    ⟨b, c - need, _, (0, 0), ws ++ vs, num_set_same _ _ _, hl2.ext hx1, upd_same _ _ _, fun _ => rfl, (by
      simp only [List.size_toArray, List.length_append, Array.length_toList, zeroCells_len, hzs, hlen]
      rw [Nat.mul_comm i.size]), reals_mono (hl1.trans hl2) (reals_append hr hx), fun j v hj => by
      rw [List.getElem?_toArray, List.getElem?_append_left (List.getElem?_eq_some_iff.1 hj).1]; exact hj⟩
  refine ⟨_, _, .s (A.nxt + 1) 0 need need (some A.nxt), hl1.trans hl2, hs1, ?_, hH2⟩
  have h1 : (Sg.num ((σ.set A.nxt (.n (c - need))).set (A.nxt + 1) (.n b)) (A.nxt + 1)) = some b := num_set_same _ _ _
  rw [mk_s h1 (hl2.ext hx1)]
  congr 2; omega
theorem appendA_sound (hH : HRel σ A L) {T el : TypeId} {a b : AV} {vb : Value} {p : Option Addr} {len cap : Nat} (hu : P.underlying T = some (.slice el)) (ha : a.real σ = some (.slice p len cap)) (hb : b.real σ = some vb) (hs : appendA P A T a b K = true) :
    pAppend P (evCfg rd) L el p len cap vb fun q l c M => OpPost σ K (.v (.slice q l c)) [] M := by
  unfold appendA at hs
  rw [hu] at hs
  simp only at hs
  split at hs
  rotate_left
  · cases hs
  rename_i i hi
  split at hs
  rotate_left
  · cases hs
  rename_i z hz
  obtain ⟨k, hk, hs1⟩ := opt_elim hs
  clear hs
  obtain ⟨xs, hxs, hs⟩ := opt_elim hs1
  clear hs1
  split at hs
  rotate_left
  · cases hs
  rename_i hc
  simp only [Bool.and_eq_true, Nat.ble_eq] at hc
  obtain ⟨⟨⟨⟨c1, c2⟩, c3⟩, c4⟩, c5⟩ := hc
  have c4 := Nat.eq_of_beq_eq_true c4
  have c5 := Nat.eq_of_beq_eq_true c5
  obtain ⟨hlen, _⟩ := lenA_sound hk hb
  obtain ⟨vs, q1, q2, q3⟩ := srcA_sound hH hxs hb
  have hvl := reals_length q1
  have hzs : z.cells.size = i.size := by
    have := reals_length (aCells_real (σ := σ) (a := .v z) rfl)
    simp only [Array.length_toList] at this
    omega
  unfold pAppend
  simp only [hi, hz]
  refine ⟨k, vs, hlen, q3, q2, allOne_real c1 q1, ?_⟩
  have ins : ∀ {v : Value} {M : Heap}, CallPost σ K v M → OpPost σ K (.v v) [] M := fun h => ⟨_, rfl, rfl, h⟩
  have grow_ok : ∀ {need cp : Nat}, cp < need → need ≤ 65536 → Builtin.nextslicecap need cp * i.bytes ≤ 281474976710656 := fun {need cp} h1 h2 => by
    have h3 := nextcap_le h1
    have h4 : Builtin.nextslicecap need cp ≤ 131264 := by omega
    calc Builtin.nextslicecap need cp * i.bytes ≤ 131264 * 4096 := Nat.mul_le_mul h4 c2
      _ ≤ 281474976710656 := by decide
  split at hs
  · -- nil
    rename_i l0 cp0
    cases ha
    split at hs
    · rename_i h0
      simp only [Bool.and_eq_true] at h0
      have e1 := Nat.eq_of_beq_eq_true h0.1
      have e2 := Nat.eq_of_beq_eq_true h0.2
      subst e1; subst e2
      split at hs
      · rename_i hk0
        have hk0 := Nat.eq_of_beq_eq_true hk0
        subst hk0
        refine ⟨fun _ => ins (.here hs rfl hH), fun h => by omega⟩
      · rename_i hk0
        have hk0 : k ≠ 0 := fun e9 => by subst e9; simp at hk0
        refine ⟨fun h => by omega, fun h => ⟨by rw [Nat.zero_add]; exact grow_ok (by omega) c3, by omega, [], by simp [srcCells], fun b c hb hc => ?_⟩⟩
        rw [Nat.zero_add] at hc ⊢
        exact ins (append_new hH (old := []) hzs hb hc rfl q1 (by simp; omega) (by simpa using hs))
    · cases hs
  · -- a slice
    rename_i k0 off l0 m0 x0
    obtain ⟨b0, ex, hb0, hx0, he⟩ := real_s ha
    cases he
    split at hs
    · -- it fits
      rename_i hle
      have hle := Nat.le_of_ble_eq_true hle
      refine ⟨fun _ => ?_, fun h => by omega⟩
      simp only
      split at hs
      · cases q1
        exact .inl ⟨rfl, ins (.here hs (mk_s hb0 hx0) hH)⟩
      · obtain ⟨w1, _⟩ := storeA_sound hs hH hb0 q1
        refine .inr ?_
        rw [add_spot rfl]
        obtain ⟨r1, c, E, r2, r3, τ, A', r4, r5, r6⟩ := w1
        refine ⟨r1, c, E, r2, r3, ?_⟩
        show OpPost σ K _ [] _
        exact ins ⟨τ, A', _, r4, r5, mk_s (r4.num hb0) (r4.ext hx0), r6⟩
    · rename_i hle
      have hle : ¬ len + k ≤ m0 := fun h9 => by
        have : Nat.ble (len + k) m0 = true := by simpa [Nat.ble_eq] using h9
        rw [this] at hle; cases hle
      obtain ⟨old, ho, hs1⟩ := opt_elim hs
      clear hs
      have hs := hs1
      clear hs1
      obtain ⟨ws, w1, w2, w3⟩ := readA_sound ho hH hb0
      have hlens : ws.length + vs.length = (len + k) * i.size := by rw [w2, ← hvl, c4, Nat.add_mul]
      have hold : srcCells L (.slice (some ⟨b0, off, none⟩) len (m0 + ex)) (len * i.size) ws := ⟨w2, .inr w3⟩
      split at hs
      · -- the capacity is known
        cases hx0
        split at hs
        · rename_i hc2
          simp only [Bool.and_eq_true, Nat.ble_eq] at hc2
          refine ⟨fun h => by omega, fun h => ⟨grow_ok h hc2.1, by omega, ws, hold, fun b c hb hc => ?_⟩⟩
          exact ins (append_new hH hzs hb hc w1 q1 hlens hs)
        · cases hs
      · -- it is not
        rename_i u
        split at hs
        rotate_left
        · cases hs
        rename_i hc2
        simp only [Bool.and_eq_true, Nat.ble_eq, Nat.blt_eq] at hc2
        obtain ⟨⟨d1, d2⟩, d3⟩ := hc2
        have d1 := Nat.eq_of_beq_eq_true d1
        subst d1
        split at hs
        rotate_left
        · cases hs
        rename_i fam E cs tot esz x' hk0
        split at hs
        rotate_left
        · cases hs
        rename_i hc3
        simp only [Bool.and_eq_true] at hc3
        obtain ⟨⟨⟨f1, f2⟩, f3⟩, f4⟩ := hc3
        have f1 := Nat.eq_of_beq_eq_true f1
        have f2 := Nat.eq_of_beq_eq_true f2
        have f3 := Nat.eq_of_beq_eq_true f3
        subst f1; subst f2
        cases x' with
        | none => cases f4
        | some w =>
          have f4 := Nat.eq_of_beq_eq_true f4
          subst f4
          obtain ⟨b1, e1, c0, fz, us, g1, g2, g3, g4, g5, g6, g7⟩ := hH.blk _ _ hk0
          rw [hb0] at g1; cases g1
          rw [hx0] at g2; cases g2
          have hfz := g4 rfl; subst hfz
          obtain ⟨hlt, hs1⟩ := new_elim (name_elim hs)
          clear hs
          -- both ways
          have both : ∀ (cap' bj : Nat) (M : Heap), len + k ≤ cap' → ((bj = b0 ∧ ∃ c c' : Array Value, L b0 = some (.cells c E (0, 0)) ∧ M = upd L b0 (.cells c' E (0, 0)) ∧ c'.size = c.size ∧ ∀ j, j < len * i.size → c'[j]? = c[j]?) ∨ (L bj = none ∧ ∃ ob, M = upd L bj ob)) →
              (∃ c' : Array Value, M bj = some (.cells c' E (0, 0)) ∧ c'.size = cap' * i.size ∧ ∀ (j : Nat) (v : Value), (ws ++ vs)[j]? = some v → c'[j]? = some v) → CallPost σ K (.slice (some ⟨bj, 0, none⟩) (len + k) cap') M := by
            rintro cap' bj M hcap hM ⟨c', hc1, hc2, hc3⟩
            obtain ⟨hl1, hH1⟩ := hH.name (.n (cap' - (len + k)))
            have hx1 : (σ.set A.nxt (.n (cap' - (len + k)))).ext (some A.nxt) = some (cap' - (len + k)) := num_set_same _ _ _
            have hl2 := Le.set (.n bj) (hH1.dom (A.nxt + 1) (Nat.le_refl _))
            obtain ⟨_, hH2⟩ := hH1.merge (k := k0) (fam := fam) (b := b0) (bj := bj) (q := len * i.size) (oj := .cells fam E true (old ++ xs) ((len + k) * i.size) i.size (some A.nxt)) hk0 (hl1.num hb0) hlt hM
              ⟨bj, cap' - (len + k), c', (0, 0), ws ++ vs, num_set_same _ _ _, hl2.ext hx1, hc1, fun _ => rfl, (by rw [hc2, Nat.mul_comm i.size, ← Nat.add_mul]; congr 1; omega), reals_mono (hl1.trans hl2) (reals_append w1 q1), hc3⟩ rfl
            refine ⟨_, _, .s (A.nxt + 1) 0 (len + k) (len + k) (some A.nxt), hl1.trans hl2, hs1, ?_, hH2⟩
            have h1 : (Sg.num ((σ.set A.nxt (.n (cap' - (len + k)))).set (A.nxt + 1) (.n bj)) (A.nxt + 1)) = some bj := num_set_same _ _ _
            rw [mk_s h1 (hl2.ext hx1)]
            congr 2; omega
          refine ⟨fun hfit => ?_, fun hgrow => ⟨grow_ok hgrow d2, by omega, ws, hold, fun b c hb hc => ?_⟩⟩
          · -- the old row
            refine .inr ?_
            rw [add_spot rfl]
            have hroom : 0 + len * i.size + vs.length ≤ c0.toList.length := by
              simp only [Array.length_toList]
              rw [g5]
              have h2 : (len + k) * i.size ≤ (m0 + ex) * i.size := Nat.mul_le_mul_right _ hfit
              rw [Nat.add_mul m0, Nat.mul_comm ex] at h2
              omega
            refine ⟨rfl, c0, E, g3, hroom, ?_⟩
            show OpPost σ K _ [] _
            refine ins (both (m0 + ex) b0 _ hfit (.inl ⟨rfl, c0, _, g3, rfl, by simp [setAt_length], fun j hj => ?_⟩) ⟨_, upd_same _ _ _, ?_, fun j v hj => ?_⟩)
            · rw [List.getElem?_toArray, setAt_get vs c0.toList _ j (by simpa using hroom), if_pos (by simpa using hj)]; simp
            · simp only [List.size_toArray, setAt_length, Array.length_toList]
              rw [g5, ← f3, Nat.mul_comm i.size, ← Nat.add_mul]
            · rw [List.getElem?_toArray, setAt_get vs c0.toList _ j (by simpa using hroom)]
              simp only [Nat.zero_add]
              by_cases h1 : j < len * i.size
              · rw [if_pos h1]
                rw [List.getElem?_append_left (by omega)] at hj
                obtain ⟨_, c9, E9, fz9, r1, r2⟩ := w3
                simp only at r1
                rw [g3] at r1; cases r1
                have := r2 j v hj
                simpa using this
              · rw [if_neg h1]
                rw [List.getElem?_append_right (by omega), w2] at hj
                rw [if_pos (by have := (List.getElem?_eq_some_iff.1 hj).1; omega)]
                exact hj
          · refine ins (both c b _ hc (.inr ⟨hb, _, rfl⟩) ⟨_, upd_same _ _ _, ?_, fun j v hj => ?_⟩)
            · simp only [List.size_toArray, List.length_append, Array.length_toList, zeroCells_len, hzs]
              rw [hlens, ← Nat.add_mul]; congr 1; omega
            · rw [List.getElem?_toArray, List.getElem?_append_left (List.getElem?_eq_some_iff.1 hj).1]; exact hj
  · cases hs
end
end Go.Proofs.YtmcaejnofmbilaaGreat.Tri
