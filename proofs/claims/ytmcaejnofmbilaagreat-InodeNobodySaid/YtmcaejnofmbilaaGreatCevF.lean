/- The evaluator: slices, append, copy, clear. -/
import Derived.Test.YtmcaejnofmbilaaGreatCevE
namespace Go.Proofs.YtmcaejnofmbilaaGreat.Tri
set_option linter.all false
open Go.RowKit
section
variable {P : Program} {σ : Sg} {n : Nat} {e : AEnv} {env : Env} {A : AH} {L : Heap} {o : Oper} {K : CK} {rd : Option Nat}

theorem real_s {k off len m : Nat} {x : Option Nat} {v : Value} (h : (AV.s k off len m x).real σ = some v) : ∃ b e, σ.num k = some b ∧ σ.ext x = some e ∧ v = .slice (some ⟨b, off, none⟩) len (m + e) := by
  simp only [AV.real] at h
  split at h
  · rename_i b e hb he; cases h; exact ⟨b, e, hb, he, rfl⟩
  · cases h
theorem real_p {k off : Nat} {v : Value} (h : (AV.p k off).real σ = some v) : ∃ b, σ.num k = some b ∧ v = .pointer (some ⟨b, off, none⟩) := by
  simp only [AV.real] at h
  cases hs : σ.num k with
  | none => rw [hs] at h; cases h
  | some b => rw [hs] at h; cases h; exact ⟨b, rfl, rfl⟩
theorem real_z {x : Nat} {v : Value} (h : (AV.z x).real σ = some v) : ∃ a c, v = .slice (some a) 0 c := by
  simp only [AV.real] at h
  split at h
  · rename_i a c hx; cases h; exact ⟨a, c, rfl⟩
  · cases h
theorem mk_s {k off len m b e : Nat} {x : Option Nat} (hb : σ.num k = some b) (he : σ.ext x = some e) : (AV.s k off len m x).real σ = some (.slice (some ⟨b, off, none⟩) len (m + e)) := by simp only [AV.real, hb, he]
theorem advP_some {ad : Addr} {l m sz : Nat} : advP (some ad) l m sz = some (if m = l then ad else ad.add (l * sz)) := by unfold advP; split <;> rfl
/-- A piece of a slice. -/
theorem sliceA_sound (hH : HRel σ A L) {sz k off len m b ex : Nat} {x : Option Nat} {hasMax : Bool} {l h mx : Int} (hb : σ.num k = some b) (hx : σ.ext x = some ex) (hs : sliceA A sz k off len m x hasMax l h mx K = true) (hm : hasMax = false → mx = m) :
    0 ≤ l ∧ l ≤ h ∧ h ≤ mx ∧ mx ≤ m ∧ CallPost σ K (.slice (advP (some ⟨b, off, none⟩) l.toNat (if hasMax then mx.toNat else m + ex) sz) (h.toNat - l.toNat) ((if hasMax then mx.toNat else m + ex) - l.toNat)) L := by
  unfold sliceA at hs
  split at hs
  · rename_i hc
    simp only [Bool.and_eq_true, decide_eq_true_eq] at hc
    obtain ⟨⟨⟨h1, h2⟩, h3⟩, h4⟩ := hc
    refine ⟨h1, h2, h3, h4, ?_⟩
    rw [advP_some]
    cases hasMax with
    | true =>
      simp only [if_true] at hs ⊢
      split at hs
      · rename_i he
        have he := Nat.eq_of_beq_eq_true he
        rw [if_pos he]
        have := mk_s (len := h.toNat - l.toNat) (m := mx.toNat - l.toNat) (off := off) hb (show σ.ext none = some 0 from rfl)
        exact .here hs this hH
      · rename_i he
        have he : mx.toNat ≠ l.toNat := fun e9 => by rw [e9, Nat.beq_refl] at he; cases he
        rw [if_neg he, add_spot rfl]
        exact .here hs (mk_s hb (show σ.ext none = some 0 from rfl)) hH
    | false =>
      simp only [Bool.false_eq_true, if_false] at hs ⊢
      have hmx := hm rfl
      cases x with
      | none =>
        cases hx
        simp only at hs
        split at hs
        · rename_i he
          have he := Nat.eq_of_beq_eq_true he
          rw [if_pos (by omega)]
          exact .here hs (mk_s hb (show σ.ext none = some 0 from rfl)) hH
        · rename_i he
          have he : m ≠ l.toNat := fun e9 => by rw [e9, Nat.beq_refl] at he; cases he
          rw [if_neg (by omega), add_spot rfl]
          exact .here hs (mk_s hb (show σ.ext none = some 0 from rfl)) hH
      | some y =>
        simp only at hs
        split at hs
        · rename_i hlt
          simp only [Bool.or_eq_true, Nat.blt_eq] at hlt
          have hv := mk_s (len := h.toNat - l.toNat) (m := m - l.toNat) (off := off + l.toNat * sz) hb hx
          have e1 : m - l.toNat + ex = m + ex - l.toNat := by omega
          rw [e1] at hv
          have e2 : (if m + ex = l.toNat then (⟨b, off, none⟩ : Addr) else (⟨b, off, none⟩ : Addr).add (l.toNat * sz)) = ⟨b, off + l.toNat * sz, none⟩ := by
            split
            · rename_i he
              have h0 : l.toNat = 0 := by
                rcases hlt with h9 | h9
                · omega
                · exact Nat.eq_of_beq_eq_true h9
              rw [h0]; simp
            · exact add_spot rfl _
          rw [e2]
          exact .here hs hv hH
        · rename_i hlt
          have hlt : ¬ l.toNat < m := fun h9 => by
            have : Nat.blt l.toNat m = true := by simpa [Nat.blt_eq] using h9
            rw [this] at hlt; simp at hlt
          have hs := name_elim hs
          obtain ⟨hl1, hH1⟩ := hH.name (.v (.slice (some (if m + ex = l.toNat then (⟨b, off, none⟩ : Addr) else (⟨b, off, none⟩ : Addr).add (l.toNat * sz))) 0 (m + ex - l.toNat)))
          refine ⟨_, _, .z A.nxt, hl1, hs, ?_, hH1⟩
          simp only [AV.real, Sg.set_same]
          have : h.toNat - l.toNat = 0 := by omega
          rw [this]
  · cases hs
theorem lenA_sound {a : AV} {v : Value} {k : Nat} (hl : lenA a = some k) (h : a.real σ = some v) : Builtin.lenOf v = pure k ∧ ∀ p l c, v = .slice p l c → l = k := by
  cases a with
  | v x =>
    have e : x = v := Option.some.inj h
    subst e
    cases x <;> simp only [lenA, reduceCtorEq, Option.some.injEq] at hl
    · subst hl; exact ⟨rfl, fun p l c hv => by cases hv⟩
    · subst hl; exact ⟨rfl, fun p l c hv => by cases hv; rfl⟩
  | s k off len m x =>
    obtain ⟨b, e, _, _, rfl⟩ := real_s h
    simp only [lenA, Option.some.injEq] at hl; subst hl
    exact ⟨rfl, fun p l c hv => by cases hv; rfl⟩
  | z x =>
    obtain ⟨a, c, rfl⟩ := real_z h
    simp only [lenA, Option.some.injEq] at hl; subst hl
    exact ⟨rfl, fun p l c hv => by cases hv; rfl⟩
  | _ => simp [lenA] at hl
theorem srcA_sound (hH : HRel σ A L) {sz k : Nat} {a : AV} {xs : List AV} {v : Value} (hs : srcA A sz k a = some xs) (h : a.real σ = some v) : ∃ vs, reals σ xs = some vs ∧ srcCells L v (k * sz) vs ∧ ∀ s, v = .string s → sz = 1 := by
  cases a with
  | v x =>
    have e : x = v := Option.some.inj h
    subst e
    cases x with
    | slice p l c =>
      cases p with
      | none =>
        simp only [srcA, Option.some.injEq] at hs; subst hs
        exact ⟨[], rfl, rfl, fun s hv => by cases hv⟩
      | some ad => simp [srcA] at hs
    | string s =>
      simp only [srcA] at hs
      split at hs
      · rename_i hc
        simp only [Bool.and_eq_true, Nat.ble_eq] at hc
        have h1 := Nat.eq_of_beq_eq_true hc.1
        subst h1
        simp only [Option.some.injEq] at hs; subst hs
        refine ⟨_, reals_map_v _ _, ?_, fun _ _ => rfl⟩
        simp only [srcCells, Nat.mul_one]
        congr 1
        simp [ByteArray.data_extract]
      · cases hs
    | _ => simp [srcA] at hs
  | s k' off len m x =>
    obtain ⟨b, e, hb, _, rfl⟩ := real_s h
    simp only [srcA] at hs
    split at hs
    · obtain ⟨vs, q1, q2, q3⟩ := readA_sound hs hH hb
      exact ⟨vs, q1, ⟨q2, .inr q3⟩, fun s hv => by cases hv⟩
    · cases hs
  | z x =>
    obtain ⟨a, c, rfl⟩ := real_z h
    simp only [srcA] at hs
    split at hs
    · rename_i h0
      have h0 := Nat.eq_of_beq_eq_true h0
      simp only [Option.some.injEq] at hs; subst hs
      refine ⟨[], rfl, ⟨by simp [h0], .inl rfl⟩, fun s hv => by cases hv⟩
    · cases hs
  | _ => simp [srcA] at hs
theorem growBy_le (nl : Nat) : ∀ (r c : Nat), Builtin.growBy nl r c ≤ max c (2 * nl + 192)
  | 0, c => by simp [Builtin.growBy]; omega
  | r + 1, c => by
    unfold Builtin.growBy
    split
    · omega
    · have := growBy_le nl r (c + (c + 768) / 4); omega
theorem nextcap_le {need cap : Nat} (h : cap < need) : Builtin.nextslicecap need cap ≤ 2 * need + 192 := by
  unfold Builtin.nextslicecap
  split
  · omega
  · split
    · omega
    · have := growBy_le need 4 cap; omega

def members (A : AH) (fam k : Nat) : List Nat := match Tri.get A.fams fam with
  | some l => l
  | none => [k]
/-- A new block beside an old one that it may be. -/
theorem HRel.merge (h : HRel σ A L) {k fam E tot esz b bj q : Nat} {wr : Bool} {cs : List AV} {x : Option Nat} {oj : AO} {M : Heap} (hk : A.get k = some (.cells fam E wr cs tot esz x)) (hb : σ.num k = some b) (hlt : A.nxt < nameMax)
    (hM : (bj = b ∧ ∃ c c' : Array Value, L b = some (.cells c E (0, 0)) ∧ M = upd L b (.cells c' E (0, 0)) ∧ c'.size = c.size ∧ ∀ i, i < q → c'[i]? = c[i]?) ∨ (L bj = none ∧ ∃ ob, M = upd L bj ob))
    (hB : BRel (σ.set A.nxt (.n bj)) M A.nxt oj) (hfo : famOf oj = some fam) :
    Le σ (σ.set A.nxt (.n bj)) ∧ HRel (σ.set A.nxt (.n bj)) (AH.mk (A.nxt + 1) (truncAll q A.nxt (members A fam k) (A.tab.set 24 A.nxt oj)) ((fam, A.nxt :: members A fam k) :: A.fams)) M := by
  have hn : σ A.nxt = none := h.dom _ (Nat.le_refl _)
  have hl := Le.set (.n bj) hn
  obtain ⟨mem, hmem⟩ : ∃ mem, mem = members A fam k := ⟨_, rfl⟩
  rw [← hmem]
  have hin : ∀ m o, A.get m = some o → famOf o = some fam → m ∈ mem := fun m o hm hf => by
    rw [hmem]
    unfold members
    cases hfm : Tri.get A.fams fam with
    | some l => exact h.fm m o fam l hm hf hfm
    | none =>
      have e1 := h.fs m o fam hm hf hfm
      have e2 := h.fs k _ fam hk rfl hfm
      simp [e1, e2]
  have hkey : ∀ j p, (A.tab.set 24 A.nxt oj).get j = some p → j < nameMax := fun j p hj => by
    rw [Tab.get_set24 hlt] at hj
    split at hj
    · rename_i e; subst e; exact hlt
    · exact h.key j p hj
  have hnone : A.get A.nxt = none := by
    cases hg : A.get A.nxt with
    | none => rfl
    | some p => exact absurd (h.lt hg) (Nat.lt_irrefl _)
  obtain ⟨B, hBd⟩ : ∃ B : AH, B = AH.mk (A.nxt + 1) (truncAll q A.nxt mem (A.tab.set 24 A.nxt oj)) ((fam, A.nxt :: mem) :: A.fams) := ⟨_, rfl⟩
  rw [← hBd]
  have hg : ∀ m, B.get m = if m = A.nxt then some oj else (A.get m).map fun p => if m ∈ mem then truncO q p else p := fun m => by
    rw [hBd]
    show (truncAll q A.nxt mem (A.tab.set 24 A.nxt oj)).get m = _
    rw [truncAll_get mem _ hkey m, Tab.get_set24 hlt]
    by_cases e : m = A.nxt
    · subst e; simp
    · rw [if_neg e, if_neg e]
      show (A.get m).map _ = _
      congr 1; funext p
      simp [e]
  have back : ∀ {m o}, B.get m = some o → (m = A.nxt ∧ o = oj) ∨ (m ≠ A.nxt ∧ ∃ p, A.get m = some p ∧ o = (if m ∈ mem then truncO q p else p) ∧ famOf p = famOf o) := fun {m o} hm => by
    rw [hg] at hm
    split at hm
    · rename_i e; cases hm; exact .inl ⟨e, rfl⟩
    · rename_i e
      cases hp : A.get m with
      | none => rw [hp] at hm; cases hm
      | some p =>
        rw [hp] at hm
        simp only [Option.map_some, Option.some.injEq] at hm
        refine .inr ⟨e, p, rfl, hm.symm, ?_⟩
        rw [← hm]
        split
        · exact (truncO_fam _ _).symm
        · rfl
  have hnxt : B.nxt = A.nxt + 1 := by rw [hBd]
  have hfams : B.fams = (fam, A.nxt :: mem) :: A.fams := by rw [hBd]
  refine ⟨hl, fun m hm => ?_, fun m o hm => ?_, fun m o hm => ?_, fun m j om oj' b' hm hj hmb hjb => ?_, fun m o f hm hf => ?_, fun m o f l hm hf hfl => ?_, fun m o f hm hf hfl => ?_, fun f l hfl => ?_⟩
  · rw [hnxt] at hm; rw [Sg.set_other _ _ (by omega)]; exact h.dom m (by omega)
  · rcases back hm with ⟨e, _⟩ | ⟨_, p, hp, _⟩
    · rw [e]; exact hlt
    · exact h.key m p hp
  · rcases back hm with ⟨e, e2⟩ | ⟨e, p, hp, ho, _⟩
    · rw [e, e2]; exact hB
    · obtain ⟨bm, xm, hbm, hxm⟩ := (h.blk m p hp).num
      have other : (∀ y, L bm = some y → M bm = some y) → BRel (σ.set A.nxt (.n bj)) M m o := fun hy => by
        have := (h.blk m p hp).mono hl (M := M) fun b' y hb' hy' => by rw [hbm] at hb'; cases hb'; exact hy y hy'
        rw [ho]
        split
        · exact this.trunc
        · exact this
      rcases hM with ⟨_, c, c', hc, hM, hsz, hlow⟩ | ⟨hfr, ob, hM⟩
      · by_cases eb : bm = b
        · subst eb
          have hmf : famOf p = some fam := by
            rcases h.inj k m _ _ bm hk hp hb hbm with e1 | ⟨f, r1, r2⟩
            · subst e1; rw [hk] at hp; cases hp; rfl
            · cases r1; exact r2
          rw [if_pos (hin m p hp hmf)] at ho
          have hBm := h.blk m p hp
          cases p with
          | cells fam' E' wr' csm tot' esz' x' =>
            obtain ⟨b0, e0, c0, fz, vs, h1, h2, h3, h4, h5, h6, h7⟩ := hBm
            rw [hbm] at h1; cases h1
            rw [hc] at h3; cases h3
            rw [ho]
            refine ⟨bm, e0, c', (0, 0), vs.take q, hl.num hbm, hl.ext h2, by rw [hM]; exact upd_same _ _ _, fun _ => rfl, hsz.trans h5, reals_mono hl (reals_take h6 q), fun i v hi => ?_⟩
            rw [List.getElem?_take] at hi
            split at hi
            · rename_i hio; rw [hlow i hio]; exact h7 i v hi
            · cases hi
          | iter s pos =>
            obtain ⟨b0, h1, h2⟩ := hBm
            rw [hbm] at h1; cases h1
            rw [hc] at h2; cases h2
          | loop st pd n e ps as bd =>
            obtain ⟨b0, fn, t, D, h1, h2, _⟩ := hBm
            rw [hbm] at h1; cases h1
            rw [hc] at h2; cases h2
        · exact other fun y hy => by rw [hM, upd_other _ _ eb]; exact hy
      · refine other fun y hy => ?_
        rw [hM, upd_other]
        · exact hy
        · intro e9; subst e9; rw [hfr] at hy; cases hy
  · have key : ∀ {m o}, B.get m = some o → m ≠ A.nxt → (σ.set A.nxt (.n bj)).num m = some bj → ∃ f, famOf o = some f ∧ famOf oj = some f := fun {m o} hm hne hmb => by
      rcases back hm with ⟨e, _⟩ | ⟨e, p, hp, _, hpf⟩
      · exact absurd e hne
      · rw [num_set_other _ _ e] at hmb
        rcases hM with ⟨rfl, _⟩ | ⟨hfr, _⟩
        · rcases h.inj k m _ _ bj hk hp hb hmb with e1 | ⟨f, r1, r2⟩
          · subst e1; rw [hk] at hp; cases hp; exact ⟨fam, hpf ▸ rfl, hfo⟩
          · cases r1; exact ⟨fam, hpf ▸ r2, hfo⟩
        · obtain ⟨b2, x2, q1, q2⟩ := (h.blk m p hp).num
          rw [hmb] at q1; cases q1; rw [hfr] at q2; cases q2
    by_cases e1 : m = A.nxt <;> by_cases e2 : j = A.nxt
    · exact .inl (e1.trans e2.symm)
    · rw [e1, num_set_same] at hmb; cases hmb
      obtain ⟨f, r1, r2⟩ := key hj e2 hjb
      rcases back hm with ⟨_, e3⟩ | ⟨e3, _⟩
      · subst e3; exact .inr ⟨f, r2, r1⟩
      · exact absurd e1 e3
    · rw [e2, num_set_same] at hjb; cases hjb
      obtain ⟨f, r1, r2⟩ := key hm e1 hmb
      rcases back hj with ⟨_, e3⟩ | ⟨e3, _⟩
      · subst e3; exact .inr ⟨f, r1, r2⟩
      · exact absurd e2 e3
    · rw [num_set_other _ _ e1] at hmb
      rw [num_set_other _ _ e2] at hjb
      rcases back hm with ⟨e3, _⟩ | ⟨_, p1, hp1, _, hf1⟩
      · exact absurd e3 e1
      · rcases back hj with ⟨e3, _⟩ | ⟨_, p2, hp2, _, hf2⟩
        · exact absurd e3 e2
        · rw [← hf1, ← hf2]; exact h.inj m j p1 p2 b' hp1 hp2 hmb hjb
  · have hfk := h.fam k _ fam hk rfl
    rcases back hm with ⟨_, e2⟩ | ⟨_, p, hp, _, hpf⟩
    · subst e2; rw [hfo] at hf; cases hf; omega
    · have := h.fam m p f hp (hpf ▸ hf); omega
  · rw [hfams] at hfl
    by_cases ef : fam = f
    · subst ef
      rw [get_cons_same] at hfl; cases hfl
      rcases back hm with ⟨e, _⟩ | ⟨_, p, hp, _, hpf⟩
      · rw [e]; exact List.mem_cons_self ..
      · exact List.mem_cons_of_mem _ (hin m p hp (hpf ▸ hf))
    · rw [get_cons_other _ _ ef] at hfl
      rcases back hm with ⟨_, e2⟩ | ⟨_, p, hp, _, hpf⟩
      · subst e2; rw [hfo] at hf; cases hf; exact absurd rfl ef
      · exact h.fm m p f l hp (hpf ▸ hf) hfl
  · rw [hfams] at hfl
    by_cases ef : fam = f
    · subst ef; rw [get_cons_same] at hfl; cases hfl
    · rw [get_cons_other _ _ ef] at hfl
      rcases back hm with ⟨_, e2⟩ | ⟨_, p, hp, _, hpf⟩
      · subst e2; rw [hfo] at hf; cases hf; exact absurd rfl ef
      · exact h.fs m p f hp (hpf ▸ hf) hfl
  · rw [hfams] at hfl
    by_cases ef : fam = f
    · subst ef; have := h.fam k _ fam hk rfl; omega
    · rw [get_cons_other _ _ ef] at hfl
      have := h.fk f l hfl; omega
end
end Go.Proofs.YtmcaejnofmbilaaGreat.Tri
