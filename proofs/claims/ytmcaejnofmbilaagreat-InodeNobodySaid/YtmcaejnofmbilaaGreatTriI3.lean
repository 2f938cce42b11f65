/- Regions whose order is drawn: the law. -/
import Derived.Test.YtmcaejnofmbilaaGreatTriI2
namespace Go.Proofs.YtmcaejnofmbilaaGreat.Tri
set_option linter.all false
open Go.RowKit
section
variable {P : Program} {R : Rl} {cfg : Cfg} {n m : Nat} {ds : Dq} {ro : Option Nat} {β : Nat → Nat} {e : Env} {bx : Bx} {L : Heap} {a : Act} {w : World} {Q : Exit → Act → World → Prop}
variable {ops : Array Oper} {S : Nat → Prop} {H : List (Nat × Nat)} {E : List Nat} {pend : List (Nat × Oper × SV)} {Kq : Env → Bx → Heap → Prop}

theorem get_cons_keep {t d : Nat} {s : SV} {r : Env} (h : d ≠ t) : get ((d, s) :: r) t = get r t := get_cons_other _ _ h

theorem depsOK_mono {E : List Nat} {l : List Edge} {j : Nat} (h : depsOK E l = true) : depsOK (j :: E) l = true :=
  depsOK_spec.2 fun ed hed hb => List.mem_cons_of_mem _ (depsOK_spec.1 h ed hed hb)
theorem late_op {o : Oper} (h : allocLate P cfg n o = true) : ∃ T d z, o.op = .alloc T ∧ o.dst = some d ∧ o.guard = none ∧ zeroOf P T = some z ∧ (cfg.pr && memN d cfg.prom) = false ∧ d < n := by
  unfold allocLate at h
  split at h
  · rename_i T hT
    split at h
    · rename_i d z hd hg hz
      split at h
      · cases h
      · rename_i hp
        exact ⟨T, d, z, hT, hd, hg, hz, hp, by simpa [Nat.blt_eq] using h⟩
    · cases h
  · cases h
theorem late_mov {o : Oper} (h : allocLate P cfg n o = true) : movable P o = false := by
  obtain ⟨T, d, z, hT, _⟩ := late_op h
  simp [movable, hT]
/-- A movable operation is evaluated. -/
theorem eval_mov (hf : formAll P ops 0 ops.toList = true) (h : DI P cfg R n ds ops S H E pend e bx L β a w) {i : Nat} {o : Oper} (hi : ops[i]? = some o) (hiE : i ∉ E) (hdep : depsOK E o.after.toList = true) (hm : movable P o = true)
    {s : SV} {e' : Env} {pend' : List (Nat × Oper × SV)} (he' : (o.dst = none ∧ e' = e) ∨ ∃ d, o.dst = some d ∧ d < n ∧ e' = (d, s) :: e) {g : Bool} (hg : svcGuard ops e o = some g) (hgf : g = false → s = .v undef)
    (hgt : g = true → (∀ K' : SV → Bx → Heap → Prop, K' s bx L → svcOp P cfg e bx L o K') ∧ (memDep o = true → (i, o, s) ∈ pend') ∧ (memDep o = false → ∀ bx2 L2 (K' : SV → Bx → Heap → Prop), K' s bx2 L2 → svcOp P cfg e bx2 L2 o K'))
    (hp : ∀ x ∈ pend, x ∈ pend') : DI P cfg R n ds ops S H (i :: E) pend' e' bx L β a w := by
  have hdep' := depsOK_spec.1 hdep
  have hget : ∀ t, o.dst ≠ some t → get e' t = get e t := fun t ht => by
    rcases he' with ⟨_, rfl⟩ | ⟨d, hd, _, rfl⟩
    · rfl
    · exact get_cons_keep fun e1 => ht (e1 ▸ hd)
  have hself : ∀ t ∈ o.looksAt ops, get e t = get e' t := fun t ht => (hget t fun hd => form_self hf hi hd hm ht).symm
  refine ⟨h.base, fun t s0 hs0 => ?_, h.clS, ⟨hiE, ⟨o, hi, fun ed hed hb => hdep' ed (by simpa using hed) hb⟩, h.ord⟩, fun j hj => (h.sub j hj).imp (List.mem_cons_of_mem _) id, fun j b hj => ?_, h.hnd, fun j hj hjS => ?_, fun t s0 hs0 hno hno2 => ?_⟩
  · rcases he' with ⟨_, rfl⟩ | ⟨d, hd, hlt, rfl⟩
    · exact h.sml t s0 hs0
    · by_cases e1 : d = t
      · subst e1; exact hlt
      · rw [get_cons_keep e1] at hs0; exact h.sml t s0 hs0
  · obtain ⟨q1, q2, o1, T, z, d, q3, q4, q5, q6, q7, q8, q9, q10⟩ := h.lat j b hj
    refine ⟨q1, fun h9 => ?_, o1, T, z, d, q3, q4, q5, q6, q7, depsOK_mono q8, q9, q10⟩
    rcases List.mem_cons.1 h9 with e9 | h9
    · subst e9; rw [hi] at q3; cases q3; rw [late_mov q4] at hm; cases hm
    · exact q2 h9
  · rcases List.mem_cons.1 hj with rfl | hjE
    · refine ⟨o, hi, hm, g, s, by rw [← svcGuard_congr hself]; exact hg, fun d hd => ?_, hgf, fun h1 => ?_⟩
      · rcases he' with ⟨hn, _⟩ | ⟨d', hd', hlt, rfl⟩
        · rw [hd] at hn; cases hn
        · rw [hd] at hd'; cases hd'
          exact ⟨hlt, get_cons_same _ _ _⟩
      · obtain ⟨q1, q2, q3⟩ := hgt h1
        exact ⟨fun K' hk => svcOp_congr hm (looks_evs hself) (q1 K' hk), q2, fun hmd bx2 L2 K' hk => svcOp_congr hm (looks_evs hself) (q3 hmd bx2 L2 K' hk)⟩
    · obtain ⟨oj, hoj, hpj⟩ := h.pen j hjE hjS
      have hne : i ≠ j := fun e1 => hiE (e1 ▸ hjE)
      have no : ∀ t, (oj.dst = some t ∨ t ∈ oj.looksAt ops) → o.dst ≠ some t := fun t ht hd => by
        rcases form_other hf hi hoj hne hd ht with h1 | ⟨h1, _⟩
        · exact hiE (behind_sub h.ord.closed 4096 [j] [] (fun k hk => by simp at hk; exact hk ▸ hjE) (fun k hk => by simp at hk) i h1)
        · rw [hm] at h1; cases h1
      exact ⟨oj, hoj, hpj.keep (fun t ht => (hget t (no t (.inr ht))).symm) (fun d hd => hget d (no d (.inl hd))) fun s1 _ hin _ hop => ⟨hp _ hin, hop⟩⟩
  · have hd : o.dst ≠ some t := by
      refine hno i (List.mem_cons_self ..) (fun hiS => ?_) o hi
      rcases h.sub i hiS with h9 | ⟨b, h9⟩
      · exact hiE h9
      · obtain ⟨q1, q2, o1, T, z, d, q3, q4, _⟩ := h.lat i b h9
        rw [hi] at q3; cases q3; rw [late_mov q4] at hm; cases hm
    rw [hget t hd] at hs0
    exact h.val t s0 hs0 (fun j hj hjS => hno j (List.mem_cons_of_mem _ hj) hjS) hno2

/-- All that is movable and may come now is evaluated. -/
theorem saturate (hf : formAll P ops 0 ops.toList = true) : ∀ (f : Nat) (E : List Nat) (pend : List (Nat × Oper × SV)) (e : Env), DI P cfg R n ds ops S H E pend e bx L β a w → svcD P cfg n ops f E pend e bx L Kq →
    ∃ f' E' pend' e', DI P cfg R n ds ops S H E' pend' e' bx L β a w ∧ svcD P cfg n ops (f' + 1) E' pend' e' bx L Kq ∧ readyAt P ops.toList E' true 0 ops.toList = []
  | 0, E, pend, e, _, hs => by unfold svcD at hs; exact hs.elim
  | f + 1, E, pend, e, h, hs => by
    cases hr : readyAt P ops.toList E true 0 ops.toList with
    | nil => exact ⟨f, E, pend, e, h, hs, hr⟩
    | cons io rest =>
      obtain ⟨i, o⟩ := io
      have hmem : (i, o) ∈ readyAt P ops.toList E true 0 ops.toList := by rw [hr]; exact List.mem_cons_self ..
      obtain ⟨_, ho, hiE, hdep, hm⟩ := mem_readyAt.1 hmem
      have hi : ops[i]? = some o := by simpa using ho
      unfold svcD at hs
      rw [hr] at hs
      simp only at hs
      split at hs
      · rename_i g hg
        cases g with
        | true =>
          simp only [pIf] at hs
          obtain ⟨s, hk, h1, h2⟩ := svcOp_mov hm hs
          obtain ⟨e', hk, he'⟩ := putS_spec (splitS_elim hk)
          refine saturate hf f _ _ e' ?_ hk
          refine eval_mov hf h hi hiE hdep hm he' hg (fun h => by cases h) (fun _ => ⟨h1, fun hmd => ?_, h2⟩) fun x hx => ?_
          · rw [hmd]; exact List.mem_cons_self ..
          · split
            · exact List.mem_cons_of_mem _ hx
            · exact hx
        | false =>
          simp only [pIf] at hs
          obtain ⟨e', hk, he'⟩ := putS_spec hs
          refine saturate hf f _ _ e' ?_ hk
          exact eval_mov hf h hi hiE hdep hm he' hg (fun _ => rfl) (fun h => by cases h) fun x hx => hx
      · exact hs.elim

theorem keepPend_mem {bh : List Nat} {x : Nat × Oper × SV} : ∀ {l : List (Nat × Oper × SV)}, x ∈ keepPend bh l ↔ x ∈ l ∧ x.1 ∉ bh
  | [] => by simp [keepPend]
  | p :: r => by
    unfold keepPend
    cases hm : memN p.1 bh with
    | true =>
      simp only [List.mem_cons]
      rw [keepPend_mem]
      constructor
      · exact fun h => ⟨.inr h.1, h.2⟩
      · rintro ⟨rfl | h1, h2⟩
        · exact absurd (memN_iff.1 hm) h2
        · exact ⟨h1, h2⟩
    | false =>
      simp only [List.mem_cons]
      rw [keepPend_mem]
      constructor
      · rintro (rfl | h)
        · exact ⟨.inl rfl, fun h => by rw [memN_iff.2 h] at hm; cases hm⟩
        · exact ⟨.inr h.1, h.2⟩
      · rintro ⟨rfl | h1, h2⟩
        · exact .inl rfl
        · exact .inr ⟨h1, h2⟩
theorem recheck_spec {A : Prop} : ∀ {l : List (Nat × Oper × SV)}, recheck P cfg e bx L l A → A ∧ ∀ x ∈ l, svcOp P cfg e bx L x.2.1 (fun s _ _ => s = x.2.2)
  | [], h => ⟨h, fun x hx => by simp at hx⟩
  | p :: r, h => by
    obtain ⟨h1, h2⟩ := h
    obtain ⟨h3, h4⟩ := recheck_spec h2
    refine ⟨h3, fun x hx => ?_⟩
    rcases List.mem_cons.1 hx with rfl | hx
    · exact h1
    · exact h4 x hx
theorem allP_mem {α : Type} {f : α → Prop} : ∀ {l : List α}, allP f l → ∀ x ∈ l, f x
  | [], _, x, hx => by simp at hx
  | [y], h, x, hx => by simp only [List.mem_singleton] at hx; subst hx; exact h
  | y :: z :: r, h, x, hx => by
    obtain ⟨h1, h2⟩ := h
    rcases List.mem_cons.1 hx with rfl | hx
    · exact h1
    · exact allP_mem (l := z :: r) h2 x hx
theorem svcOp_calm {o : Oper} {K : SV → Bx → Heap → Prop} (ht : touches o = false) (h : svcOp P cfg e bx L o K) : svcOp P cfg e bx L o (fun s bx' M => (bx' = bx ∧ M = L) ∧ K s bx' M) := by
  unfold touches at ht
  split at ht
  · rename_i x hx
    unfold svcOp at h ⊢
    have hp : pureOp P e o = evs e x := by unfold pureOp; simp [hx]
    simp only [hp, hx] at h ⊢
    cases he : evs e x with
    | none => rw [he] at h; exact h.elim
    | some s => rw [he] at h; exact ⟨⟨trivial, trivial⟩, h⟩
  · cases ht

/-- An operation that may not be moved is carried out. -/
theorem run_new (hR : RK cfg R) (hf : formAll P ops 0 ops.toList = true) (h : DI P cfg R n ds ops S H E pend e bx L β a w) {j : Nat} {oj : Oper} (hj : ops[j]? = some oj) (hr : ∀ ed ∈ oj.after, bindsAny ed = true → S ed.on) (hjE : j ∉ E) (hjS : ¬ S j) (hdep : depsOK E oj.after.toList = true)
    {D : List (Nat × Oper × SV) → Env → Bx → Heap → Prop}
    (hs : match svcGuard ops e oj with
        | some g => pIf g
            (svcOp P cfg e bx L oj fun s bx' M => recheckIf (touches oj) P cfg e bx' M (keepPend (behind ops.toList 4096 [j] []) pend) (splitS (isSrcL j ops.toList) s fun s' => putS n oj.dst e s' fun e' =>
              D (keepPend (behind ops.toList 4096 [j] []) pend) e' bx' M))
            (putS n oj.dst e (.v undef) fun e' => D (keepPend (behind ops.toList 4096 [j] []) pend) e' bx L)
        | none => False)
    {K : Act → World → Prop} (hK : ∀ pend' e' bx' M β' a' w', DI P cfg R n ds ops (fun i => S i ∨ i = j) H (j :: E) pend' e' bx' M β' a' w' → D pend' e' bx' M → K a' w') : wpOpIn (WF ro) m P ops Q j K a w := by
  have hbh := behind_new h.ord hj fun ed hed hb => depsOK_spec.1 hdep ed (by simpa using hed) hb
  have hag := agree_looks hf h hj hr (fun h1 => absurd h1 hjE) hjS hbh
  have hcl : Closed ops fun i => S i ∨ i = j := fun i hi o ho ed hed hb => by
    rcases hi with hi | rfl
    · exact .inl (h.clS i hi o ho ed hed hb)
    · rw [hj] at ho; cases ho; exact .inl (hr ed hed hb)
  have hdep' := depsOK_spec.1 hdep
  have hbr := behind_ready h.clS hj hr
  -- the state behind it
  have mk : ∀ s bx' M β' w' e', ((oj.dst = none ∧ e' = e) ∨ ∃ d, oj.dst = some d ∧ d < n ∧ e' = (d, s) :: e) → Base R n ds β' bx' M (a.put oj.dst (sval β' s)) w' → (∀ t s, get e t = some s → sval β' s = sval β s) →
      (∀ x ∈ keepPend (behind ops.toList 4096 [j] []) pend, memDep x.2.1 = true → movable P x.2.1 = true → (∀ K' : SV → Bx → Heap → Prop, K' x.2.2 bx L → svcOp P cfg e bx L x.2.1 K') → ∀ K' : SV → Bx → Heap → Prop, K' x.2.2 bx' M → svcOp P cfg e bx' M x.2.1 K') →
      DI P cfg R n ds ops (fun i => S i ∨ i = j) H (j :: E) (keepPend (behind ops.toList 4096 [j] []) pend) e' bx' M β' (a.put oj.dst (sval β' s)) w' := by
    intro s bx' M β' w' e' he' hB hβ hpm
    have hget : ∀ t, oj.dst ≠ some t → get e' t = get e t := fun t ht => by
      rcases he' with ⟨_, rfl⟩ | ⟨d, hd, _, rfl⟩
      · rfl
      · exact get_cons_keep fun e1 => ht (e1 ▸ hd)
    refine ⟨hB, fun t s0 hs0 => ?_, hcl, ⟨hjE, ⟨oj, hj, fun ed hed hb => hdep' ed (by simpa using hed) hb⟩, h.ord⟩, fun i hi => ?_, fun i b hi => ?_, h.hnd, fun i hi hiS => ?_, fun t s0 hs0 hno hno2 => ?_⟩
    · rcases he' with ⟨_, rfl⟩ | ⟨d, hd, hlt, rfl⟩
      · exact h.sml t s0 hs0
      · by_cases e1 : d = t
        · subst e1; exact hlt
        · rw [get_cons_keep e1] at hs0; exact h.sml t s0 hs0
    · rcases hi with hi | rfl
      · exact (h.sub i hi).imp (List.mem_cons_of_mem _) id
      · exact .inl (List.mem_cons_self ..)
    · obtain ⟨q1, q2, o1, T, z, d, q3, q4, q5, q6, q7, q8, q9, q10⟩ := h.lat i b hi
      refine ⟨.inl q1, fun h9 => ?_, o1, T, z, d, q3, q4, q5, q6, q7, depsOK_mono q8, ?_, q10⟩
      · rcases List.mem_cons.1 h9 with e9 | h9
        · subst e9; exact hjS q1
        · exact q2 h9
      · rw [put_getD_ne fun hd => no_late hf h hj hjS hbh hi q3 q6 (.inl hd)]; exact q9
    · have hij : i ≠ j := fun e1 => hiS (.inr e1)
      have hiS' : ¬ S i := fun h1 => hiS (.inl h1)
      have hiE : i ∈ E := (List.mem_cons.1 hi).resolve_left hij
      obtain ⟨oi, hoi, hpi⟩ := h.pen i hiE hiS'
      have hnb : i ∉ behind ops.toList 4096 [j] [] := fun hb => (hbr i hb).elim hiS' hij
      have no : ∀ t, (oi.dst = some t ∨ t ∈ oi.looksAt ops) → oj.dst ≠ some t := fun t ht hd => by
        rcases form_other hf hj hoi (Ne.symm hij) hd ht with h1 | ⟨_, h1⟩
        · exact hjE (behind_sub h.ord.closed 4096 [i] [] (fun k hk => by simp at hk; exact hk ▸ hiE) (fun k hk => by simp at hk) j h1)
        · exact hnb h1
      refine ⟨oi, hoi, hpi.keep (fun t ht => (hget t (no t (.inr ht))).symm) (fun d hd => hget d (no d (.inl hd))) fun s1 hmd hin _ hop => ?_⟩
      have hin' : (i, oi, s1) ∈ keepPend (behind ops.toList 4096 [j] []) pend := keepPend_mem.2 ⟨hin, hnb⟩
      exact ⟨hin', hpm (i, oi, s1) hin' hmd hpi.mov hop⟩
    · by_cases hd : oj.dst = some t
      · rcases he' with ⟨hn, _⟩ | ⟨d, hd', hlt, rfl⟩
        · rw [hd] at hn; cases hn
        · rw [hd] at hd'; cases hd'
          rw [get_cons_same] at hs0; cases hs0
          rw [hd]; exact put_getD_eq (by rw [h.base.siz]; exact hlt)
      · rw [hget t hd] at hs0
        rw [put_getD_ne hd, hβ t s0 hs0]
        exact h.val t s0 hs0 (fun i hi hiS => hno i (List.mem_cons_of_mem _ hi) fun h1 => h1.elim hiS fun e1 => hjE (e1 ▸ hi)) hno2
  unfold wpOpIn
  simp only [hj]
  split at hs
  · rename_i g hg
    have hwant := guard_at h.base h.sml hag hg
    cases g with
    | true =>
      rw [if_pos hwant]
      simp only [pIf] at hs
      cases ht : touches oj with
      | true =>
        rw [ht] at hs
        refine svcOp_at hR h.base h.sml hag hs fun s bx' M β' w' hk hB hβ => ?_
        simp only [recheckIf] at hk
        obtain ⟨hk, hre⟩ := recheck_spec hk
        obtain ⟨e', hk, he'⟩ := putS_spec (splitS_elim hk)
        refine hK _ _ _ _ _ _ _ (mk s bx' M β' w' e' he' hB hβ fun x hx hmd hmv _ K' hk' => ?_) hk
        obtain ⟨s1, q1, q2, _⟩ := svcOp_mov hmv (hre x hx)
        subst q1
        exact q2 K' hk'
      | false =>
        rw [ht] at hs
        refine svcOp_at hR h.base h.sml hag (svcOp_calm ht hs) fun s bx' M β' w' hk hB hβ => ?_
        obtain ⟨⟨rfl, rfl⟩, hk⟩ := hk
        simp only [recheckIf] at hk
        obtain ⟨e', hk, he'⟩ := putS_spec (splitS_elim hk)
        exact hK _ _ _ _ _ _ _ (mk s _ _ β' w' e' he' hB hβ fun x hx hmd hmv hop => hop) hk
    | false =>
      rw [if_neg (by rw [hwant]; simp)]
      refine ⟨fun _ _ => trivial, ?_⟩
      simp only [pIf] at hs
      obtain ⟨e', hk, he'⟩ := putS_spec hs
      exact hK _ _ _ _ _ _ _ (mk (.v undef) bx L β w e' he' (h.base.put _ _) (fun _ _ _ => rfl) fun x hx hmd hmv hop => hop) hk
  · exact hs.elim

/-! late operations -/
theorem nodup_snd {α β : Type} : ∀ {H : List (α × β)}, (H.map (·.2)).Nodup → ∀ {i j b}, (i, b) ∈ H → (j, b) ∈ H → i = j
  | [], _, i, j, b, hi, _ => by cases hi
  | p :: r, hn, i, j, b, hi, hj => by
    simp only [List.map_cons, List.nodup_cons] at hn
    rcases List.mem_cons.1 hi with e1 | h1 <;> rcases List.mem_cons.1 hj with e2 | h2
    · rw [← e1] at e2; exact (Prod.mk.inj e2).1.symm
    · subst e1; exact absurd (List.mem_map.2 ⟨_, h2, rfl⟩) hn.1
    · subst e2; exact absurd (List.mem_map.2 ⟨_, h1, rfl⟩) hn.1
    · exact nodup_snd hn.2 h1 h2
/-- The walk comes to a late operation that the machine has carried out. -/
theorem claim_late (hR : RK cfg R) (hf : formAll P ops 0 ops.toList = true) (h : DI P cfg R n ds ops S H E pend e bx L β a w) {i b : Nat} {oi : Oper} (hi : (i, b) ∈ H) (ho : ops[i]? = some oi)
    {D : List (Nat × Oper × SV) → Env → Bx → Heap → Prop}
    (hs : match svcGuard ops e oi with
        | some g => pIf g
            (svcOp P cfg e bx L oi fun s bx' M => recheckIf (touches oi) P cfg e bx' M (keepPend (behind ops.toList 4096 [i] []) pend) (splitS (isSrcL i ops.toList) s fun s' => putS n oi.dst e s' fun e' =>
              D (keepPend (behind ops.toList 4096 [i] []) pend) e' bx' M))
            (putS n oi.dst e (.v undef) fun e' => D (keepPend (behind ops.toList 4096 [i] []) pend) e' bx L)
        | none => False) :
    ∃ ds' H' pend' e' M, ds'.lo = ds.lo ∧ ds'.l = ds.l ∧ H'.length < H.length ∧ DI P cfg R n ds' ops S H' (i :: E) pend' e' bx M β a w ∧ D pend' e' bx M := by
  obtain ⟨q1, q2, o1, T, z, d, q3, q4, q5, q6, q7, q8, q9, q10⟩ := h.lat i b hi
  rw [ho] at q3; cases q3
  obtain ⟨T', d', z', r1, r2, r3, r4, r5, r6⟩ := late_op q4
  rw [q5] at r1; cases r1
  rw [q6] at r2; cases r2
  rw [q7] at r4; cases r4
  have hH := h.base.hid _ q10
  have hgd : svcGuard ops e oi = some true := by unfold svcGuard; rw [r3]
  rw [hgd] at hs
  simp only [pIf] at hs
  have ht : touches oi = true := by unfold touches; rw [q5]
  rw [ht] at hs
  unfold svcOp at hs
  have hp : pureOp P e oi = none := by unfold pureOp; simp [q5]
  simp only [hp, q5, q7, q6, svcAlloc, r5, recheckIf] at hs
  have hk := hs b _ hH.none rfl
  obtain ⟨hk, hre⟩ := recheck_spec hk
  obtain ⟨e', hk, he'⟩ := putS_spec (splitS_elim hk)
  rcases he' with ⟨hn, _⟩ | ⟨d2, hd2, hlt, rfl⟩
  · cases hn
  cases hd2
  have hinj : ∀ {j b'}, (j, b') ∈ H → j ≠ i → b' ≠ b := fun {j b'} hj hne e9 => hne (nodup_snd h.hnd.2 (by subst e9; exact hj) hi)
  refine ⟨{ ds with hid := ds.hid.filter fun p => !(Nat.beq p.1 b) }, H.filter fun p => !(Nat.beq p.1 i), _, _, _, rfl, rfl, ?_, ?_, hk⟩
  · have : ∀ (l : List (Nat × Nat)), (i, b) ∈ l → (l.filter fun p => !(Nat.beq p.1 i)).length < l.length := by
      intro l hl
      rw [List.length_filter_lt_length_iff_exists]
      exact ⟨_, hl, by simp⟩
    exact this H hi
  have hb_cells : w.heap[b]? = some (Obj.cells z.cells T (0, 0)) := hH.here
  have hmemH : ∀ {j b'}, (j, b') ∈ H.filter (fun p => !(Nat.beq p.1 i)) ↔ (j, b') ∈ H ∧ j ≠ i := by
    intro j b'
    rw [List.mem_filter]
    constructor
    · rintro ⟨h1, h2⟩
      exact ⟨h1, fun e9 => by subst e9; simp at h2⟩
    · rintro ⟨h1, h2⟩
      refine ⟨h1, ?_⟩
      cases hb : Nat.beq j i with
      | true => exact absurd (Nat.eq_of_beq_eq_true hb) h2
      | false => simp [hb]
  have hnob : ∀ j ∈ behind ops.toList 4096 [i] [], S j := behind_sub (C := fun k => S k) h.clS 4096 [i] [] (fun k hk => by simp at hk; exact hk ▸ q1) (fun k hk => by simp at hk)
  refine ⟨⟨hR.claim hH.late h.base.inv hH.here hH.none hH.box, h.base.siz, h.base.dfr, fun D' hD' => ?_, h.base.nod, h.base.low, fun p hp => ?_⟩, fun t s0 hs0 => ?_, h.clS, ⟨q2, ⟨oi, ho, fun ed hed hb => depsOK_spec.1 q8 ed (by simpa using hed) hb⟩, h.ord⟩,
    fun j hj => ?_, fun j b' hj => ?_, ⟨?_, ?_⟩, fun j hj hjS => ?_, fun t s0 hs0 hno hno2 => ?_⟩
  · obtain ⟨k1, k2, k3⟩ := h.base.mrk D' hD'
    refine ⟨k1, ?_, k3⟩
    rw [upd_other _ _ fun e9 => by subst e9; rw [hb_cells] at k1; cases k1]; exact k2
  · obtain ⟨hp1, hp2⟩ := List.mem_filter.1 hp
    have hne : p.1 ≠ b := fun e9 => by rw [e9] at hp2; simp at hp2
    obtain ⟨k1, k2, k3, k4⟩ := h.base.hid p hp1
    exact ⟨k1, by rw [upd_other _ _ hne]; exact k2, k3, k4⟩
  · by_cases e1 : d = t
    · subst e1; exact hlt
    · rw [get_cons_keep e1] at hs0; exact h.sml t s0 hs0
  · rcases h.sub j hj with h9 | ⟨b', h9⟩
    · exact .inl (List.mem_cons_of_mem _ h9)
    · by_cases e9 : j = i
      · subst e9; exact .inl (List.mem_cons_self ..)
      · exact .inr ⟨b', hmemH.2 ⟨h9, e9⟩⟩
  · obtain ⟨hj1, hj2⟩ := hmemH.1 hj
    obtain ⟨k1, k2, o2, T2, z2, d2, k3, k4, k5, k6, k7, k8, k9, k10⟩ := h.lat j b' hj1
    refine ⟨k1, fun h9 => (List.mem_cons.1 h9).elim hj2 k2, o2, T2, z2, d2, k3, k4, k5, k6, k7, depsOK_mono k8, k9, List.mem_filter.2 ⟨k10, ?_⟩⟩
    cases hb : Nat.beq b' b with
    | true => exact absurd (Nat.eq_of_beq_eq_true hb) (hinj hj1 hj2)
    | false => simp [hb]
  · exact h.hnd.1.sublist (List.filter_sublist.map _)
  · exact h.hnd.2.sublist (List.filter_sublist.map _)
  · have hji : j ≠ i := fun e9 => hjS (e9 ▸ q1)
    have hjE : j ∈ E := (List.mem_cons.1 hj).resolve_left hji
    obtain ⟨oj, hoj, hpj⟩ := h.pen j hjE hjS
    have no : ∀ t, (oj.dst = some t ∨ t ∈ oj.looksAt ops) → d ≠ t := fun t ht e9 => no_late hf h hoj hjS (behind_E h.ord hjE) hi ho (e9 ▸ q6) ht
    have hnb : j ∉ behind ops.toList 4096 [i] [] := fun h9 => hjS (hnob j h9)
    refine ⟨oj, hoj, hpj.keep (fun t ht => (get_cons_keep (no t (.inr ht))).symm) (fun d3 hd3 => get_cons_keep (no d3 (.inl hd3))) fun s1 hmd hin _ hop => ?_⟩
    have hin' : (j, oj, s1) ∈ keepPend (behind ops.toList 4096 [i] []) pend := keepPend_mem.2 ⟨hin, hnb⟩
    refine ⟨hin', fun K' hk' => ?_⟩
    obtain ⟨s2, p1, p2, _⟩ := svcOp_mov hpj.mov (hre _ hin')
    subst p1
    exact p2 K' hk'
  · by_cases e1 : d = t
    · subst e1
      rw [get_cons_same] at hs0; cases hs0
      exact q9
    · rw [get_cons_keep e1] at hs0
      refine h.val t s0 hs0 (fun j hj hjS => hno j (List.mem_cons_of_mem _ hj) hjS) fun j b' hj o2 ho2 hd2 => ?_
      by_cases e9 : j = i
      · subst e9; rw [ho] at ho2; cases ho2; rw [q6] at hd2; cases hd2; exact e1 rfl
      · exact hno2 j b' (hmemH.2 ⟨hj, e9⟩) o2 ho2 hd2

/-- The machine carries a late operation out; the walk waits. -/
theorem hide_late (hR : RK cfg R) (hf : formAll P ops 0 ops.toList = true) (h : DI P cfg R n ds ops S H E pend e bx L β a w) {j : Nat} {oj : Oper} (hj : ops[j]? = some oj) (hr : ∀ ed ∈ oj.after, bindsAny ed = true → S ed.on) (hjE : j ∉ E) (hjS : ¬ S j)
    (hdep : depsOK E oj.after.toList = true) (hl : allocLate P cfg n oj = true)
    {K : Act → World → Prop} (hK : ∀ ds' H' a' w', ds'.lo = ds.lo → DI P cfg R n ds' ops (fun i => S i ∨ i = j) H' E pend e bx L β a' w' → K a' w') : wpOpIn (WF ro) m P ops Q j K a w := by
  obtain ⟨T, d, z, r1, r2, r3, r4, r5, r6⟩ := late_op hl
  have hbh := behind_new h.ord hj fun ed hed hb => depsOK_spec.1 hdep ed (by simpa using hed) hb
  unfold wpOpIn
  simp only [hj]
  have hwant : Region.wanted oj (yielded ops a.tmps) = true := by unfold Region.wanted; rw [r3]
  rw [if_pos hwant]
  refine wpIn_value (v := .pointer (some ⟨w.heap.size, 0, none⟩)) (w' := w.alloc (.cells z.cells T (0, 0))) (fun c hc => by rw [r1] at hc; cases hc) (by simp [execOp, r1, Instr.alloc, run_zeroOf w r4, newVar, newRow]) ?_
  have hs := hR.sub h.base.inv
  have hlow : ∀ {b : Nat}, b < w.heap.size → (w.alloc (.cells z.cells T (0, 0))).heap[b]? = w.heap[b]? := fun hb => Below.heap_alloc w _ _ hb
  have hlt : ∀ {b : Nat} {o : Obj}, w.heap[b]? = some o → b < w.heap.size := fun hb => (Array.getElem?_eq_some_iff.1 hb).1
  have hcl : Closed ops fun i => S i ∨ i = j := fun i hi o ho ed hed hb => by
    rcases hi with hi | rfl
    · exact .inl (h.clS i hi o ho ed hed hb)
    · rw [hj] at ho; cases ho; exact .inl (hr ed hed hb)
  have hB : Base R n { ds with hid := (w.heap.size, .cells z.cells T (0, 0)) :: ds.hid } β bx L a (w.alloc (.cells z.cells T (0, 0))) := by
    refine ⟨hR.step h.base.inv (Ext.allocHid hs _) fun r hr' => hR.rok h.base.inv hr', h.base.siz, h.base.dfr, fun D hD => ?_, h.base.nod, Nat.le_trans h.base.low (by simp), fun p hp => ?_⟩
    · obtain ⟨k1, k2, k3⟩ := h.base.mrk D hD
      exact ⟨(hlow (hlt k1)).trans k1, k2, k3⟩
    · rcases List.mem_cons.1 hp with rfl | hp
      · exact ⟨World.alloc_heap_new _ _, Ext.allocNone hs, ⟨β, bx, L, w, h.base.inv, Nat.le_refl _⟩, fun k cs hk => by have := hR.lt h.base.inv hk; simp only; omega⟩
      · obtain ⟨k1, k2, k3, k4⟩ := h.base.hid p hp
        exact ⟨(hlow (hlt k1)).trans k1, k2, k3, k4⟩
  refine hK { ds with hid := (w.heap.size, .cells z.cells T (0, 0)) :: ds.hid } ((j, w.heap.size) :: H) _ _ rfl ⟨hB.put _ _,
    h.sml, hcl, h.ord, fun i hi => ?_, fun i b hi => ?_, ⟨?_, ?_⟩, fun i hi hiS => h.pen i hi fun h1 => hiS (.inl h1), fun t s0 hs0 hno hno2 => ?_⟩
  · rcases hi with hi | rfl
    · exact (h.sub i hi).imp id fun ⟨b, hb⟩ => ⟨b, List.mem_cons_of_mem _ hb⟩
    · exact .inr ⟨_, List.mem_cons_self ..⟩
  · rcases List.mem_cons.1 hi with e9 | hi
    · cases e9
      refine ⟨.inr rfl, hjE, oj, T, z, d, hj, hl, r1, r2, r4, hdep, ?_, List.mem_cons_self ..⟩
      rw [r2]; exact put_getD_eq (by rw [h.base.siz]; exact r6)
    · obtain ⟨q1, q2, o1, T1, z1, d1, q3, q4, q5, q6, q7, q8, q9, q10⟩ := h.lat i b hi
      refine ⟨.inl q1, q2, o1, T1, z1, d1, q3, q4, q5, q6, q7, q8, ?_, List.mem_cons_of_mem _ q10⟩
      rw [put_getD_ne fun hd => no_late hf h hj hjS hbh hi q3 q6 (.inl hd)]; exact q9
  · refine List.nodup_cons.2 ⟨fun h9 => ?_, h.hnd.1⟩
    obtain ⟨p, hp, e9⟩ := List.mem_map.1 h9
    obtain ⟨i, b⟩ := p
    simp only at e9; subst e9
    exact hjS (h.lat _ _ hp).inS
  · refine List.nodup_cons.2 ⟨fun h9 => ?_, h.hnd.2⟩
    obtain ⟨p, hp, e9⟩ := List.mem_map.1 h9
    obtain ⟨i, b⟩ := p
    simp only at e9; subst e9
    obtain ⟨q1, q2, o1, T1, z1, d1, q3, q4, q5, q6, q7, q8, q9, q10⟩ := h.lat _ _ hp
    have := hlt (h.base.hid _ q10).here
    simp at this
  · have hd : oj.dst ≠ some t := hno2 j _ (List.mem_cons_self ..) oj hj
    rw [put_getD_ne hd]
    refine h.val t s0 hs0 (fun i hi hiS o ho => hno i hi (fun h1 => h1.elim hiS fun e1 => hjE (e1 ▸ hi)) o ho) fun i b hi => hno2 i b (List.mem_cons_of_mem _ hi)

theorem notLate_mem {x : Nat × Oper} : ∀ {l : List (Nat × Oper)}, x ∈ notLate P cfg n l ↔ x ∈ l ∧ allocLate P cfg n x.2 = false
  | [] => by simp [notLate]
  | p :: r => by
    unfold notLate
    cases hp : allocLate P cfg n p.2 with
    | true =>
      simp only [List.mem_cons]
      rw [notLate_mem]
      constructor
      · exact fun h => ⟨.inr h.1, h.2⟩
      · rintro ⟨rfl | h1, h2⟩
        · rw [hp] at h2; cases h2
        · exact ⟨h1, h2⟩
    | false =>
      simp only [List.mem_cons]
      rw [notLate_mem]
      constructor
      · rintro (rfl | h)
        · exact ⟨.inl rfl, hp⟩
        · exact ⟨.inr h.1, h.2⟩
      · rintro ⟨rfl | h1, h2⟩
        · exact .inl rfl
        · exact .inr ⟨h1, h2⟩
theorem inCs_mem {i : Nat} : ∀ {l : List (Nat × Oper)}, inCs i l = true → ∃ o, (i, o) ∈ l
  | [], h => by simp [inCs] at h
  | p :: r, h => by
    unfold inCs at h
    split at h
    · rename_i hb
      have := Nat.eq_of_beq_eq_true hb; subst this
      exact ⟨p.2, List.mem_cons_self ..⟩
    · obtain ⟨o, ho⟩ := inCs_mem h; exact ⟨o, List.mem_cons_of_mem _ ho⟩
theorem othersBehind_spec {all : List Oper} {E : List Nat} {cs : List (Nat × Oper)} {x : Nat} : ∀ {l : List Oper} {j : Nat}, othersBehind all E cs x j l = true → ∀ k, k < l.length → (j + k) ∈ E ∨ (∃ o, (j + k, o) ∈ cs) ∨ x ∈ behind all 4096 [j + k] []
  | [], _, _, k, hk => by simp at hk
  | o :: r, j, h, k, hk => by
    unfold othersBehind at h
    split at h
    · rename_i h1
      cases k with
      | zero =>
        simp only [Bool.or_eq_true] at h1
        rcases h1 with (h1 | h1) | h1
        · exact .inl (memN_iff.1 h1)
        · exact .inr (.inl (inCs_mem h1))
        · exact .inr (.inr (memN_iff.1 h1))
      | succ k =>
        have := othersBehind_spec h k (by simpa using hk)
        rw [show j + (k + 1) = j + 1 + k by omega]; exact this
    · cases h
/-- The walk waits for one operation; what else may come is late. -/
def Waits (P : Program) (cfg : Cfg) (n : Nat) (ops : Array Oper) (E : List Nat) (x : Nat × Oper) : Prop :=
  notLate P cfg n (readyAt P ops.toList E false 0 ops.toList) = [x] ∧ othersBehind ops.toList E (readyAt P ops.toList E false 0 ops.toList) x.1 0 ops.toList = true
theorem cands_waits {x : Nat × Oper} (h : Waits P cfg n ops E x) : cands P cfg n ops.toList E (readyAt P ops.toList E false 0 ops.toList) = [x] := by
  unfold cands; rw [h.1]; simp only [h.2]
theorem cands_else (h : ¬ ∃ x, Waits P cfg n ops E x) : cands P cfg n ops.toList E (readyAt P ops.toList E false 0 ops.toList) = readyAt P ops.toList E false 0 ops.toList := by
  unfold cands
  split
  · rename_i x hx
    split
    · rename_i h2; exact absurd ⟨x, hx, h2⟩ h
    · rfl
  · rfl
/-- Saturated; and what is late waits with the walk. -/
theorem norm (hR : RK cfg R) (hf : formAll P ops 0 ops.toList = true) : ∀ (k : Nat) (f : Nat) (ds : Dq) (H : List (Nat × Nat)) (E : List Nat) (pend : List (Nat × Oper × SV)) (e : Env) (L : Heap), H.length ≤ k → DI P cfg R n ds ops S H E pend e bx L β a w → svcD P cfg n ops f E pend e bx L Kq →
    ∃ f' ds' H' E' pend' e' L', ds'.lo = ds.lo ∧ DI P cfg R n ds' ops S H' E' pend' e' bx L' β a w ∧ svcD P cfg n ops (f' + 1) E' pend' e' bx L' Kq ∧ readyAt P ops.toList E' true 0 ops.toList = [] ∧ (H' = [] ∨ ∃ x, Waits P cfg n ops E' x) := by
  intro k
  induction k with
  | zero =>
    intro f ds H E pend e L hk h hs
    obtain ⟨f', E', pend', e', h', hs', hsat⟩ := saturate hf f E pend e h hs
    exact ⟨f', ds, H, E', pend', e', L, rfl, h', hs', hsat, .inl (List.eq_nil_of_length_eq_zero (by omega))⟩
  | succ k ih =>
    intro f ds H E pend e L hk h hs
    obtain ⟨f', E', pend', e', h', hs', hsat⟩ := saturate hf f E pend e h hs
    by_cases hw : ∃ x, Waits P cfg n ops E' x
    · exact ⟨f', ds, H, E', pend', e', L, rfl, h', hs', hsat, .inr hw⟩
    · cases hH : H with
      | nil => exact ⟨f', ds, [], E', pend', e', L, rfl, hH ▸ h', hs', hsat, .inl rfl⟩
      | cons p r =>
        obtain ⟨i, b⟩ := p
        have hi : (i, b) ∈ H := by rw [hH]; exact List.mem_cons_self ..
        obtain ⟨q1, q2, o1, T, z, d, q3, q4, q5, q6, q7, q8, q9, q10⟩ := h'.lat i b hi
        have hin : (i, o1) ∈ readyAt P ops.toList E' false 0 ops.toList := mem_readyAt.2 ⟨Nat.zero_le _, by simpa using q3, q2, q8, late_mov q4⟩
        unfold svcD at hs'
        rw [hsat] at hs'
        simp only at hs'
        split at hs'
        · rename_i hnil; rw [hnil] at hin; cases hin
        · rw [cands_else hw] at hs'
          have hcl := allP_mem hs' (i, o1) hin
          obtain ⟨ds2, H2, pend2, e2, M2, g1, g2, g3, g4, g5⟩ := claim_late hR hf h' hi q3 (D := fun pd e1 bx1 M => svcD P cfg n ops f' (i :: E') pd e1 bx1 M Kq) hcl
          obtain ⟨f3, ds3, H3, E3, pend3, e3, L3, u1, u2⟩ := ih f' ds2 H2 (i :: E') pend2 e2 M2 (by omega) g4 g5
          exact ⟨f3, ds3, H3, E3, pend3, e3, L3, u1.trans g1, u2⟩

def unl (listed : Array Bool) : Nat := listed.toList.countP (!·)
theorem countP_set : ∀ (l : List Bool) (i : Nat), l[i]? = some false → (l.set i true).countP (!·) + 1 = l.countP (!·)
  | [], i, h => by simp at h
  | x :: r, 0, h => by simp only [List.getElem?_cons_zero, Option.some.injEq] at h; subst h; simp
  | x :: r, i + 1, h => by
    have := countP_set r i (by simpa using h)
    simp only [List.set_cons_succ, List.countP_cons]
    omega
theorem unl_set {listed : Array Bool} {j : Nat} (h : listed[j]? = some false) : unl (listed.setIfInBounds j true) + 1 = unl listed := by
  unfold unl
  rw [Array.toList_setIfInBounds]
  exact countP_set _ _ (by simpa using h)
theorem getD_set_iff {listed : Array Bool} {j : Nat} (h : j < listed.size) (i : Nat) : (listed.setIfInBounds j true).getD i false = true ↔ listed.getD i false = true ∨ i = j := by
  by_cases e : j = i
  · subst e
    simp [h]
  · rw [getD_set_ne false e]
    constructor
    · exact .inl
    · exact fun h => h.resolve_right (Ne.symm e)
theorem ready_of {listed : Array Bool} (hsz : listed.size = ops.size) {j : Nat} : j ∈ Region.ready .any ops listed ↔ listed[j]? = some false ∧ ∃ o, ops[j]? = some o ∧ ∀ ed ∈ o.after, bindsAny ed = true → listed.getD ed.on false = true := by
  rw [mem_ready]
  simp only [binds_any]
  constructor
  · rintro ⟨h1, o, ho, h2⟩
    refine ⟨?_, o, ho, h2⟩
    have hlt : j < listed.size := hsz ▸ (Array.getElem?_eq_some_iff.1 ho).1
    simp only [Array.getD_eq_getD_getElem?, Array.getElem?_eq_getElem hlt, Option.getD_some] at h1
    rw [Array.getElem?_eq_getElem hlt, h1]
  · rintro ⟨h1, o, ho, h2⟩
    exact ⟨by simp [Array.getD_eq_getD_getElem?, h1], o, ho, h2⟩
theorem not_listed {listed : Array Bool} {j : Nat} (h : listed[j]? = some false) : ¬ listed.getD j false = true := by
  simp [Array.getD_eq_getD_getElem?, h]
theorem listed_false {listed : Array Bool} {j : Nat} (hlt : j < listed.size) (h : ¬ listed.getD j false = true) : listed[j]? = some false := by
  simp only [Array.getD_eq_getD_getElem?, Array.getElem?_eq_getElem hlt, Option.getD_some] at h
  rw [Array.getElem?_eq_getElem hlt]
  simpa using h
/-- Where nothing may come any more, all that was evaluated has been carried out. -/
theorem all_done {listed : Array Bool} (hsz : listed.size = ops.size) (hr : Region.ready .any ops listed = []) : ∀ {E : List Nat}, OrdE ops E → ∀ i ∈ E, listed.getD i false = true
  | [], _, i, hi => by simp at hi
  | j :: r, h, i, hi => by
    obtain ⟨_, ⟨o, ho, hdep⟩, hr'⟩ := h
    have ih := all_done hsz hr hr'
    rcases List.mem_cons.1 hi with rfl | hi
    · rcases Classical.em (listed.getD i false = true) with h1 | h1
      · exact h1
      · have : i ∈ Region.ready .any ops listed := (ready_of hsz).2 ⟨listed_false (hsz ▸ (Array.getElem?_eq_some_iff.1 ho).1) h1, o, ho, fun ed hed hb => ih _ (hdep ed hed hb)⟩
        rw [hr] at this; cases this
    · exact ih i hi
theorem svcD_sound (hR : RK cfg R) (hf : formAll P ops 0 ops.toList = true) {lo : Nat} (hQ : ∀ {ds β e bx L a w}, ds.lo = lo → Kq e bx L → St R n ds β e bx L a w → Q .normal a w) :
    ∀ (fuel : Nat) (listed : Array Bool) (ds : Dq) (H : List (Nat × Nat)) (E : List Nat) (pend : List (Nat × Oper × SV)) (e : Env) (bx : Bx) (L : Heap) (β : Nat → Nat) (a : Act) (w : World) (f : Nat), ds.lo = lo → listed.size = ops.size → unl listed ≤ fuel →
      DI P cfg R n ds ops (fun i => listed.getD i false = true) H E pend e bx L β a w → svcD P cfg n ops f E pend e bx L Kq → wpAnyIn (WF ro) m P .any ops Q fuel listed a w := by
  intro fuel
  -- where nothing may come any more, the region has ended
  have done : ∀ (listed : Array Bool) (ds : Dq) (H : List (Nat × Nat)) (E : List Nat) (pend : List (Nat × Oper × SV)) (e : Env) (bx : Bx) (L : Heap) (β : Nat → Nat) (a : Act) (w : World) (f : Nat), ds.lo = lo → listed.size = ops.size → Region.ready .any ops listed = [] →
      DI P cfg R n ds ops (fun i => listed.getD i false = true) H E pend e bx L β a w → svcD P cfg n ops (f + 1) E pend e bx L Kq → readyAt P ops.toList E true 0 ops.toList = [] → (H = [] ∨ ∃ x, Waits P cfg n ops E x) → Q .normal a w := by
    intro listed ds H E pend e bx L β a w f hlo hsz hr h hs hsat hH
    have hall := all_done hsz hr h.ord
    have none_ready : ∀ {j o}, (j, o) ∈ readyAt P ops.toList E false 0 ops.toList → (∃ b, (j, b) ∈ H) := by
      intro j o hm
      obtain ⟨_, ho, hjE, hdep, _⟩ := mem_readyAt.1 hm
      have hj : ops[j]? = some o := by simpa using ho
      by_cases hl : listed.getD j false = true
      · rcases h.sub j hl with h1 | h1
        · exact absurd h1 hjE
        · exact h1
      · have : j ∈ Region.ready .any ops listed := (ready_of hsz).2 ⟨listed_false (hsz ▸ (Array.getElem?_eq_some_iff.1 hj).1) hl, o, hj, fun ed hed hb => hall _ (depsOK_spec.1 hdep ed (by simpa using hed) hb)⟩
        rw [hr] at this; cases this
    have hH0 : H = [] := by
      rcases hH with h1 | ⟨x, h1, _⟩
      · exact h1
      · have hx : x ∈ notLate P cfg n (readyAt P ops.toList E false 0 ops.toList) := by rw [h1]; exact List.mem_cons_self ..
        obtain ⟨h2, h3⟩ := notLate_mem.1 hx
        obtain ⟨b, hb⟩ := none_ready (j := x.1) (o := x.2) h2
        obtain ⟨q1, q2, o1, T, z, d, q3, q4, _⟩ := h.lat _ _ hb
        obtain ⟨_, ho, _⟩ := mem_readyAt.1 (show (x.1, x.2) ∈ _ from h2)
        have : ops[x.1]? = some x.2 := by simpa using ho
        rw [this] at q3; cases q3
        rw [h3] at q4; cases q4
    unfold svcD at hs
    rw [hsat] at hs
    simp only at hs
    split at hs
    · split at hs
      · exact hQ hlo hs ⟨h.base.inv, h.base.siz, fun t s ht => h.val t s ht (fun i hi hiS => absurd (hall i hi) hiS) (fun i b hi => by rw [hH0] at hi; cases hi), h.base.dfr, h.base.mrk, h.base.nod, h.base.low, h.base.hid⟩
      · exact hs.elim
    · rename_i hne
      cases hcs : readyAt P ops.toList E false 0 ops.toList with
      | nil => exact absurd hcs hne
      | cons io rest =>
        obtain ⟨b, hb⟩ := none_ready (j := io.1) (o := io.2) (by rw [hcs]; exact List.mem_cons_self ..)
        rw [hH0] at hb; cases hb
  induction fuel with
  | zero =>
    intro listed ds H E pend e bx L β a w f hlo hsz hun h hs
    have hr : Region.ready .any ops listed = [] := by
      apply List.eq_nil_iff_forall_not_mem.2
      intro j hj
      have := unl_set ((ready_of hsz).1 hj).1
      omega
    refine ⟨hr, ?_⟩
    obtain ⟨f', ds', H', E', pend', e', L', hlo', h', hs', hsat, hH⟩ := norm hR hf H.length f ds H E pend e L (Nat.le_refl _) h hs
    exact done listed ds' H' E' pend' e' bx L' β a w f' (hlo'.trans hlo) hsz hr h' hs' hsat hH
  | succ fuel ih =>
    intro listed ds H E pend e bx L β a w f hlo hsz hun h hs
    obtain ⟨f', ds', H', E', pend', e', L', hlo', h', hs', hsat, hH⟩ := norm hR hf H.length f ds H E pend e L (Nat.le_refl _) h hs
    refine ⟨fun hr => done listed ds' H' E' pend' e' bx L' β a w f' (hlo'.trans hlo) hsz hr h' hs' hsat hH, fun j hj => ?_⟩
    obtain ⟨hjf, oj, hoj, hdeps⟩ := (ready_of hsz).1 hj
    have hlt : j < listed.size := hsz ▸ (Array.getElem?_eq_some_iff.1 hoj).1
    have hS : (fun i => (listed.setIfInBounds j true).getD i false = true) = fun i => listed.getD i false = true ∨ i = j := funext fun i => propext (getD_set_iff hlt i)
    have hun' : unl (listed.setIfInBounds j true) ≤ fuel := by have := unl_set hjf; omega
    have hsz' : (listed.setIfInBounds j true).size = ops.size := by simpa using hsz
    by_cases hjE : j ∈ E'
    · refine run_pend hR hf h' hoj hdeps hjE (not_listed hjf) fun β' a' w' hD => ?_
      exact ih _ ds' H' E' pend' e' bx L' β' a' w' (f' + 1) (hlo'.trans hlo) hsz' hun' (by rw [hS]; exact hD) hs'
    · -- it may come next in the walk, too
      have hdep : depsOK E' oj.after.toList = true := by
        refine depsOK_spec.2 fun ed hed hb => ?_
        have hSed := hdeps ed (by simpa using hed) hb
        rcases h'.sub _ hSed with h1 | ⟨b, hb'⟩
        · exact h1
        · exfalso
          rcases hH with h1 | ⟨x, hx⟩
          · rw [h1] at hb'; cases hb'
          · -- x stands ahead of j: but x has not come
            have hxm : x ∈ notLate P cfg n (readyAt P ops.toList E' false 0 ops.toList) := by rw [hx.1]; exact List.mem_cons_self ..
            obtain ⟨hx2, hx3⟩ := notLate_mem.1 hxm
            obtain ⟨_, hxo, hxE, hxd, _⟩ := mem_readyAt.1 (show (x.1, x.2) ∈ _ from hx2)
            have hxops : ops[x.1]? = some x.2 := by simpa using hxo
            have hxS : ¬ listed.getD x.1 false = true := fun h9 => by
              rcases h'.sub _ h9 with h8 | ⟨b2, h8⟩
              · exact hxE h8
              · obtain ⟨_, _, o1, T, z, d, q3, q4, _⟩ := h'.lat _ _ h8
                rw [hxops] at q3; cases q3; rw [hx3] at q4; cases q4
            rcases othersBehind_spec hx.2 j (by simpa using (Array.getElem?_eq_some_iff.1 hoj).1) with h1 | ⟨o2, h1⟩ | h1
            · rw [Nat.zero_add] at h1; exact hjE h1
            · rw [Nat.zero_add] at h1
              obtain ⟨_, ho2, _, hd2, _⟩ := mem_readyAt.1 h1
              have : ops[j]? = some o2 := by simpa using ho2
              rw [hoj] at this; cases this
              exact (h'.lat _ _ hb').notE (depsOK_spec.1 hd2 ed hed hb)
            · rw [Nat.zero_add] at h1
              rcases behind_ready h'.clS hoj hdeps x.1 h1 with h2 | h2
              · exact hxS h2
              · rw [h2] at hxops; rw [hoj] at hxops; cases hxops
                exact (h'.lat _ _ hb').notE (depsOK_spec.1 hxd ed hed hb)
      cases hmv : movable P oj with
      | true =>
        have : (j, oj) ∈ readyAt P ops.toList E' true 0 ops.toList := mem_readyAt.2 ⟨Nat.zero_le _, by simpa using hoj, hjE, hdep, hmv⟩
        rw [hsat] at this; cases this
      | false =>
        have hin : (j, oj) ∈ readyAt P ops.toList E' false 0 ops.toList := mem_readyAt.2 ⟨Nat.zero_le _, by simpa using hoj, hjE, hdep, hmv⟩
        by_cases hc : (j, oj) ∈ cands P cfg n ops.toList E' (readyAt P ops.toList E' false 0 ops.toList)
        · unfold svcD at hs'
          rw [hsat] at hs'
          simp only at hs'
          split at hs'
          · rename_i hnil; rw [hnil] at hin; cases hin
          · have hcl := allP_mem hs' (j, oj) hc
            refine run_new hR hf h' hoj hdeps hjE (not_listed hjf) hdep (D := fun pd e1 bx1 M => svcD P cfg n ops f' (j :: E') pd e1 bx1 M Kq) hcl fun pd e1 bx1 M β' a' w' hD hs2 => ?_
            exact ih _ ds' H' (j :: E') pd e1 bx1 M β' a' w' f' (hlo'.trans hlo) hsz' hun' (by rw [hS]; exact hD) hs2
        · have hw : ∃ x, Waits P cfg n ops E' x := by
            by_cases hw : ∃ x, Waits P cfg n ops E' x
            · exact hw
            · rw [cands_else hw] at hc; exact absurd hin hc
          obtain ⟨x, hx⟩ := hw
          rw [cands_waits hx] at hc
          have hl : allocLate P cfg n oj = true := by
            cases hal : allocLate P cfg n oj with
            | true => rfl
            | false =>
              have : (j, oj) ∈ notLate P cfg n (readyAt P ops.toList E' false 0 ops.toList) := notLate_mem.2 ⟨hin, hal⟩
              rw [hx.1] at this; exact absurd this hc
          refine hide_late hR hf h' hoj hdeps hjE (not_listed hjf) hdep hl fun ds2 H2 a' w' hlo2 hD => ?_
          exact ih _ ds2 H2 E' pend' e' bx L' β a' w' (f' + 1) (hlo2.trans (hlo'.trans hlo)) hsz' hun' (by rw [hS]; exact hD) hs'
theorem keysBelow_spec : ∀ {e : Env}, keysBelow n e = true → ∀ t s, get e t = some s → t < n
  | [], _, t, s, h => by simp [get] at h
  | p :: r, hk, t, s, h => by
    unfold keysBelow at hk
    split at hk
    · rename_i h1
      obtain ⟨u, x⟩ := p
      by_cases e1 : u = t
      · subst e1; simpa [Nat.blt_eq] using h1
      · rw [get_cons_other _ _ e1] at h; exact keysBelow_spec hk t s h
    · cases hk
theorem svcDraw_sound (hm : P.follows .mixedOrders = true) (hR : RK cfg R) (hQ : ∀ {ds' β e bx L a w}, ds'.lo = ds.lo → Kq e bx L → St R n ds' β e bx L a w → Q .normal a w) {id : Nat}
    (hs : svcDraw P cfg n ops e bx L Kq) (h : St R n ds β e bx L a w) : (Code.region id ops true).wpIn (WF ro) m P Q a w := by
  unfold svcDraw at hs
  split at hs
  · rename_i hf
    split at hs
    · rename_i hk
      refine wpIn_region_any hm ?_
      have hst := h.drew hR (w.drawn + 1)
      have hemp : ∀ i, ¬ ((Array.replicate ops.size false).getD i false = true) := fun i => by
        simp only [Array.getD_eq_getD_getElem?, Array.getElem?_replicate]
        split <;> simp
      refine svcD_sound hR hf (lo := ds.lo) hQ ops.size _ ds [] [] [] e bx L β a _ _ rfl (by simp) ?_ ?_ hs
      · unfold unl; simp only [Array.toList_replicate, List.countP_replicate]; simp
      · exact ⟨hst.base, keysBelow_spec hk, fun i hi => absurd hi (hemp i), trivial, fun i hi => absurd hi (hemp i), fun i b hi => by simp at hi, by simp, fun i hi => by simp at hi, fun t s ht _ _ => hst.val t s ht⟩
    · exact hs.elim
  · exact hs.elim
end
end Go.Proofs.YtmcaejnofmbilaaGreat.Tri
