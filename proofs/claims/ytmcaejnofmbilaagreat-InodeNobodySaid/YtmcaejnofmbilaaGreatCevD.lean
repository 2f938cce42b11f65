/- The evaluator: its operations are sound (first part). -/
import Derived.Test.YtmcaejnofmbilaaGreatCevC
namespace Go.Proofs.YtmcaejnofmbilaaGreat.Tri
set_option linter.all false
open Go.RowKit

def evCfg (rd : Option Nat) : Cfg := ⟨[], true, none, rd, 0⟩
theorem opt_elim {α : Type} {o : Option α} {k : α → Bool} (h : opt o k = true) : ∃ a, o = some a ∧ k a = true := by
  unfold opt at h
  split at h
  · rename_i a; exact ⟨a, rfl, h⟩
  · cases h

section
variable {P : Program} {σ : Sg} {n : Nat} {e : AEnv} {env : Env} {A : AH} {L : Heap} {o : Oper} {K : CK} {rd : Option Nat}
theorem evA_sound (he : ERel σ n e env) {x : Operand} {a : AV} (h : evA e x = some a) : ∃ v, a.real σ = some v ∧ evs env x = some (.v v) ∧ evv env x = some v := by
  have key : ∃ v, a.real σ = some v ∧ evs env x = some (.v v) := by
    cases x with
    | tmp t => exact he.val t a h
    | const v => simp only [evA, Option.some.injEq] at h; subst h; exact ⟨v, rfl, rfl⟩
    | global g => simp only [evA, Option.some.injEq] at h; subst h; exact ⟨_, rfl, rfl⟩
    | func f => simp only [evA, Option.some.injEq] at h; subst h; exact ⟨_, rfl, rfl⟩
  obtain ⟨v, h1, h2⟩ := key
  exact ⟨v, h1, h2, by unfold evv; rw [h2]⟩
theorem evAs_sound (he : ERel σ n e env) : ∀ {xs : List Operand} {l : List AV}, evAs e xs = some l → ∃ vs, reals σ l = some vs ∧ evvs env xs = some vs
  | [], l, h => by simp only [evAs, Option.some.injEq] at h; subst h; exact ⟨[], rfl, rfl⟩
  | x :: r, l, h => by
    unfold evAs at h
    split at h
    · rename_i a ha
      split at h
      · rename_i l' hl
        simp only [Option.some.injEq] at h; subst h
        obtain ⟨v, h1, _, h2⟩ := evA_sound he ha
        obtain ⟨vs, h3, h4⟩ := evAs_sound he hl
        exact ⟨v :: vs, reals_cons.2 ⟨v, vs, h1, h3, rfl⟩, by unfold evvs; rw [h2, h4]⟩
      · cases h
    · cases h
theorem svcOp_pure {cfg : Cfg} {bx : Bx} {s : SV} {Ko : SV → Bx → Heap → Prop} (hp : pureOp P env o = some s) (hk : Ko s bx L) : svcOp P cfg env bx L o Ko := by unfold svcOp; rw [hp]; exact hk

/-! alloc, box -/
theorem svcAlloc_ev {dst : Option Nat} {d : Nat} {T : TypeId} {v : Value} (hd : dst = some d) (hH : HRel σ A L) {cs : List AV} (hc : reals σ cs = some v.cells.toList) (hs : newCells A T cs K = true) : svcAlloc (evCfg rd) env [] L dst T v (OpPost σ K) := by
  unfold svcAlloc
  subst hd
  have : ((evCfg rd).pr && memN d (evCfg rd).prom) = false := rfl
  simp only [this]
  rintro b M hb rfl
  exact ⟨_, rfl, rfl, by simpa using newCells_sound hs hH hc hb⟩

/-! build -/
theorem foldl_zip (off : Nat) : ∀ (l : List Value) (k : Nat) (cs : Array Value), (((l.zipIdx k).foldl (fun cs p => cs.setIfInBounds (off + p.2) p.1) cs) : Array Value).toList = setAt cs.toList (off + k) l
  | [], k, cs => by simp [setAt]
  | v :: r, k, cs => by
    simp only [List.zipIdx_cons, List.foldl_cons]
    rw [foldl_zip off r (k + 1)]
    simp [setAt, Nat.add_assoc]
theorem fillAV_sound {place : Nat → Option (Nat × Nat)} : ∀ {parts : List (Nat × AV)} {cs cs' : List AV} {vs pv : List Value}, fillAV place cs parts = some cs' → reals σ cs = some vs → reals σ (parts.map (·.2)) = some pv →
    ∃ out, Instr.fill place vs.toArray ((parts.map (·.1)).zip pv) = some out ∧ reals σ cs' = some out.toList
  | [], cs, cs', vs, pv, h, hc, hp => by
    simp only [fillAV, Option.some.injEq] at h; subst h
    exact ⟨vs.toArray, rfl, by simpa using hc⟩
  | (i, a) :: r, cs, cs', vs, pv, h, hc, hp => by
    obtain ⟨v, w, h1, h2, rfl⟩ := reals_cons.1 (show reals σ (a :: r.map (·.2)) = some pv from hp)
    unfold fillAV at h
    split at h
    · cases h
    · rename_i off sz hpl
      split at h
      · rename_i hc2
        simp only [Bool.and_eq_true, Nat.ble_eq] at hc2
        have hsz := Nat.eq_of_beq_eq_true hc2.1
        have hac := aCells_real h1
        have hlen := reals_length hac
        have hl2 := reals_length hc
        simp only [Array.length_toList] at hlen
        obtain ⟨out, q1, q2⟩ := fillAV_sound h (reals_setAt off hc hac) h2
        refine ⟨out, ?_, q2⟩
        simp only [List.map_cons, List.zip_cons_cons, Instr.fill, hpl]
        rw [if_neg (by simp only [Bool.or_eq_true, decide_eq_true_eq, ne_eq, Decidable.not_not, List.size_toArray]; omega)]
        have e1 : v.cells.zipIdx.foldl (fun cs (p : Value × Nat) => cs.setIfInBounds (off + p.2) p.1) vs.toArray = (setAt vs off v.cells.toList).toArray := by
          rw [← Array.toList_inj, ← Array.foldl_toList, Array.toList_zipIdx]
          have := foldl_zip off v.cells.toList 0 vs.toArray
          simpa using this
        rw [e1]
        exact q1
      · cases h
theorem fieldPlaces_eq : ∀ {fs : List Field} {places : List (Nat × Nat)}, fieldPlaces P fs = some places → fs.mapM (fun f => (P.info? f.type).map fun i => (f.offset, i.size)) = some places
  | [], places, h => by simp only [fieldPlaces, Option.some.injEq] at h; subst h; rfl
  | f :: r, places, h => by
    unfold fieldPlaces at h
    split at h
    · rename_i i hi
      split at h
      · rename_i l hl
        simp only [Option.some.injEq] at h; subst h
        simp [List.mapM_cons, hi, fieldPlaces_eq hl]
      · cases h
    · cases h
theorem zip_map_fst {α β γ : Type} : ∀ (is : List α) (xs : List β), is.length = xs.length → (is.zip xs).map (·.1) = is ∧ (is.zip xs).map (·.2) = xs
  | [], [], _ => ⟨rfl, rfl⟩
  | [], _ :: _, h => by simp at h
  | _ :: _, [], h => by simp at h
  | i :: is, x :: xs, h => by
    have := zip_map_fst (γ := γ) is xs (by simpa using h)
    simp [this.1, this.2]
theorem buildA_sound {t : TypeId} {is : List Nat} {as cs : List AV} {vs : List Value} (h : buildA P t (is.zip as) = some cs) (hl : is.length = as.length) (hv : reals σ as = some vs) : ∃ cells, P.built t (is.zip vs) = some cells ∧ reals σ cs = some cells.toList := by
  obtain ⟨z1, z2⟩ := zip_map_fst (γ := Nat) is as hl
  unfold buildA zeroOf at h
  unfold Program.built
  split at h
  · rename_i z hz
    cases hi : P.info? t with
    | none => rw [hi] at hz; cases hz
    | some it =>
      rw [hi] at hz
      simp only at hz
      split at h
      · rename_i m el hu
        split at h
        · rename_i ie hie
          have hzc : reals σ (aCells (.v z)) = some z.cells.toList := aCells_real rfl
          obtain ⟨out, q1, q2⟩ := fillAV_sound h hzc (by rw [z2]; exact hv)
          rw [z1] at q1
          refine ⟨out, ?_, q2⟩
          simp only [hu, hz, hie]
          simpa using q1
        · cases h
      · rename_i fields hu
        split at h
        · rename_i places hp
          have hzc : reals σ (aCells (.v z)) = some z.cells.toList := aCells_real rfl
          obtain ⟨out, q1, q2⟩ := fillAV_sound h hzc (by rw [z2]; exact hv)
          rw [z1] at q1
          refine ⟨out, ?_, q2⟩
          simp only [hu, hz, fieldPlaces_eq hp]
          simpa using q1
        · cases h
      · cases h
  · cases h
theorem range_mod (z : List Value) : ∀ k, (List.range (k * z.length)).map (fun i => z[i % z.length]!) = (List.replicate k z).flatten
  | 0 => by simp
  | k + 1 => by
    rw [List.replicate_succ, List.flatten_cons, ← range_mod z k]
    rw [show (k + 1) * z.length = z.length + k * z.length by rw [Nat.add_mul]; omega]
    rw [List.range_add, List.map_append]
    congr 1
    · apply List.ext_getElem
      · simp
      · intro i h1 h2
        simp only [List.length_map, List.length_range] at h1
        simp [Nat.mod_eq_of_lt h1, h1]
    · rw [List.map_map]
      congr 1
      funext i
      simp
theorem arr_mod (z : Array Value) (k : Nat) : ((Array.range (k * z.size)).map fun i => z[i % z.size]!) = ((List.replicate k z.toList).flatten).toArray := by
  rw [← Array.toList_inj]
  have := range_mod z.toList k
  simp only [Array.toList_map, Array.toList_range]
  rw [← this]
  simp [Array.getElem!_eq_getD, Array.getD_eq_getD_getElem?]
theorem repl_sound {z : Value} (k : Nat) : reals σ (replA (aCells (.v z)) k) = some ((Array.range (k * z.cells.size)).map fun i => z.cells[i % z.cells.size]!).toList := by
  obtain ⟨ws, h1, _, h3⟩ := reals_repl (σ := σ) (aCells_real (a := .v z) rfl) k
  rw [h1, h3, arr_mod]
end
end Go.Proofs.YtmcaejnofmbilaaGreat.Tri
