/- A round of a loop over a function, out of the condition of its code. -/
import Derived.Test.YtmcaejnofmbilaaGreatTriK
namespace Go.Proofs.YtmcaejnofmbilaaGreat.Tri
set_option linter.all false
open Go.RowKit
def roundCfg (prom : List Nat) (l ty : Nat) : Cfg := ⟨prom, true, none, some l, ty⟩
/-- How a round ends. -/
def roundQ (l : Nat) (Φ : Value → Heap → Prop) : Post := fun x _ _ M => ∃ r, M l = some (.loop r) ∧ match x with
  | .normal => Lss Φ (.bool true) (upd M l (.loop { r with state := .ready, pending := none }))
  | .ret => Lss Φ (.bool false) (upd M l (.loop { r with state := .done, pending := some .ret }))
  | .exit id => Lss Φ (.bool false) (upd M l (.loop { r with state := .done, pending := some (.exit id) }))
  | _ => False
def assignQ (P : Program) (cfg : Cfg) (l n : Nat) (kp : Keep) (body : Code) (Φ : Value → Heap → Prop) : Post := fun x e bx M => match x with
  | .normal => ∃ r, M l = some (.loop r) ∧ r.state = .ready ∧ svc P cfg n kp body (roundQ l Φ) e bx (upd M l (.loop { r with state := .busy }))
  | _ => False
/-- The condition of a round. -/
def roundCond (P : Program) (prom : List Nat) (ty : Nat) (kp : Keep) (l : Nat) (r : Loop) (e : Env) (L : Heap) (Φ : Value → Heap → Prop) : Prop :=
  svc P (roundCfg prom l ty) r.tmps.size kp r.assign (assignQ P (roundCfg prom l ty) l r.tmps.size kp r.body Φ) e [] L
theorem foldl_size : ∀ (xs : List (Nat × Value)) (t : Array Value), (xs.foldl (fun tmps p => tmps.setIfInBounds p.1 p.2) t).size = t.size
  | [], _ => rfl
  | x :: xs, t => by simp only [List.foldl_cons]; rw [foldl_size xs]; simp
theorem roundTmps_size (r : Loop) (args : Array Value) : (roundTmps r args).size = r.tmps.size := by
  unfold roundTmps
  rw [← Array.foldl_toList]
  exact foldl_size _ _
section
variable {P : Program}
theorem round_of_cond {l : Nat} {r : Loop} {args : Array Value} {L : Heap} {Φ : Value → Heap → Prop} (prom : List Nat) (ty : Nat) (kp : Keep) (hm : P.follows .mixedOrders = true) {e : Env}
    (he : ∀ t s, get e t = some s → ∃ v, s = .v v ∧ (roundTmps r args).getD t undef = v) (hs : roundCond P prom ty kp l r e L Φ) : Round P l r args L Φ := by
  intro w hw
  unfold roundCond at hs
  have hR : RK (roundCfg prom l ty) (Plain L w) := Plain.rk L w rfl
  have hst : St (Plain L w) r.tmps.size ⟨w.heap.size, [], []⟩ (fun _ => 0) e [] L { tmps := roundTmps r args, defers := [] } w := by
    refine ⟨⟨Ext.refl hw, fun k cs hk => by simp [get] at hk, fun k k' cs cs' hk => by simp [get] at hk⟩, roundTmps_size r args, fun t s ht => ?_, rfl, fun D hD => by simp at hD, by simp, Nat.le_refl _, fun p hp => by simp at hp⟩
    obtain ⟨v, rfl, hv⟩ := he t s ht
    exact hv
  refine roundIn_wide (ro := none) (k := 0) (roundIn_of_wpIn (F := WF none) trivial ?_)
  show r.assign.wpIn (WF (some l)) 0 P _ _ w
  refine wpIn_mono (svc_sound (ro := some l) (lo := w.heap.size) hm hR rfl r.assign _ ⟨w.heap.size, [], []⟩ _ _ _ _ _ _ rfl hs hst) ?_
  rintro x a w1 ⟨ds, β, e1, bx1, M1, hlo, hq, h⟩
  cases x <;> simp only [assignQ] at hq <;> try exact hq.elim
  obtain ⟨r1, hr1, hready, hq⟩ := hq
  have hw1 := h.sub hR _ _ hr1
  refine ⟨_, run_beginRound hw1 hready, ?_⟩
  have h2 := h.step hR (Ext.set (h.sub hR) hr1 (.loop { r1 with state := .busy }) (w' := w1.putObj l (.loop { r1 with state := .busy })) rfl) fun r' hr' => by cases hr'
  show r.body.wpIn (WF (some l)) 0 P _ _ _
  refine wpIn_mono (svc_sound (ro := some l) (lo := w.heap.size) hm hR rfl r.body _ ds _ _ _ _ _ _ hlo hq h2) ?_
  rintro x a w2 ⟨ds, β, e2, bx2, M2, hlo, ⟨r2, hr2, hq⟩, h⟩
  have hw2 := h.sub hR _ _ hr2
  have fin : ∀ (jump : Option Code) (b : Bool), b = jump.isNone → Lss Φ (.bool b) (upd M2 l (.loop { r2 with state := if b then .ready else .done, pending := jump })) →
      ∃ v w', (Instr.endRound l jump).run P w2 = .ok v w' ∧ ∃ v' M, Ending.returned v = .returned v' ∧ Φ v' M ∧ Ext L w M w' := by
    rintro jump b rfl ⟨N, hN, hΦ⟩
    refine ⟨_, _, run_endRound jump hw2, _, N, rfl, hΦ, ?_⟩
    exact (h.inv.ext.trans (Ext.set (h.sub hR) hr2 _ rfl)).less hN
  cases x with
  | normal => exact fin none true rfl hq
  | ret => exact fin (some .ret) false rfl hq
  | exit id => exact fin (some (.exit id)) false rfl hq
  | goto t => exact hq.elim
  | panic c => exact hq.elim
  | outgrown => exact hq.elim
end
end Go.Proofs.YtmcaejnofmbilaaGreat.Tri
