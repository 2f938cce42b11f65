/- The computing operations: sound. -/
import Derived.Test.YtmcaejnofmbilaaGreatTriC
namespace Go.Proofs.YtmcaejnofmbilaaGreat.Tri
set_option linter.all false
open Go.RowKit
section
variable {P : Program} {R : Rl} {n : Nat} {ds : Dq} {β : Nat → Nat} {e : Env} {bx : Bx} {L : Heap} {a : Act} {w : World}

theorem evvs_length : ∀ {xs : List Operand} {vs : List Value}, evvs e xs = some vs → xs.length = vs.length
  | [], vs, h => by simp only [evvs, Option.some.injEq] at h; subst h; rfl
  | x :: r, vs, h => by
    unfold evvs at h
    cases h1 : evv e x with
    | none => rw [h1] at h; cases h
    | some v =>
      rw [h1] at h
      cases h2 : evvs e r with
      | none => rw [h2] at h; cases h
      | some l => rw [h2] at h; cases h; simp [evvs_length h2]

theorem parts_eval (h : St R n ds β e bx L a w) : ∀ {ps : List (Nat × Operand)} {vs : List Value}, evvs e (ps.map (·.2)) = some vs →
    ps.map (fun p => (p.1, a.eval p.2)) = (ps.map (·.1)).zip vs
  | [], vs, hx => by simp only [List.map_nil, evvs, Option.some.injEq] at hx; subst hx; rfl
  | p :: r, vs, hx => by
    replace hx : evvs e (p.2 :: r.map (·.2)) = some vs := hx
    unfold evvs at hx
    cases h1 : evv e p.2 with
    | none => rw [h1] at hx; cases hx
    | some v =>
      rw [h1] at hx
      cases h2 : evvs e (r.map (·.2)) with
      | none => rw [h2] at hx; cases hx
      | some l => rw [h2] at hx; cases hx; simp [h.evv h1, parts_eval h h2]

theorem resolve_builtin (b : Builtin) (c : Call) (ty : TypeId) (hc : c.callee = .builtin b) (ρ : Operand → Value) :
    ∃ cs, (resolve ρ c ty).run P w = .ok { target := .builtin b c.argTypes ty cs, args := c.args.map ρ } w := ⟨_, by simp only [resolve, hc, Sem.run_pure]; rfl⟩

theorem args_eval (h : St R n ds β e bx L a w) {xs : Array Operand} {vs : List Value} (hx : evvs e xs.toList = some vs) : xs.map a.eval = vs.toArray := by
  have := h.evvs hx
  rw [← Array.toList_inj, Array.toList_map]
  exact this

set_option maxHeartbeats 1000000 in
theorem pureOp_run (h : St R n ds β e bx L a w) {o : Oper} {s : SV} (hp : pureOp P e o = some s) :
    (execOp a.eval o).run P w = .ok (.value (sval β s)) w ∧ ∀ c, o.op ≠ .defer c := by
  unfold pureOp at hp
  cases hop : o.op <;> simp only [hop, reduceCtorEq] at hp <;> refine ⟨?_, fun c hc => by cases hc⟩ <;> simp only [execOp, hop]
  case move x => simp [h.evs hp]
  case assign x => simp [h.evs hp]
  case build t parts =>
    split at hp
    · rename_i vs hv
      split at hp
      · rename_i cells hc
        cases hp
        have hpe := parts_eval h hv
        have hb := run_build (P := P) w t (parts.map fun p => (p.1, a.eval p.2)) cells (by rw [Array.toList_map, hpe]; exact hc)
        simp [hb, sval]
      · cases hp
    · cases hp
  case extract t i =>
    split at hp
    · rename_i vs hv
      split at hp
      · rename_i v hi
        cases hp
        simp [h.evv hv, Instr.extract, hi, sval]
      · cases hp
    · cases hp
  case field S x f =>
    split at hp
    · rename_i cs hv
      split at hp
      · rename_i v hi
        cases hp
        have := run_fieldVal (P := P) w hi
        simp [h.evv hv, this, sval]
      · cases hp
    · cases hp
  case fieldAddr S x f =>
    split at hp
    · rename_i off ho
      split at hp
      · rename_i k o' hv
        cases hp
        simp [h.evs hv, sval, run_fieldOff w ho]
        exact add_spot rfl _
      · rename_i b hv
        cases hp
        simp [h.evs hv, sval, run_fieldOff w ho]
      · cases hp
    · cases hp
  case nilCheck x =>
    split at hp
    · rename_i k off hv
      cases hp
      simp [h.evs hv, sval]
    · rename_i b hv
      cases hp
      simp [h.evs hv, sval]
    · rename_i f p q hv
      cases hp
      simp [h.evs hv, sval]
    · rename_i f p q hv
      cases hp
      simp [h.evs hv, sval]
    · rename_i t v hv
      cases hp
      simp [h.evs hv, sval]
    · cases hp
  case binOp op T x y yt =>
    split at hp
    · rename_i u v hu hv
      split at hp
      · rename_i r hr
        cases hp
        have hg : (eqGuard op T x y u v).run P w = .ok () w := by
          by_cases ha : ∃ xs ys, u = .agg xs ∧ v = .agg ys
          · obtain ⟨xs, ys, rfl, rfl⟩ := ha
            refine run_eqGuard_agg w op T x y xs ys ?_
            simp only [binPure] at hr
            split at hr
            · rename_i r hr2; exact aggEq_guard hr2
            · cases hr
          · refine run_eqGuard_plain op T x y u v w ?_
            unfold binPure at hr
            cases u <;> cases v <;> first | rfl | (simp at hr; done) | exact absurd ⟨_, _, rfl, rfl⟩ ha
        simp [h.evv hu, h.evv hv, hg, run_binPure w hr, sval]
      · cases hp
    · cases hp
  case unOp op T x =>
    split at hp
    · rename_i u hu
      split at hp
      · rename_i r hr
        cases hp
        simp [h.evv hu, run_unPure w hr, sval]
      · cases hp
    · cases hp
  case convert S D x =>
    split at hp
    · rename_i k m hv
      split at hp
      · rename_i d q h1 h2
        cases hp
        cases d <;> simp [h.evv hv, convert, run_underlying h1, run_underlying h2, Conv.intToInt, sval]
      · rename_i d h1 h2
        cases hp
        cases d <;> simp [h.evv hv, convert, run_underlying h1, run_underlying h2, Conv.intToString, sval]
      · cases hp
    · rename_i s' hv
      split at hp
      · rename_i d h1 h2
        cases hp
        cases d <;> simp [h.evv hv, convert, run_underlying h1, run_underlying h2, sval]
      · cases hp
    · cases hp
  case makeInterface T x =>
    split at hp
    · rename_i v hv
      split at hp
      · cases hp
      · rename_i d hd hu
        cases hp
        cases d <;> simp_all [h.evv hv, Instr.makeInterface, run_underlying hu, sval]
      · cases hp
    · cases hp
  case makeFunc fn first cap =>
    split at hp
    · rename_i p q h1 h2
      cases hp
      simp [args_eval h h1, args_eval h h2, Instr.makeFunc, sval]
    · cases hp
  case call c =>
    split at hp
    · rename_i hc
      obtain ⟨cs, hr⟩ := resolve_builtin (P := P) (w := w) .len c o.type hc a.eval
      split at hp
      · rename_i t s' h1 h2
        split at hp
        · rename_i hu
          cases hp
          have e1 : c.argTypes = #[t] := by rw [← Array.toList_inj]; simpa using h1
          have e2 : c.args.map a.eval = #[.string s'] := args_eval h h2
          simp [hr, invoke, builtin, Builtin.len_, e1, e2, run_underlying hu, goInt, sval]
        · cases hp
      · rename_i t p m c' h1 h2
        split at hp
        · rename_i hu
          cases hp
          have e1 : c.argTypes = #[t] := by rw [← Array.toList_inj]; simpa using h1
          have e2 : c.args.map a.eval = #[.slice p m c'] := args_eval h h2
          simp [hr, invoke, builtin, Builtin.len_, e1, e2, run_underlying hu, goInt, sval]
        · cases hp
      · rename_i t h1 h2
        split at hp
        · rename_i hu
          cases hp
          have e1 : c.argTypes = #[t] := by rw [← Array.toList_inj]; simpa using h1
          have e2 : c.args.map a.eval = #[.map none] := args_eval h h2
          simp [hr, invoke, builtin, Builtin.len_, e1, e2, run_underlying hu, goInt, sval]
        · cases hp
      · cases hp
    · rename_i hc
      obtain ⟨cs, hr⟩ := resolve_builtin (P := P) (w := w) .cap c o.type hc a.eval
      split at hp
      · rename_i t p m c' h1 h2
        split at hp
        · rename_i hu
          cases hp
          have e1 : c.argTypes = #[t] := by rw [← Array.toList_inj]; simpa using h1
          have e2 : c.args.map a.eval = #[.slice p m c'] := args_eval h h2
          simp [hr, invoke, builtin, Builtin.cap_, e1, e2, run_underlying hu, goInt, sval]
        · cases hp
      · cases hp
    · rename_i hc
      obtain ⟨cs, hr⟩ := resolve_builtin (P := P) (w := w) .min c o.type hc a.eval
      split at hp
      · rename_i k x k' y h2
        cases hp
        have e2 : c.args.map a.eval = #[.int k x, .int k' y] := args_eval h h2
        simp [hr, invoke, builtin, e2, run_min_int2, sval]
      · cases hp
    · rename_i hc
      obtain ⟨cs, hr⟩ := resolve_builtin (P := P) (w := w) .max c o.type hc a.eval
      split at hp
      · rename_i k x k' y h2
        cases hp
        have e2 : c.args.map a.eval = #[.int k x, .int k' y] := args_eval h h2
        simp [hr, invoke, builtin, e2, run_max_int2, sval]
      · cases hp
    · cases hp
end
end Go.Proofs.YtmcaejnofmbilaaGreat.Tri
