/- The movable operations: what they yield does not hang on their place. -/
import Derived.Test.YtmcaejnofmbilaaGreatTriI
namespace Go.Proofs.YtmcaejnofmbilaaGreat.Tri
set_option linter.all false
open Go.RowKit
section
variable {P : Program} {cfg : Cfg} {e : Env} {bx : Bx} {L : Heap} {o : Oper} {K : SV → Bx → Heap → Prop}
theorem tyExs_mov {g : TypeId → (Value → Prop) → Prop} (hg : ∀ t k, g t k → ∃ v, k v ∧ ∀ k' : Value → Prop, k' v → g t k') : ∀ (ts : List TypeId) (k : List Value → Prop), tyExs g ts k → ∃ vs, k vs ∧ ∀ k' : List Value → Prop, k' vs → tyExs g ts k'
  | [], k, h => ⟨[], h, fun _ h => h⟩
  | t :: ts, k, h => by
    obtain ⟨v, hv, h1⟩ := hg _ _ h
    obtain ⟨vs, hvs, h2⟩ := tyExs_mov hg ts _ hv
    exact ⟨_, hvs, fun k' hk => h1 _ (h2 _ hk)⟩
theorem tyEx_mov : ∀ (f : Nat) (T : TypeId) (k : Value → Prop), tyEx P f T k → ∃ v, k v ∧ ∀ k' : Value → Prop, k' v → tyEx P f T k'
  | 0, _, _, h => let ⟨v, hv⟩ := h; ⟨v, hv, fun _ hk => ⟨v, hk⟩⟩
  | f + 1, T, k, h => by
    unfold tyEx at h ⊢
    split at h
    · exact let ⟨_, hx⟩ := h; ⟨_, hx, fun _ hk => ⟨_, hk⟩⟩
    · exact let ⟨_, hx⟩ := h; ⟨_, hx, fun _ hk => ⟨_, hk⟩⟩
    · exact let ⟨_, hx⟩ := h; ⟨_, hx, fun _ hk => ⟨_, hk⟩⟩
    · exact let ⟨_, hx⟩ := h; ⟨_, hx, fun _ hk => ⟨_, hk⟩⟩
    · exact let ⟨_, _, _, hx⟩ := h; ⟨_, hx, fun _ hk => ⟨_, _, _, hk⟩⟩
    · exact let ⟨_, hx⟩ := h; ⟨_, hx, fun _ hk => ⟨_, hk⟩⟩
    · exact let ⟨_, hx, h2⟩ := tyExs_mov (tyEx_mov f) _ _ h; ⟨_, hx, fun _ hk => h2 _ hk⟩
    · exact let ⟨_, hx, h2⟩ := tyExs_mov (tyEx_mov f) _ _ h; ⟨_, hx, fun _ hk => h2 _ hk⟩
    · exact let ⟨v, hx⟩ := h; ⟨v, hx, fun _ hk => ⟨v, hk⟩⟩
theorem svcPick_mov {c x y : Operand} (h : svcPick e bx L c x y K) : ∃ s, K s bx L ∧ ∀ bx2 L2 K', K' s bx2 L2 → svcPick e bx2 L2 c x y K' := by
  unfold svcPick at h
  split at h
  · rename_i t ht
    cases t <;> simp only [pIf] at h <;> split at h <;> first
      | exact h.elim
      | (rename_i s hx
         refine ⟨_, h, fun _ _ _ hk => ?_⟩
         unfold svcPick
         simp only [ht, pIf, hx]
         exact hk)
  · exact h.elim
theorem svcNil_mov {x : Operand} (h : svcNil e bx L x K) : ∃ s, K s bx L ∧ ∀ bx2 L2 K', K' s bx2 L2 → svcNil e bx2 L2 x K' := by
  unfold svcNil at h
  split at h
  · rename_i p hx
    cases p with
    | none => exact (h : False).elim
    | some ad =>
      refine ⟨_, h, fun _ _ _ hk => ?_⟩
      unfold svcNil
      simp only [hx]
      exact hk
  · exact h.elim
theorem svcIndex_mov {T : TypeId} {x i : Operand} (h : svcIndex P e bx L T x i K) : ∃ s, K s bx L ∧ ∀ bx2 L2 K', K' s bx2 L2 → svcIndex P e bx2 L2 T x i K' := by
  unfold svcIndex at h
  split at h
  · rename_i hu
    split at h
    · rename_i s k j hx hi
      obtain ⟨h0, b, hb, hk⟩ := h
      refine ⟨_, hk, fun _ _ _ hk => ?_⟩
      unfold svcIndex
      simp only [hu, hx, hi]
      exact ⟨h0, b, hb, hk⟩
    · exact h.elim
  · exact h.elim
theorem svcIndexAddr_mov {T : TypeId} {x i : Operand} (h : svcIndexAddr P cfg e bx L T x i K) : ∃ s, K s bx L ∧ ∀ bx2 L2 K', K' s bx2 L2 → svcIndexAddr P cfg e bx2 L2 T x i K' := by
  unfold svcIndexAddr at h
  split at h
  · rename_i el hu
    split at h
    · rename_i it p len c k j hi hx hj
      obtain ⟨h0, h1, hk⟩ := h
      cases p with
      | none => exact (hk : False).elim
      | some ad =>
        refine ⟨_, hk, fun _ _ _ hk => ?_⟩
        unfold svcIndexAddr
        simp only [hu, hi, hx, hj]
        exact ⟨h0, h1, hk⟩
    · exact h.elim
  · rename_i len el hu
    split at h
    · rename_i it ad k j hi hx hj
      obtain ⟨h0, h1, hk⟩ := h
      refine ⟨_, hk, fun _ _ _ hk => ?_⟩
      unfold svcIndexAddr
      simp only [hu, hi, hx, hj]
      exact ⟨h0, h1, hk⟩
    · rename_i it kk off k j hi hx hj
      split at h
      · rename_i hpr
        obtain ⟨h0, h1, hk⟩ := h
        refine ⟨_, hk, fun _ _ _ hk => ?_⟩
        unfold svcIndexAddr
        simp only [hu, hi, hx, hj, hpr]
        exact ⟨h0, h1, hk⟩
      · exact h.elim
    · exact h.elim
  · exact h.elim
theorem svcSlice_mov {T : TypeId} {x : Operand} {lo hi mx : Option Operand} (h : svcSlice P e bx L T x lo hi mx K) : ∃ s, K s bx L ∧ ∀ bx2 L2 K', K' s bx2 L2 → svcSlice P e bx2 L2 T x lo hi mx K' := by
  unfold svcSlice at h
  split at h
  · rename_i hu
    split at h
    · rename_i s hx
      split at h
      · rename_i l h' hl hh
        obtain ⟨h0, h1, h2, hk⟩ := h
        refine ⟨_, hk, fun _ _ _ hk => ?_⟩
        unfold svcSlice
        simp only [hu, hx, hl, hh]
        exact ⟨h0, h1, h2, hk⟩
      · exact h.elim
    · exact h.elim
  · rename_i el hu
    split at h
    · rename_i it p len cap hi hx
      split at h
      · rename_i l h' m q1 q2 q3 q4
        obtain ⟨h0, h1, h2, h3, hk⟩ := h
        refine ⟨_, hk, fun _ _ _ hk => ?_⟩
        unfold svcSlice
        simp only [hu, hi, hx, q1, q2, q3, q4]
        exact ⟨h0, h1, h2, h3, hk⟩
      · exact h.elim
    · exact h.elim
  · rename_i len el hu
    split at h
    · rename_i it ad hi hx
      split at h
      · rename_i l h' m q1 q2 q3 q4
        obtain ⟨h0, h1, h2, h3, hk⟩ := h
        refine ⟨_, hk, fun _ _ _ hk => ?_⟩
        unfold svcSlice
        simp only [hu, hi, hx, q1, q2, q3, q4]
        exact ⟨h0, h1, h2, h3, hk⟩
      · exact h.elim
    · exact h.elim
  · exact h.elim
theorem svcLoad_mov {T : TypeId} {x : Operand} (h : svcLoad P cfg e bx L T x K) : ∃ s, K s bx L ∧ ∀ K', K' s bx L → svcLoad P cfg e bx L T x K' := by
  unfold svcLoad at h
  split at h
  · rename_i k off hx
    split at h
    · rename_i cs hpr hk
      split at h
      · rename_i v hv
        refine ⟨_, h, fun _ hk' => ?_⟩
        unfold svcLoad
        simp only [hx, hpr, hk, hv]
        exact hk'
      · exact h.elim
    · exact h.elim
  · rename_i ad hx
    obtain ⟨v, hv, hm⟩ := tyEx_mov _ _ _ h
    split at hv
    · rename_i h1
      refine ⟨_, hv.2, fun K' hk => ?_⟩
      unfold svcLoad
      simp only [hx]
      refine hm _ ?_
      simp only [h1]
      exact ⟨hv.1, hk⟩
    · exact hv.elim
  · exact h.elim
theorem svcBin_mov {op : BinOp} {T : TypeId} {x y : Operand} (h : svcBin P e bx L op T x y K) : ∃ s, K s bx L ∧ (∀ K', K' s bx L → svcBin P e bx L op T x y K') ∧ ((match op with | .eql => false | .neq => false | _ => true) = true → ∀ bx2 L2 K', K' s bx2 L2 → svcBin P e bx2 L2 op T x y K') := by
  have both : ∀ {s}, K s bx L → (∀ bx2 L2 K', K' s bx2 L2 → svcBin P e bx2 L2 op T x y K') → ∃ s, K s bx L ∧ (∀ K', K' s bx L → svcBin P e bx L op T x y K') ∧ ((match op with | .eql => false | .neq => false | _ => true) = true → ∀ bx2 L2 K', K' s bx2 L2 → svcBin P e bx2 L2 op T x y K') :=
    fun {s} h1 h2 => ⟨s, h1, fun K' hk => h2 _ _ K' hk, fun _ => h2⟩
  unfold svcBin at h
  split at h
  · rename_i k u k' v hx hy
    split at h
    · split at h
      · rename_i hk
        refine both h.2 fun _ _ _ hK => ?_
        unfold svcBin; simp only [hx, hy, hk]; exact ⟨h.1, hK⟩
      · exact h.elim
    · split at h
      · rename_i hk
        refine both h.2 fun _ _ _ hK => ?_
        unfold svcBin; simp only [hx, hy, hk]; exact ⟨h.1, hK⟩
      · exact h.elim
    · refine both h.2 fun _ _ _ hK => ?_
      unfold svcBin; simp only [hx, hy]; exact ⟨h.1, hK⟩
    · refine both h.2 fun _ _ _ hK => ?_
      unfold svcBin; simp only [hx, hy]; exact ⟨h.1, hK⟩
    · exact h.elim
  · rename_i s t hx hy
    split at h
    · refine both h.2 fun _ _ _ hK => ?_
      unfold svcBin; simp only [hx, hy]; exact ⟨h.1, hK⟩
    · exact h.elim
  · rename_i p q hx hy
    split at h
    · rename_i el hu
      split at h
      · rename_i i hi
        split at h
        · exact h.elim
        · rename_i k hs
          obtain ⟨r, h1, h2, h3⟩ := h
          split at h3
          · refine ⟨_, h3, fun _ hK => ?_, fun hc => by simp at hc⟩
            unfold svcBin; simp only [hx, hy, hu, hi, hs]; exact ⟨r, h1, h2, hK⟩
          · refine ⟨_, h3, fun _ hK => ?_, fun hc => by simp at hc⟩
            unfold svcBin; simp only [hx, hy, hu, hi, hs]; exact ⟨r, h1, h2, hK⟩
          · exact h3.elim
      · exact h.elim
    · exact h.elim
  · rename_i hx hy
    split at h
    · rename_i hc
      split at h
      · rename_i hu
        split at h
        · refine both h fun _ _ _ hK => ?_
          unfold svcBin; simp only [hx, hy, hc, hu]; exact hK
        · refine both h fun _ _ _ hK => ?_
          unfold svcBin; simp only [hx, hy, hc, hu]; exact hK
        · exact h.elim
      · exact h.elim
    · exact h.elim
  · exact h.elim
theorem svcOp_mov (hm : movable P o = true) (h : svcOp P cfg e bx L o K) :
    ∃ s, K s bx L ∧ (∀ K', K' s bx L → svcOp P cfg e bx L o K') ∧ (memDep o = false → ∀ bx2 L2 K', K' s bx2 L2 → svcOp P cfg e bx2 L2 o K') := by
  have both : ∀ {s}, K s bx L → (∀ bx2 L2 K', K' s bx2 L2 → svcOp P cfg e bx2 L2 o K') → ∃ s, K s bx L ∧ (∀ K', K' s bx L → svcOp P cfg e bx L o K') ∧ (memDep o = false → ∀ bx2 L2 K', K' s bx2 L2 → svcOp P cfg e bx2 L2 o K') :=
    fun {s} h1 h2 => ⟨s, h1, fun K' hk => h2 _ _ K' hk, fun _ => h2⟩
  unfold svcOp at h
  split at h
  · rename_i s hp
    refine both h fun _ _ _ hK => ?_
    unfold svcOp; simp only [hp]; exact hK
  · rename_i hp
    split at h
    · rename_i ho; obtain ⟨s, h1, h2⟩ := svcPick_mov h; refine both h1 fun _ _ _ hK => ?_
      unfold svcOp; simp only [hp, ho]; exact h2 _ _ _ hK
    · rename_i ho; obtain ⟨s, h1, h2⟩ := svcNil_mov h; refine both h1 fun _ _ _ hK => ?_
      unfold svcOp; simp only [hp, ho]; exact h2 _ _ _ hK
    · rename_i ho; simp [movable, ho] at hm
    · rename_i ho; simp [movable, ho] at hm
    · rename_i ho; obtain ⟨s, h1, h2⟩ := svcLoad_mov h
      refine ⟨s, h1, fun _ hK => ?_, fun hmd => by simp [memDep, ho] at hmd⟩
      unfold svcOp; simp only [hp, ho]; exact h2 _ hK
    · rename_i ho; simp [movable, ho] at hm
    · rename_i op T x y yT ho
      obtain ⟨s, h1, h2, h3⟩ := svcBin_mov h
      refine ⟨s, h1, fun _ hK => ?_, fun hmd _ _ _ hK => ?_⟩
      · unfold svcOp; simp only [hp, ho]; exact h2 _ hK
      · unfold svcOp; simp only [hp, ho]
        refine h3 ?_ _ _ _ hK
        unfold memDep at hmd
        rw [ho] at hmd
        cases op <;> first | rfl | (simp at hmd)
    · rename_i ho; obtain ⟨s, h1, h2⟩ := svcIndex_mov h; refine both h1 fun _ _ _ hK => ?_
      unfold svcOp; simp only [hp, ho]; exact h2 _ _ _ hK
    · rename_i ho; obtain ⟨s, h1, h2⟩ := svcIndexAddr_mov h; refine both h1 fun _ _ _ hK => ?_
      unfold svcOp; simp only [hp, ho]; exact h2 _ _ _ hK
    · rename_i ho; obtain ⟨s, h1, h2⟩ := svcSlice_mov h; refine both h1 fun _ _ _ hK => ?_
      unfold svcOp; simp only [hp, ho]; exact h2 _ _ _ hK
    · rename_i ho; simp [movable, ho] at hm
    · rename_i ho; simp [movable, ho] at hm
    · rename_i c ho
      split at h
      · rename_i hc; simp [movable, ho, hc] at hm
      · rename_i hc; simp [movable, ho, hc] at hm
      · rename_i hc; simp [movable, ho, hc] at hm
      · rename_i hc; simp [movable, ho, hc] at hm
      · exact h.elim
    · rename_i S D x ho
      unfold movable at hm
      rw [ho] at hm
      simp only at hm
      split at hm
      · rename_i k k' hS hD
        unfold svcConvert at h
        split at h
        · rw [hS] at h; exact h.elim
        · rw [hS] at h; exact h.elim
        · exact h.elim
      · cases hm
    · rename_i ho; simp [movable, ho] at hm
    · rename_i ho; simp [movable, ho] at hm
    · exact h.elim

/-! what the environment says elsewhere is not asked -/
variable {e2 : Env}
theorem evv_congr {x : Operand} (h : evs e x = evs e2 x) : evv e x = evv e2 x := by unfold evv; rw [h]
theorem evvs_congr : ∀ {xs : List Operand}, (∀ x ∈ xs, evs e x = evs e2 x) → evvs e xs = evvs e2 xs
  | [], _ => rfl
  | x :: r, h => by
    unfold evvs
    rw [evv_congr (h x (by simp)), evvs_congr (fun y hy => h y (by simp [hy]))]
theorem bnd_congr {x : Option Operand} {d : Nat} (h : ∀ y, x = some y → evs e y = evs e2 y) : bnd e x d = bnd e2 x d := by
  cases x with
  | none => rfl
  | some y => unfold bnd; simp only [evv_congr (h y rfl)]
theorem svcOp_congr (hm : movable P o = true) (h : ∀ x ∈ o.op.operands, evs e x = evs e2 x) (hs : svcOp P cfg e bx L o K) : svcOp P cfg e2 bx L o K := by
  obtain ⟨dst, op, type, pos, after, guard⟩ := o
  have key : svcOp P cfg e bx L ⟨dst, op, type, pos, after, guard⟩ K = svcOp P cfg e2 bx L ⟨dst, op, type, pos, after, guard⟩ K := by
    have g : ∀ x ∈ op.operands, evs e x = evs e2 x := h
    have gv : ∀ x ∈ op.operands, evv e x = evv e2 x := fun x hx => evv_congr (g x hx)
    cases op <;> first | (simp [movable] at hm; done) | skip
    case move x => simp only [svcOp, pureOp, g x (by simp [Op.operands])]
    case pick c x y => simp only [svcOp, pureOp, svcPick, g x (by simp [Op.operands]), g y (by simp [Op.operands]), gv c (by simp [Op.operands])]
    case build t ps =>
      have h1 : evvs e (ps.toList.map (·.2)) = evvs e2 (ps.toList.map (·.2)) := evvs_congr fun x hx => g x (by simpa [Op.operands] using hx)
      simp only [svcOp, pureOp, h1]
    case extract x i => simp only [svcOp, pureOp, gv x (by simp [Op.operands])]
    case field S x f => simp only [svcOp, pureOp, gv x (by simp [Op.operands])]
    case fieldAddr S x f => simp only [svcOp, pureOp, g x (by simp [Op.operands])]
    case nilCheck x => simp only [svcOp, pureOp, svcNil, g x (by simp [Op.operands]), gv x (by simp [Op.operands])]
    case binOp op T x y yT => simp only [svcOp, pureOp, svcBin, gv x (by simp [Op.operands]), gv y (by simp [Op.operands])]
    case unOp op T x => simp only [svcOp, pureOp, gv x (by simp [Op.operands])]
    case convert S D x => simp only [svcOp, pureOp, svcConvert, gv x (by simp [Op.operands])]
    case makeInterface T x => simp only [svcOp, pureOp, gv x (by simp [Op.operands])]
    case index T x y => simp only [svcOp, pureOp, svcIndex, gv x (by simp [Op.operands]), gv y (by simp [Op.operands])]
    case indexAddr T x y => simp only [svcOp, pureOp, svcIndexAddr, g x (by simp [Op.operands]), gv x (by simp [Op.operands]), gv y (by simp [Op.operands])]
    case load T x => simp only [svcOp, pureOp, svcLoad, g x (by simp [Op.operands])]
    case slice T x lo hi mx =>
      have b1 : ∀ d, bnd e lo d = bnd e2 lo d := fun d => bnd_congr fun y hy => g y (by simp [Op.operands, hy])
      have b2 : ∀ d, bnd e hi d = bnd e2 hi d := fun d => bnd_congr fun y hy => g y (by simp [Op.operands, hy])
      have b3 : ∀ d, bnd e mx d = bnd e2 mx d := fun d => bnd_congr fun y hy => g y (by simp [Op.operands, hy])
      simp only [svcOp, pureOp, svcSlice, gv x (by simp [Op.operands]), b1, b2, b3]
    case makeFunc fn first cap =>
      have h1 : evvs e first.toList = evvs e2 first.toList := evvs_congr fun x hx => g x (by simp [Op.operands]; exact .inl (by simpa using hx))
      have h2 : evvs e cap.toList = evvs e2 cap.toList := evvs_congr fun x hx => g x (by simp [Op.operands]; exact .inr (by simpa using hx))
      simp only [svcOp, pureOp, h1, h2]
    case call c =>
      have h1 : evvs e c.args.toList = evvs e2 c.args.toList := evvs_congr fun x hx => g x (by simp [Op.operands, Call.operands]; exact .inr (by simpa using hx))
      unfold movable at hm
      simp only at hm
      split at hm <;> first
        | (cases hm; done)
        | (rename_i hc
           simp only [svcOp, pureOp, hc, h1])
  exact key ▸ hs
end
end Go.Proofs.YtmcaejnofmbilaaGreat.Tri
