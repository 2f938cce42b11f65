/- The operation's clause as one; a region in the order of its text; control; the function. -/
import Derived.Test.YtmcaejnofmbilaaGreatTriG
namespace Go.Proofs.YtmcaejnofmbilaaGreat.Tri
set_option linter.all false
open Go.RowKit

def svcOp (P : Program) (cfg : Cfg) (e : Env) (bx : Bx) (L : Heap) (o : Oper) (K : SV → Bx → Heap → Prop) : Prop :=
  match pureOp P e o with
  | some s => K s bx L
  | none => match o.op with
    | .pick c x y => svcPick e bx L c x y K
    | .nilCheck x => svcNil e bx L x K
    | .alloc T => match zeroOf P T with
      | some z => svcAlloc cfg e bx L o.dst T z K
      | none => False
    | .box T x => match evv e x with
      | some v => svcAlloc cfg e bx L o.dst T v K
      | none => False
    | .load T x => svcLoad P cfg e bx L T x K
    | .store T x y => svcStore P cfg e bx L T x y K
    | .binOp op T x y _ => svcBin P e bx L op T x y K
    | .index T x i => svcIndex P e bx L T x i K
    | .indexAddr T x i => svcIndexAddr P cfg e bx L T x i K
    | .slice T x lo hi mx => svcSlice P e bx L T x lo hi mx K
    | .buildSlice T k parts => svcBuildSlice P e bx L T k parts K
    | .makeSlice T l c => svcMakeSlice P e bx L T l c K
    | .call c => match c.callee with
      | .value f => svcCall P cfg e bx L f c.args.toList o.type K
      | .builtin .append => svcAppend P cfg e bx L c.argTypes.toList c.args.toList K
      | .builtin .copy => svcCopy P cfg e bx L c.argTypes.toList c.args.toList K
      | .builtin .clear => svcClear P cfg e bx L c.argTypes.toList c.args.toList K
      | _ => False
    | .convert S D x => svcConvert P e bx L S D x K
    | .range T x => svcRangeS P e bx L T x K
    | .next it true => svcNextS cfg e bx L it K
    | _ => False

section
variable {P : Program} {R : Rl} {cfg : Cfg} {n m : Nat} {ds : Dq} {ro : Option Nat} {β : Nat → Nat} {e : Env} {bx : Bx} {L : Heap} {a : Act} {w : World} {o : Oper} {K : SV → Bx → Heap → Prop} {next : Act → World → Prop} {Q : Exit → Act → World → Prop}
theorem svcOp_sound (hR : RK cfg R) (h : St R n ds β e bx L a w) (hs : svcOp P cfg e bx L o K) (hg : Goes R n ds e a o K next) : o.wpIn (WF ro) m P a w next Q := by
  unfold svcOp at hs
  split at hs
  · rename_i s hp
    obtain ⟨hr, hd⟩ := pureOp_run (P := P) h hp
    exact wpIn_value hd hr (hg s bx L β w hs h)
  · split at hs
    · rename_i ho; exact svcPick_sound h ho hs hg
    · rename_i ho; exact svcNil_sound h ho hs hg
    · rename_i T ho
      split at hs
      · rename_i z hz
        refine svcAlloc_sound hR h hs hg (fun c hc => by rw [ho] at hc; cases hc) ?_
        simp [execOp, ho, Instr.alloc, run_zeroOf w hz, newVar, newRow]
      · exact hs.elim
    · rename_i T x ho
      split at hs
      · rename_i v hv
        refine svcAlloc_sound hR h hs hg (fun c hc => by rw [ho] at hc; cases hc) ?_
        simp [execOp, ho, Instr.box, h.evv hv, newVar, newRow]
      · exact hs.elim
    · rename_i ho; exact svcLoad_sound hR h ho hs hg
    · rename_i ho; exact svcStore_sound hR h ho hs hg
    · rename_i ho; exact svcBin_sound hR h ho hs hg
    · rename_i ho; exact svcIndex_sound h ho hs hg
    · rename_i ho; exact svcIndexAddr_sound h ho hs hg
    · rename_i ho; exact svcSlice_sound h ho hs hg
    · rename_i ho; exact svcBuildSlice_sound hR h ho hs hg
    · rename_i ho; exact svcMakeSlice_sound hR h ho hs hg
    · rename_i c ho
      split at hs
      · rename_i f hc; exact svcCall_sound hR h ho hc hs hg
      · rename_i hc; exact svcAppend_sound hR h ho hc hs hg
      · rename_i hc; exact svcCopy_sound hR h ho hc hs hg
      · rename_i hc; exact svcClear_sound hR h ho hc hs hg
      · exact hs.elim
    · rename_i ho; exact svcConvert_sound hR h ho hs hg
    · rename_i ho; exact svcRangeS_sound hR h ho hs hg
    · rename_i ho; exact svcNextS_sound hR h ho hs hg
    · exact hs.elim

/-! a region -/
def putS (n : Nat) (dst : Option Nat) (e : Env) (s : SV) (K : Env → Prop) : Prop :=
  match dst with
  | some d => match Nat.blt d n with
    | true => K ((d, s) :: e)
    | false => False
  | none => K e
theorem putS_elim {dst : Option Nat} {s : SV} {K : Env → Prop} (h : St R n ds β e bx L a w) (hp : putS n dst e s K) : ∃ e', K e' ∧ St R n ds β e' bx L (a.put dst (sval β s)) w := by
  unfold putS at hp
  split at hp
  · rename_i d
    split at hp
    · rename_i hd
      exact ⟨_, hp, h.put (by simpa [Nat.blt_eq] using hd) s⟩
    · exact hp.elim
  · exact ⟨e, hp, h⟩
/-- Is the operation carried out? -/
def svcGuard (ops : Array Oper) (e : Env) (o : Oper) : Option Bool :=
  match o.guard with
  | none => some true
  | some (j, want) => match ops[j]? with
    | some oj => match oj.dst with
      | some d => match get e d with
        | some (.v (.bool t)) => match want with
          | true => some t
          | false => some (!t)
        | some (.v (.tuple _)) => some false
        | _ => none
      | none => none
    | none => none
theorem svcGuard_wanted (h : St R n ds β e bx L a w) {ops : Array Oper} {g : Bool} (hg : svcGuard ops e o = some g) : Region.wanted o (yielded ops a.tmps) = g := by
  unfold svcGuard at hg
  unfold Region.wanted
  split at hg
  · rename_i hn; simp only [Option.some.injEq] at hg; rw [hn]; simp [hg]
  · rename_i j want hn
    rw [hn]
    simp only
    split at hg
    · rename_i oj hj
      split at hg
      · rename_i d hd
        split at hg
        · rename_i t ht
          have hv := h.val d _ ht
          have hy : yielded ops a.tmps j = some t := by
            unfold yielded
            simp only [hj, Option.bind_some, hd]
            simp only [sval] at hv
            rw [Array.getD_eq_getD_getElem?] at hv
            cases hx : a.tmps[d]? with
            | none => rw [hx] at hv; simp [undef] at hv
            | some x => rw [hx] at hv; simp only [Option.getD_some] at hv; subst hv; rfl
          rw [hy]
          cases want <;> simp only [Option.some.injEq] at hg <;> subst hg <;> cases t <;> rfl
        · rename_i xs ht
          have hv := h.val d _ ht
          have hy : yielded ops a.tmps j = none := by
            unfold yielded
            simp only [hj, Option.bind_some, hd]
            simp only [sval] at hv
            rw [Array.getD_eq_getD_getElem?] at hv
            cases hx : a.tmps[d]? with
            | none => rfl
            | some x => rw [hx] at hv; simp only [Option.getD_some] at hv; subst hv; rfl
          rw [hy]
          simp only [Option.some.injEq] at hg; subst hg; rfl
        · cases hg
      · cases hg
    · cases hg
def isSrcL (j : Nat) : List Oper → Bool
  | [] => false
  | o :: r => match o.guard with
    | some (i, _) => match Nat.beq i j with
      | true => true
      | false => isSrcL j r
    | none => isSrcL j r
/-- A test that guards is decided where it is yielded. -/
def splitS (b : Bool) (s : SV) (K : SV → Prop) : Prop :=
  match b with
  | true => match s with
    | .v (.bool t) => pIf t (K (.v (.bool true))) (K (.v (.bool false)))
    | s => K s
  | false => K s
theorem splitS_elim {b : Bool} {s : SV} {K : SV → Prop} (h : splitS b s K) : K s := by
  unfold splitS at h
  split at h
  · split at h
    · rename_i t
      cases t <;> exact h
    · exact h
  · exact h
def svcOps (P : Program) (cfg : Cfg) (n : Nat) (ops : Array Oper) : List Oper → Nat → Env → Bx → Heap → (Env → Bx → Heap → Prop) → Prop
  | [], _, e, bx, L, K => K e bx L
  | o :: rest, j, e, bx, L, K =>
    match svcGuard ops e o with
    | some g => pIf g
        (svcOp P cfg e bx L o fun s bx' M => splitS (isSrcL j rest) s fun s' => putS n o.dst e s' fun e' => svcOps P cfg n ops rest (j + 1) e' bx' M K)
        (putS n o.dst e (.v undef) fun e' => svcOps P cfg n ops rest (j + 1) e' bx L K)
    | none => False

/-- What the state says at a way out. -/
def StQ (R : Rl) (n lo : Nat) (Q : Exit → Env → Bx → Heap → Prop) : Exit → Act → World → Prop := fun x a w => ∃ ds β e bx L, ds.lo = lo ∧ Q x e bx L ∧ St R n ds β e bx L a w

theorem svcOps_sound (hR : RK cfg R) {ops : Array Oper} {Kq : Env → Bx → Heap → Prop} {ds : Dq} (hQ : ∀ {β e bx L a w}, Kq e bx L → St R n ds β e bx L a w → Q .normal a w) :
    ∀ (l : List Oper) (j : Nat) (β : Nat → Nat) (e : Env) (bx : Bx) (L : Heap) (a : Act) (w : World), (∀ i, l[i]? = ops[j + i]?) → svcOps P cfg n ops l j e bx L Kq → St R n ds β e bx L a w →
      wpOpsIn (WF ro) m P ops Q (List.range' j l.length) a w
  | [], j, β, e, bx, L, a, w, _, hs, h => by
    simp only [List.length_nil, List.range'_zero, wpOpsIn]
    exact hQ hs h
  | o :: rest, j, β, e, bx, L, a, w, hl, hs, h => by
    have h0 : ops[j]? = some o := by have := hl 0; simpa using this.symm
    have hl' : ∀ i, rest[i]? = ops[j + 1 + i]? := fun i => by have := hl (i + 1); simp only [List.getElem?_cons_succ] at this; rw [this]; congr 1; omega
    simp only [List.length_cons, List.range'_succ, wpOpsIn, h0]
    unfold svcOps at hs
    split at hs
    · rename_i g hg
      have hw := svcGuard_wanted h hg
      cases g with
      | true =>
        rw [if_pos hw]
        simp only [pIf] at hs
        refine svcOp_sound hR h hs fun s bx' M β' w' hk hst => ?_
        obtain ⟨e', hk', hst'⟩ := putS_elim hst (splitS_elim hk)
        exact svcOps_sound hR hQ rest (j + 1) β' e' bx' M _ w' hl' hk' hst'
      | false =>
        rw [if_neg (by rw [hw]; simp)]
        refine ⟨fun _ _ => trivial, ?_⟩
        simp only [pIf] at hs
        obtain ⟨e', hk', hst'⟩ := putS_elim h hs
        exact svcOps_sound hR hQ rest (j + 1) β e' bx L _ w hl' hk' hst'
    · exact hs.elim
end
end Go.Proofs.YtmcaejnofmbilaaGreat.Tri
