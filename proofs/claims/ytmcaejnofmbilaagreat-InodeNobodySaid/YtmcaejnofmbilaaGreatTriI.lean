/- Regions whose order is drawn: what is asked. -/
import Derived.Test.YtmcaejnofmbilaaGreatTriH
namespace Go.Proofs.YtmcaejnofmbilaaGreat.Tri
set_option linter.all false
open Go.RowKit

def bindsAny (ed : Edge) : Bool := match ed.ground with
  | .textOnly _ => false
  | .gcOnly _ => false
  | _ => true
def depsOK (E : List Nat) : List Edge → Bool
  | [] => true
  | ed :: r => match bindsAny ed with
    | true => match memN ed.on E with
      | true => depsOK E r
      | false => false
    | false => depsOK E r
/-- May its place be moved: it only reads and computes. -/
def movable (P : Program) (o : Oper) : Bool :=
  match o.op with
  | .convert S D _ => match P.underlying S, P.underlying D with
    | some (.int _), some (.int _) => true
    | _, _ => false
  | .move _ | .pick _ _ _ | .build _ _ | .extract _ _ | .field _ _ _ | .fieldAddr _ _ _ | .nilCheck _ | .binOp _ _ _ _ _ | .unOp _ _ _ | .makeInterface _ _ | .makeFunc _ _ _
  | .index _ _ _ | .indexAddr _ _ _ | .slice _ _ _ _ _ | .load _ _ => true
  | .call c => match c.callee with
    | .builtin .len => true
    | .builtin .cap => true
    | .builtin .min => true
    | .builtin .max => true
    | _ => false
  | _ => false
/-- Does what it yields hang on memory? -/
def memDep (o : Oper) : Bool :=
  match o.op with
  | .load _ _ => true
  | .binOp .eql _ _ _ _ => true
  | .binOp .neq _ _ _ _ => true
  | _ => false
def touches (o : Oper) : Bool :=
  match o.op with
  | .assign _ => false
  | _ => true
def readyAt (P : Program) (ops : List Oper) (E : List Nat) (want : Bool) : Nat → List Oper → List (Nat × Oper)
  | _, [] => []
  | j, o :: r => match memN j E with
    | true => readyAt P ops E want (j + 1) r
    | false => match depsOK E o.after.toList with
      | true => match movable P o, want with
        | true, true => (j, o) :: readyAt P ops E want (j + 1) r
        | false, false => (j, o) :: readyAt P ops E want (j + 1) r
        | _, _ => readyAt P ops E want (j + 1) r
      | false => readyAt P ops E want (j + 1) r
/-- What op i stands behind, with what these stand behind. -/
def behind (ops : List Oper) : Nat → List Nat → List Nat → List Nat
  | 0, _, acc => acc
  | _, [], acc => acc
  | f + 1, i :: todo, acc => match memN i acc with
    | true => behind ops f todo acc
    | false => match ops[i]? with
      | some o => behind ops f ((o.after.toList.filter bindsAny).map (·.on) ++ todo) (i :: acc)
      | none => behind ops f todo acc
/-- The reads that may still come behind op c. -/
def keepPend (bh : List Nat) : List (Nat × Oper × SV) → List (Nat × Oper × SV)
  | [] => []
  | p :: r => match memN p.1 bh with
    | true => keepPend bh r
    | false => p :: keepPend bh r
def recheck (P : Program) (cfg : Cfg) (e : Env) (bx : Bx) (L : Heap) : List (Nat × Oper × SV) → Prop → Prop
  | [], A => A
  | p :: r, A => svcOp P cfg e bx L p.2.1 (fun s _ _ => s = p.2.2) ∧ recheck P cfg e bx L r A
def recheckIf (b : Bool) (P : Program) (cfg : Cfg) (e : Env) (bx : Bx) (L : Heap) (l : List (Nat × Oper × SV)) (A : Prop) : Prop := match b with
  | true => recheck P cfg e bx L l A
  | false => A
def allP {α : Type} (f : α → Prop) : List α → Prop
  | [] => True
  | x :: r => match r with
    | [] => f x
    | _ => f x ∧ allP f r

/-- A new block of nothing, which may come whenever it likes: the walk lets it come late. -/
def allocLate (P : Program) (cfg : Cfg) (n : Nat) (o : Oper) : Bool :=
  match o.op with
  | .alloc T => match o.dst, o.guard, zeroOf P T with
    | some d, none, some _ => match cfg.pr && memN d cfg.prom with
      | true => false
      | false => Nat.blt d n
    | _, _, _ => false
  | _ => false
def notLate (P : Program) (cfg : Cfg) (n : Nat) : List (Nat × Oper) → List (Nat × Oper)
  | [] => []
  | p :: r => match allocLate P cfg n p.2 with
    | true => notLate P cfg n r
    | false => p :: notLate P cfg n r
def inCs (i : Nat) : List (Nat × Oper) → Bool
  | [] => false
  | p :: r => match Nat.beq p.1 i with
    | true => true
    | false => inCs i r
def othersBehind (all : List Oper) (E : List Nat) (cs : List (Nat × Oper)) (x : Nat) : Nat → List Oper → Bool
  | _, [] => true
  | j, _ :: r => match memN j E || inCs j cs || memN x (behind all 4096 [j] []) with
    | true => othersBehind all E cs x (j + 1) r
    | false => false
/-- What may come next: all that may; or one, if what else may is late. -/
def cands (P : Program) (cfg : Cfg) (n : Nat) (all : List Oper) (E : List Nat) (cs : List (Nat × Oper)) : List (Nat × Oper) :=
  match notLate P cfg n cs with
  | [x] => match othersBehind all E cs x.1 0 all with
    | true => [x]
    | false => cs
  | _ => cs
def svcD (P : Program) (cfg : Cfg) (n : Nat) (ops : Array Oper) : Nat → List Nat → List (Nat × Oper × SV) → Env → Bx → Heap → (Env → Bx → Heap → Prop) → Prop
  | 0, _, _, _, _, _, _ => False
  | f + 1, E, pend, e, bx, L, K =>
    match readyAt P ops.toList E true 0 ops.toList with
    | (i, o) :: _ => match svcGuard ops e o with
      | some g => pIf g
          (svcOp P cfg e bx L o fun s bx' M => splitS (isSrcL i ops.toList) s fun s' => putS n o.dst e s' fun e' =>
            svcD P cfg n ops f (i :: E) (match memDep o with
              | true => (i, o, s') :: pend
              | false => pend) e' bx' M K)
          (putS n o.dst e (.v undef) fun e' => svcD P cfg n ops f (i :: E) pend e' bx L K)
      | none => False
    | [] => match readyAt P ops.toList E false 0 ops.toList with
      | [] => match Nat.beq E.length ops.toList.length with
        | true => K e bx L
        | false => False
      | cs => allP (fun io : Nat × Oper => match svcGuard ops e io.2 with
        | some g => pIf g
            (svcOp P cfg e bx L io.2 fun s bx' M => recheckIf (touches io.2) P cfg e bx' M (keepPend (behind ops.toList 4096 [io.1] []) pend) (splitS (isSrcL io.1 ops.toList) s fun s' => putS n io.2.dst e s' fun e' =>
              svcD P cfg n ops f (io.1 :: E) (keepPend (behind ops.toList 4096 [io.1] []) pend) e' bx' M K))
            (putS n io.2.dst e (.v undef) fun e' => svcD P cfg n ops f (io.1 :: E) (keepPend (behind ops.toList 4096 [io.1] []) pend) e' bx L K)
        | none => False) (cands P cfg n ops.toList E cs)
/-- Is the region of a form that the law of orders takes: what a movable op writes is read behind it alone, and written by none else. -/
def formPair (P : Program) (ops : Array Oper) (oi : Oper) (i : Nat) (oj : Oper) (j : Nat) : Bool :=
  match oi.dst with
  | some d => match Nat.beq i j with
    | true => !(movable P oi && memN d (oi.looksAt ops))
    | false => !(memN d (oj.dst.toList ++ oj.looksAt ops)) || memN i (behind ops.toList 4096 [j] []) || (!(movable P oi) && memN j (behind ops.toList 4096 [i] []))
  | none => true
def formRow (P : Program) (ops : Array Oper) (oi : Oper) (i : Nat) : Nat → List Oper → Bool
  | _, [] => true
  | j, oj :: r => match formPair P ops oi i oj j with
    | true => formRow P ops oi i (j + 1) r
    | false => false
def formAll (P : Program) (ops : Array Oper) : Nat → List Oper → Bool
  | _, [] => true
  | i, oi :: r => match formRow P ops oi i 0 ops.toList with
    | true => formAll P ops (i + 1) r
    | false => false
def keysBelow (n : Nat) : Env → Bool
  | [] => true
  | p :: r => match Nat.blt p.1 n with
    | true => keysBelow n r
    | false => false
def svcDraw (P : Program) (cfg : Cfg) (n : Nat) (ops : Array Oper) (e : Env) (bx : Bx) (L : Heap) (K : Env → Bx → Heap → Prop) : Prop :=
  match formAll P ops 0 ops.toList with
  | true => match keysBelow n e with
    | true => svcD P cfg n ops (ops.toList.length + 1) [] [] e bx L K
    | false => False
  | false => False
end Go.Proofs.YtmcaejnofmbilaaGreat.Tri
