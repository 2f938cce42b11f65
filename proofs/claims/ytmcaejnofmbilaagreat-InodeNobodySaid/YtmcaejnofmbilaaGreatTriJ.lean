/- Control: the condition of a whole function. -/
import Derived.Test.YtmcaejnofmbilaaGreatTriI
namespace Go.Proofs.YtmcaejnofmbilaaGreat.Tri
set_option linter.all false
open Go.RowKit

abbrev Post := Exit → Env → Bx → Heap → Prop
def thenP (K : Env → Bx → Heap → Prop) (Q : Post) : Post := fun x e bx L => match x with
  | .normal => K e bx L
  | x => Q x e bx L
def inBlockP (id : Nat) (Q : Post) : Post := fun x e bx L => match x with
  | .exit id' => match Nat.beq id' id with
    | true => Q .normal e bx L
    | false => Q (.exit id') e bx L
  | x => Q x e bx L
def firstId : Code → Nat
  | .region id _ _ => id
  | .seq a _ => firstId a
  | .block _ c => firstId c
  | .loop c => firstId c
  | .scope c => firstId c
  | _ => 1000000

/-! ### Typed meeting points -/
/-- The shape of one cell. -/
inductive Sc where
  | int (k : IntKind)
  | bool
  | str
  | ptr
  | slc
  | map
  | any
/-- The shape of a slot. -/
inductive Sh where
  | one (s : Sc)
  | agg (l : List Sc)
  | tup (l : List Sc)
def Sc.Fn (s : Sc) (R : Type) : Type := match s with
  | .int _ => Int → R
  | .bool => Bool → R
  | .str => ByteArray → R
  | .ptr => Option Addr → R
  | .slc => Option Addr → Nat → Nat → R
  | .map => Option Nat → R
  | .any => Value → R
def Sc.all (s : Sc) (K : Value → Prop) : Prop := match s with
  | .int k => ∀ x : Int, K (.int k x)
  | .bool => ∀ x : Bool, K (.bool x)
  | .str => ∀ x : ByteArray, K (.string x)
  | .ptr => ∀ x : Option Addr, K (.pointer x)
  | .slc => ∀ (p : Option Addr) (m c : Nat), K (.slice p m c)
  | .map => ∀ x : Option Nat, K (.map x)
  | .any => ∀ v, K v
def Sc.ap {R : Type} (s : Sc) (f : s.Fn R) (v : Value) (K : R → Prop) : Prop := match s, f, v with
  | .int k, f, .int k' x => match decide (k = k') with
    | true => K (f x)
    | false => False
  | .bool, f, .bool x => K (f x)
  | .str, f, .string x => K (f x)
  | .ptr, f, .pointer x => K (f x)
  | .slc, f, .slice p m c => K (f p m c)
  | .map, f, .map x => K (f x)
  | .any, f, v => K (f v)
  | _, _, _ => False
def FnL : List Sc → Type → Type
  | [], R => R
  | s :: r, R => s.Fn (FnL r R)
def allL : List Sc → (List Value → Prop) → Prop
  | [], K => K []
  | s :: r, K => s.all fun v => allL r fun vs => K (v :: vs)
def apL {R : Type} : (l : List Sc) → FnL l R → List Value → (R → Prop) → Prop
  | [], f, [], K => K f
  | s :: r, f, v :: vs, K => s.ap (R := FnL r R) f v fun g => apL r g vs K
  | _, _, _, _ => False
def Sh.Fn (s : Sh) (R : Type) : Type := match s with
  | .one s => s.Fn R
  | .agg l => FnL l R
  | .tup l => FnL l R
def Sh.all (s : Sh) (K : Value → Prop) : Prop := match s with
  | .one s => s.all K
  | .agg l => allL l fun vs => K (.agg vs.toArray)
  | .tup l => allL l fun vs => K (.tuple vs.toArray)
def Sh.ap {R : Type} (s : Sh) (f : s.Fn R) (v : Value) (K : R → Prop) : Prop := match s, f, v with
  | .one s, f, v => s.ap f v K
  | .agg l, f, .agg cs => apL l f cs.toList K
  | .tup l, f, .tuple cs => apL l f cs.toList K
  | _, _, _ => False
/-- What is kept at a meeting point: slots that vary, slots that stay, boxes. -/
structure Cut where
  vars : List (Nat × Sh)
  consts : List Nat
  boxes : List (Nat × List Sc)
def FnV : List (Nat × Sh) → Type → Type
  | [], R => R
  | p :: r, R => p.2.Fn (FnV r R)
def allV : List (Nat × Sh) → (Env → Prop) → Prop
  | [], K => K []
  | p :: r, K => p.2.all fun v => allV r fun e => K ((p.1, .v v) :: e)
def apV {R : Type} : (l : List (Nat × Sh)) → FnV l R → Env → (R → Prop) → Prop
  | [], f, _, K => K f
  | p :: r, f, e, K => match get e p.1 with
    | some (.v v) => p.2.ap (R := FnV r R) f v fun g => apV r g e K
    | _ => False
def FnX : List (Nat × List Sc) → Type → Type
  | [], R => R
  | p :: r, R => FnL p.2 (FnX r R)
def allX : List (Nat × List Sc) → (Bx → Prop) → Prop
  | [], K => K []
  | p :: r, K => allL p.2 fun cs => allX r fun bx => K ((p.1, cs) :: bx)
def apX {R : Type} : (l : List (Nat × List Sc)) → FnX l R → Bx → (R → Prop) → Prop
  | [], f, _, K => K f
  | p :: r, f, bx, K => match get bx p.1 with
    | some cs => apL (R := FnX r R) p.2 f cs fun g => apX r g bx K
    | none => False
/-- With boxes that do not leave: each by itself; without: what stands there, whole. -/
def FnB (pr : Bool) (l : List (Nat × List Sc)) (R : Type) : Type := match pr with
  | true => FnX l R
  | false => Bx → R
def allB (pr : Bool) (l : List (Nat × List Sc)) (K : Bx → Prop) : Prop := match pr with
  | true => allX l K
  | false => ∀ bx, K bx
def apB {R : Type} (pr : Bool) (l : List (Nat × List Sc)) (f : FnB pr l R) (bx : Bx) (K : R → Prop) : Prop := match pr, f with
  | true, f => apX l f bx K
  | false, f => K (f bx)
def eqC (e0 e : Env) : List Nat → Prop → Prop
  | [], A => A
  | t :: r, A => match get e0 t with
    | some s0 => match get e t with
      | some s => s = s0 ∧ eqC e0 e r A
      | none => False
    | none => eqC e0 e r A
abbrev Inv (pr : Bool) (c : Cut) : Type := FnV c.vars (FnB pr c.boxes (Heap → Prop))
def apI (pr : Bool) (c : Cut) (I : Inv pr c) (e : Env) (bx : Bx) (L : Heap) : Prop := apV c.vars I e fun g => apB pr c.boxes g bx fun h => h L
def joinE : Env → Env → Env
  | [], f => f
  | p :: r, f => p :: joinE r f
/-- A meeting point that is passed once. -/
def pCut (pr : Bool) (c : Cut) (e0 : Env) (x : (Env → Bx → Heap → Prop) → Prop) (y : Env → Bx → Heap → Prop) : Prop :=
  ∃ J : Inv pr c, x (fun e bx L => eqC e0 e c.consts (apI pr c J e bx L)) ∧
    allV c.vars fun ev => allB pr c.boxes fun eb => ∀ L, apI pr c J ev eb L → y (joinE ev (trim c.consts e0)) eb L
/-- A loop. -/
def pLoop (pr : Bool) (c : Cut) (body : Post → Env → Bx → Heap → Prop) (Q : Post) (e0 : Env) (bx0 : Bx) (L0 : Heap) : Prop :=
  ∃ I : Nat → Inv pr c, (∃ k, apI pr c (I k) e0 bx0 L0) ∧
    ∀ k, allV c.vars fun ev => allB pr c.boxes fun eb => ∀ L, apI pr c (I k) ev eb L →
      body (thenP (fun e bx L => eqC e0 e c.consts (∃ j, j < k ∧ apI pr c (I j) e bx L)) Q) (joinE ev (trim c.consts e0)) eb L
/-- A loop, its meeting point not typed. -/
def uLoop (body : Post → Env → Bx → Heap → Prop) (Q : Post) (e0 : Env) (bx0 : Bx) (L0 : Heap) : Prop :=
  ∃ I : Nat → Env → Bx → Heap → Prop, (∃ k, I k e0 bx0 L0) ∧ ∀ k e bx L, I k e bx L → body (thenP (fun e bx L => ∃ j, j < k ∧ I j e bx L) Q) e bx L
/-! ### A range over a function -/
def EnvOk (t : Array Value) (e : Env) : Prop := ∀ k v, get e k = some (.v v) → t.getD k undef = v
/-- Behind the loop: the record tells how. -/
def rangeQ (l : Nat) (Q : Post) (e : Env) (bx : Bx) (M : Heap) : Prop :=
  ∃ r, M l = some (.loop r) ∧ r.state ≠ .busy ∧ match r.pending with
    | none => Q .normal e bx (upd M l (.loop { r with state := .exhausted }))
    | some .ret => Q .ret e bx (upd M l (.loop { r with state := .exhausted }))
    | some (.exit id) => Q (.exit id) e bx (upd M l (.loop { r with state := .exhausted }))
    | _ => False
def rdHas (cfg : Cfg) (L : Heap) : Prop := match cfg.rd with
  | none => True
  | some l0 => ∃ r0, L l0 = some (.loop r0)
def svcRange (P : Program) (cfg : Cfg) (n : Nat) (f : Operand) (ps : Array Tmp) (assign body : Code) (Q : Post) (e : Env) (bx : Bx) (L : Heap) : Prop :=
  match evv e f with
  | some (.func (.func g) first cap) => match entersB P g with
    | true => rdHas cfg L ∧ ∀ (fn : FuncId) (t : Array Value) (D l : Nat) (M : Heap), t.size = n → EnvOk t e → L l = none → M = upd L l (.loop ⟨.ready, none, fn, t, ps, assign, body, D⟩) →
        Tri P g (first.toList ++ [Value.func (.yield l) #[] #[]] ++ cap.toList).toArray M fun _ N => callRo cfg N (rangeQ l Q e bx N)
    | false => False
  | _ => False
/-- The meeting points: before a region (0), at a loop that begins with a region (1). -/
abbrev Keep := Nat → Nat → Option Cut
def kpOf : List (Nat × Nat × Cut) → Keep
  | [], _, _ => none
  | p :: r, a, b => match Nat.beq p.1 a && Nat.beq p.2.1 b with
    | true => some p.2.2
    | false => kpOf r a b

def svc (P : Program) (cfg : Cfg) (n : Nat) (kp : Keep) : Code → Post → Env → Bx → Heap → Prop
  | .skip, Q, e, bx, L => Q .normal e bx L
  | .label _, Q, e, bx, L => Q .normal e bx L
  | .region _ ops draw, Q, e, bx, L => match draw with
    | false => svcOps P cfg n ops ops.toList 0 e bx L fun e bx L => Q .normal e bx L
    | true => svcDraw P cfg n ops e bx L fun e bx L => Q .normal e bx L
  | .seq a b, Q, e, bx, L => match kp 0 (firstId b) with
    | some c => pCut cfg.pr c e (fun K => svc P cfg n kp a (thenP K Q) e bx L) (fun e bx L => svc P cfg n kp b Q e bx L)
    | none => svc P cfg n kp a (thenP (fun e bx L => svc P cfg n kp b Q e bx L) Q) e bx L
  | .cond c x y, Q, e, bx, L => match evv e c with
    | some (.bool t) => pIf t (svc P cfg n kp x Q e bx L) (svc P cfg n kp y Q e bx L)
    | _ => False
  | .block id c, Q, e, bx, L => svc P cfg n kp c (inBlockP id Q) e bx L
  | .loop c, Q, e, bx, L => match kp 1 (firstId c) with
    | some k => pLoop cfg.pr k (fun Q' e bx L => svc P cfg n kp c Q' e bx L) Q e bx L
    | none => uLoop (fun Q' e bx L => svc P cfg n kp c Q' e bx L) Q e bx L
  | .rangeFunc f ps assign body, Q, e, bx, L => svcRange P cfg n f ps assign body Q e bx L
  | .exit id, Q, e, bx, L => Q (.exit id) e bx L
  | .ret, Q, e, bx, L => Q .ret e bx L
  | _, _, _, _, _ => False

/-- A result. -/
def resS (P : Program) (cfg : Cfg) (e : Env) (bx : Bx) (L : Heap) (r : ResultVar) (K : Value → Prop) : Prop :=
  match r with
  | .tmp t => match get e t with
    | some (.v v) => K v
    | _ => False
  | .cell t T => match get e t with
    | some (.a k off) => match cfg.pr, get bx k with
      | true, some cs => match boxRead P T cs off with
        | some v => K v
        | none => False
      | _, _ => False
    | some (.v (.pointer (some ad))) => tyEx P cfg.ty T fun v => match loadOK P T v with
      | true => Holds L ad v.cells.toList ∧ K v
      | false => False
    | _ => False
def resAll (P : Program) (cfg : Cfg) (e : Env) (bx : Bx) (L : Heap) : List ResultVar → (List Value → Prop) → Prop
  | [], K => K []
  | r :: rs, K => resS P cfg e bx L r fun v => resAll P cfg e bx L rs fun vs => K (v :: vs)
def tupleOf : List Value → Value
  | [v] => v
  | vs => .tuple vs.toArray
def retP (P : Program) (cfg : Cfg) (fn : Func) (Ψ : Value → Bx → Heap → Prop) : Post := fun x e bx L => match x with
  | .ret => resAll P cfg e bx L fn.results.toList fun vs => Ψ (tupleOf vs) bx L
  | .normal => resAll P cfg e bx L fn.results.toList fun vs => Ψ (tupleOf vs) bx L
  | _ => False
def argsEnv : Nat → List Value → Env
  | _, [] => []
  | j, v :: vs => (j, .v v) :: argsEnv (j + 1) vs
/-- What is known at the end may be less. -/
def Lss (Φ : Value → Heap → Prop) (v : Value) (M : Heap) : Prop := ∃ N, Sub N M ∧ Φ v N
def bodyOf (fn : Func) : Code := match fn.body with
  | some c => c
  | none => .skip
def hasBody (fn : Func) : Bool := match fn.body with
  | some _ => true
  | none => false
def walkCfg (prom : List Nat) (ty : Nat) : Cfg := ⟨prom, true, none, none, ty⟩
def plainCfg (prom : List Nat) : Cfg := walkCfg prom 12
def condT (P : Program) (fn : Func) (prom : List Nat) (ty : Nat) (kp : Keep) (args : List Value) (L : Heap) (Φ : Value → Heap → Prop) : Prop :=
  svc P (walkCfg prom ty) (args.length + (fn.ntmps - args.length)) kp (bodyOf fn) (retP P (walkCfg prom ty) fn fun v _ M => Lss Φ v M) (argsEnv 0 args) [] L
/-- The condition of a function. -/
def cond (P : Program) (fn : Func) (prom : List Nat) (kp : Keep) (args : List Value) (L : Heap) (Φ : Value → Heap → Prop) : Prop :=
  svc P (plainCfg prom) (args.length + (fn.ntmps - args.length)) kp (bodyOf fn) (retP P (plainCfg prom) fn fun v _ M => Lss Φ v M) (argsEnv 0 args) [] L
end Go.Proofs.YtmcaejnofmbilaaGreat.Tri
