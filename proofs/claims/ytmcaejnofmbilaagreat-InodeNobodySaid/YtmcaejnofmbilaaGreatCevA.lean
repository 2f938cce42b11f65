/- Runs without an input: values and memory by names, and the evaluator: what it says true of is so of every run (CevS). -/
import Derived.Test.YtmcaejnofmbilaaGreatTriL
namespace Go.Proofs.YtmcaejnofmbilaaGreat.Tri
set_option linter.all false
open Go.RowKit

/-! ### tables -/
inductive Tab (α : Type) where
  | leaf
  | node (v : Option α) (l r : Tab α)
def Tab.get {α : Type} : Tab α → Nat → Option α
  | .leaf, _ => none
  | .node v l r, n => match n with
    | 0 => v
    | n + 1 => match Nat.beq (n % 2) 0 with
      | true => l.get (n / 2)
      | false => r.get (n / 2)
def Tab.set {α : Type} : Nat → Tab α → Nat → α → Tab α
  | 0, t, _, _ => t
  | f + 1, t, n, o => match t with
    | .leaf => match n with
      | 0 => .node (some o) .leaf .leaf
      | n + 1 => match Nat.beq (n % 2) 0 with
        | true => .node none (Tab.set f .leaf (n / 2) o) .leaf
        | false => .node none .leaf (Tab.set f .leaf (n / 2) o)
    | .node v l r => match n with
      | 0 => .node (some o) l r
      | n + 1 => match Nat.beq (n % 2) 0 with
        | true => .node v (Tab.set f l (n / 2) o) r
        | false => .node v l (Tab.set f r (n / 2) o)

/-! ### values by names -/
inductive AV where
  | v (x : Value)
  | p (k off : Nat)
  | s (k off len m : Nat) (x : Option Nat)
  | c (m x : Nat)
  | f (fn : Fn) (first cap : List AV)
  | y (l : Nat)
  | i (t : TypeId) (x : AV)
  | g (cs : List AV)
  | t (vs : List AV)
  | z (x : Nat)
/-- What a name means: a number (a block, a capacity's rest), or a value. -/
inductive Mean where
  | n (b : Nat)
  | v (x : Value)
abbrev Sg := Nat → Option Mean
def Sg.num (σ : Sg) (k : Nat) : Option Nat := match σ k with
  | some (.n b) => some b
  | _ => none
def Sg.ext (σ : Sg) (x : Option Nat) : Option Nat := match x with
  | none => some 0
  | some k => σ.num k
mutual
def AV.real (σ : Sg) : AV → Option Value
  | .v x => some x
  | .p k off => (σ.num k).map fun b => .pointer (some ⟨b, off, none⟩)
  | .s k off len m x => match σ.num k, σ.ext x with
    | some b, some e => some (.slice (some ⟨b, off, none⟩) len (m + e))
    | _, _ => none
  | .c m x => (σ.num x).map fun e => .int .i64 ((m + e : Nat) : Int)
  | .f fn first cap => match reals σ first, reals σ cap with
    | some a, some b => some (.func fn a.toArray b.toArray)
    | _, _ => none
  | .y l => (σ.num l).map fun b => .func (.yield b) #[] #[]
  | .i t x => (x.real σ).map (.iface t)
  | .g cs => (reals σ cs).map fun l => .agg l.toArray
  | .t vs => (reals σ vs).map fun l => .tuple l.toArray
  | .z x => match σ x with
    | some (.v (.slice (some a) 0 c)) => some (.slice (some a) 0 c)
    | _ => none
def reals (σ : Sg) : List AV → Option (List Value)
  | [] => some []
  | a :: r => match a.real σ, reals σ r with
    | some x, some l => some (x :: l)
    | _, _ => none
end

abbrev AEnv := Tab AV
/-- A block: its family (blocks that may be one), the element's type, whether it may be written, the cells that are known from the first on, its size: tot + esz * (what x means). -/
inductive AO where
  | cells (fam : Nat) (E : TypeId) (wr : Bool) (cs : List AV) (tot esz : Nat) (x : Option Nat)
  | iter (s : ByteArray) (pos : Nat)
  | loop (st : LoopState) (pd : Option Code) (n : Nat) (e : AEnv) (ps : Array Tmp) (assign body : Code)
structure AH where
  nxt : Nat
  tab : Tab AO
  fams : List (Nat × List Nat)
def AH.get (A : AH) (k : Nat) : Option AO := A.tab.get k
def AH.put (A : AH) (k : Nat) (o : AO) : AH := { A with tab := A.tab.set 24 k o }
def nameMax : Nat := 16777215
/-- A new name for a block. -/
def AH.new (A : AH) (o : Nat → AO) (K : Nat → AH → Bool) : Bool := match Nat.blt A.nxt nameMax with
  | true => K A.nxt { A with nxt := A.nxt + 1, tab := A.tab.set 24 A.nxt (o A.nxt) }
  | false => false
/-- A new name for a number. -/
def AH.name (A : AH) (K : Nat → AH → Bool) : Bool := K A.nxt { A with nxt := A.nxt + 1 }

def opt {α : Type} (o : Option α) (k : α → Bool) : Bool := match o with
  | some a => k a
  | none => false

def evA (e : AEnv) : Operand → Option AV
  | .tmp t => e.get t
  | .const v => some (.v v)
  | .global g => some (.v (.pointer (some ⟨g, 0, none⟩)))
  | .func f => some (.v (.func (.func f) #[] #[]))
def evAs (e : AEnv) : List Operand → Option (List AV)
  | [] => some []
  | x :: r => match evA e x with
    | some a => match evAs e r with
      | some l => some (a :: l)
      | none => none
    | none => none
def aCells : AV → List AV
  | .g cs => cs
  | .v (.agg cs) => cs.toList.map .v
  | a => [a]
def aList : AV → Option (List AV)
  | .g cs => some cs
  | .v (.agg cs) => some (cs.toList.map .v)
  | _ => none
/-- May it stand in one cell? -/
def oneA : AV → Bool
  | .g _ => false
  | .t _ => false
  | .z _ => true
  | .v (.agg _) => false
  | .v (.tuple _) => false
  | _ => true
def allOne : List AV → Bool
  | [] => true
  | a :: r => match oneA a with
    | true => allOne r
    | false => false
def setAtA (cs : List AV) (off : Nat) : List AV → List AV
  | [] => cs
  | a :: r => setAtA (cs.set off a) (off + 1) r

/-! ### memory -/
def truncAll (o : Nat) (k : Nat) : List Nat → Tab AO → Tab AO
  | [], t => t
  | j :: r, t => match Nat.beq j k with
    | true => truncAll o k r t
    | false => match t.get j with
      | some (.cells fam E wr cs tot esz x) => truncAll o k r (t.set 24 j (.cells fam E wr (cs.take o) tot esz x))
      | _ => truncAll o k r t
/-- Block k has turned from cell o on: what may be the same block is known ahead of it alone. -/
def AH.cut (A : AH) (fam k o : Nat) : AH := match Tri.get A.fams fam with
  | some l => { A with tab := truncAll o k l A.tab }
  | none => A
def storeA (A : AH) (k off : Nat) (xs : List AV) (K : AH → Bool) : Bool :=
  match A.get k with
  | some (.cells fam E true cs tot esz x) => match Nat.ble (off + xs.length) tot && Nat.ble off cs.length && allOne xs with
    | true => K ((A.put k (.cells fam E true (cs.take off ++ xs ++ cs.drop (off + xs.length)) tot esz x)).cut fam k off)
    | false => false
  | _ => false
/-- Cells from off on. -/
def readA (A : AH) (k off n : Nat) : Option (List AV) :=
  match A.get k with
  | some (.cells _ _ _ cs _ _ _) => match Nat.ble (off + n) cs.length with
    | true => some ((cs.drop off).take n)
    | false => none
  | _ => none
def loadA (P : Program) (A : AH) (T : TypeId) (k off : Nat) : Option AV :=
  match P.underlying T with
  | some (.struct _) => match P.info? T with
    | some i => match readA A k off i.size with
      | some cs => some (.g cs)
      | none => none
    | none => none
  | some (.array _ _) => match P.info? T with
    | some i => match readA A k off i.size with
      | some cs => some (.g cs)
      | none => none
    | none => none
  | some _ => match readA A k off 1 with
    | some [a] => match oneA a with
      | true => some a
      | false => none
    | _ => none
  | none => none
def newCells (A : AH) (E : TypeId) (cs : List AV) (K : AV → AH → Bool) : Bool :=
  A.new (fun k => .cells k E true cs cs.length 0 none) fun k A' => K (.p k 0) A'

/-! ### operations -/
def bytesEq : List UInt8 → List UInt8 → Bool
  | [], [] => true
  | a :: r, b :: s => match Nat.beq a.toNat b.toNat with
    | true => bytesEq r s
    | false => false
  | _, _ => false
def bytesLt : List UInt8 → List UInt8 → Bool
  | [], [] => false
  | [], _ :: _ => true
  | _ :: _, [] => false
  | a :: r, b :: s => match Nat.blt a.toNat b.toNat with
    | true => true
    | false => match Nat.beq a.toNat b.toNat with
      | true => bytesLt r s
      | false => false
/-- '==' and its kin, arithmetic, of values without names. -/
def binV (P : Program) (op : BinOp) (T : TypeId) (x y : Operand) (a b : Value) (K : Value → Bool) : Bool :=
  match a, b with
  | .string s, .string t => match op with
    | .eql => K (.bool (bytesEq s.data.toList t.data.toList))
    | .neq => K (.bool (!(bytesEq s.data.toList t.data.toList)))
    | .lss => K (.bool (bytesLt s.data.toList t.data.toList))
    | .leq => K (.bool (bytesLt s.data.toList t.data.toList || bytesEq s.data.toList t.data.toList))
    | .gtr => K (.bool (!(bytesLt s.data.toList t.data.toList || bytesEq s.data.toList t.data.toList)))
    | .geq => K (.bool (!(bytesLt s.data.toList t.data.toList)))
    | .add => match Nat.ble (s.size + t.size) 4294967296 with
      | true => K (.string (s ++ t))
      | false => false
    | _ => false
  | _, _ => match binPure P op T a b with
    | some v => K v
    | none => match a, b with
      | .int k u, .int k' w => match decide (k = k') with
        | true => match op with
          | .quo => match decide (w = 0) with
            | true => false
            | false => K (.int k (k.wrap (u.tdiv w)))
          | .rem => match decide (w = 0) with
            | true => false
            | false => K (.int k (u.tmod w))
          | .shl => match decide (0 ≤ w) with
            | true => K (.int k (k.wrap (u * 2 ^ (min w.toNat k.bits))))
            | false => false
          | .shr => match decide (0 ≤ w) with
            | true => K (.int k (u.fdiv (2 ^ (min w.toNat k.bits))))
            | false => false
          | _ => false
        | false => match op with
          | .shl => match decide (0 ≤ w) with
            | true => K (.int k (k.wrap (u * 2 ^ (min w.toNat k.bits))))
            | false => false
          | .shr => match decide (0 ≤ w) with
            | true => K (.int k (u.fdiv (2 ^ (min w.toNat k.bits))))
            | false => false
          | _ => false
      | .nilIface, .nilIface => match isConst x || isConst y with
        | true => match P.underlying T with
          | some (.interface _) => match op with
            | .eql => K (.bool true)
            | .neq => K (.bool false)
            | _ => false
          | _ => false
        | false => false
      | _, _ => false
def isEq (op : BinOp) (r : Bool) (K : Value → Bool) : Bool := match op with
  | .eql => K (.bool r)
  | .neq => K (.bool (!r))
  | _ => false
def isCmp : BinOp → Bool
  | .lss => true
  | .leq => true
  | .gtr => true
  | .geq => true
  | .eql => true
  | .neq => true
  | _ => false
/-- What is known to the last sign. -/
def knownV : List AV → Option (List Value)
  | [] => some []
  | .v x :: r => match knownV r with
    | some xs => some (x :: xs)
    | none => none
  | _ :: _ => none
def binA (P : Program) (A : AH) (op : BinOp) (T : TypeId) (x y : Operand) (a b : AV) (K : Value → Bool) : Bool :=
  match a, b with
  | .v a, .v b => binV P op T x y a b K
  | .p _ _, .v (.pointer none) => match P.underlying T with
    | some (.pointer _) => isEq op false K
    | _ => false
  | .p k o, .p k' o' => match P.underlying T with
    | some (.pointer el) => match P.info? el with
      | some i => match Nat.beq i.size 0 with
        | true => false
        | false => match A.get k, A.get k' with
          | some (.cells fam _ true _ _ _ _), some (.cells fam' _ true _ _ _ _) => match Nat.beq k k' with
            | true => isEq op (Nat.beq o o') K
            | false => match Nat.beq fam fam' with
              | true => false
              | false => isEq op false K
          | _, _ => false
      | none => false
    | _ => false
  | .s _ _ _ _ _, .v (.slice none _ _) => match P.underlying T with
    | some (.slice _) => isEq op false K
    | _ => false
  | .f _ _ _, .v .nilFunc => match P.underlying T with
    | some (.func _ _ _) => isEq op false K
    | _ => false
  | .i _ _, .v .nilIface => match P.underlying T with
    | some (.interface _) => isEq op false K
    | _ => false
  | .c _ _, .v (.int .i64 _) => match isCmp op with
    | true => match K (.bool true) with
      | true => K (.bool false)
      | false => false
    | false => false
  | .v (.int .i64 _), .c _ _ => match isCmp op with
    | true => match K (.bool true) with
      | true => K (.bool false)
      | false => false
    | false => false
  | .g xs, .g ys => opt (knownV xs) fun u => opt (knownV ys) fun v => binV P op T x y (.agg u.toArray) (.agg v.toArray) K
  | .g xs, .v b => opt (knownV xs) fun u => binV P op T x y (.agg u.toArray) b K
  | .v a, .g ys => opt (knownV ys) fun v => binV P op T x y a (.agg v.toArray) K
  | _, _ => false
def fillAV (place : Nat → Option (Nat × Nat)) : List AV → List (Nat × AV) → Option (List AV)
  | cs, [] => some cs
  | cs, (i, a) :: r => match place i with
    | none => none
    | some (off, sz) => match Nat.beq (aCells a).length sz && Nat.ble (off + sz) cs.length with
      | true => fillAV place (setAtA cs off (aCells a)) r
      | false => none
def fieldPlaces (P : Program) : List Field → Option (List (Nat × Nat))
  | [] => some []
  | f :: r => match P.info? f.type with
    | some i => match fieldPlaces P r with
      | some l => some ((f.offset, i.size) :: l)
      | none => none
    | none => none
def buildA (P : Program) (t : TypeId) (parts : List (Nat × AV)) : Option (List AV) :=
  match zeroOf P t with
  | some z => match P.underlying t with
    | some (.array _ el) => match P.info? el with
      | some ie => fillAV (fun i => some (i * ie.size, ie.size)) (aCells (.v z)) parts
      | none => none
    | some (.struct fields) => match fieldPlaces P fields.toList with
      | some places => fillAV (fun i => places[i]?) (aCells (.v z)) parts
      | none => none
    | _ => none
  | none => none
def replA (cs : List AV) : Nat → List AV
  | 0 => []
  | n + 1 => cs ++ replA cs n
def fieldA (P : Program) (S : TypeId) (cs : List AV) (f : Nat) : Option AV :=
  match P.underlying S with
  | some (.struct fs) => match fs[f]? with
    | some fl => match P.underlying fl.type with
      | some (.struct _) => match P.info? fl.type with
        | some i => some (.g ((cs.drop fl.offset).take i.size))
        | none => none
      | some (.array _ _) => match P.info? fl.type with
        | some i => some (.g ((cs.drop fl.offset).take i.size))
        | none => none
      | some _ => cs[fl.offset]?
      | none => none
    | none => none
  | _ => none
def bndA (e : AEnv) (x : Option Operand) (d : Nat) : Option Int :=
  match x with
  | none => some d
  | some y => match evA e y with
    | some (.v (.int _ j)) => some j
    | _ => none
/-- A piece of a slice. -/
def sliceA (A : AH) (sz k off len m : Nat) (x : Option Nat) (hasMax : Bool) (l h mx : Int) (K : AV → AH → Bool) : Bool :=
  match decide (0 ≤ l) && decide (l ≤ h) && decide (h ≤ mx) && decide (mx ≤ m) with
  | true => match hasMax with
    | true => match Nat.beq mx.toNat l.toNat with
      | true => K (.s k off (h.toNat - l.toNat) (mx.toNat - l.toNat) none) A
      | false => K (.s k (off + l.toNat * sz) (h.toNat - l.toNat) (mx.toNat - l.toNat) none) A
    | false => match x with
      | none => match Nat.beq m l.toNat with
        | true => K (.s k off (h.toNat - l.toNat) (m - l.toNat) none) A
        | false => K (.s k (off + l.toNat * sz) (h.toNat - l.toNat) (m - l.toNat) none) A
      | some y => match Nat.blt l.toNat m || Nat.beq l.toNat 0 with
        | true => K (.s k (off + l.toNat * sz) (h.toNat - l.toNat) (m - l.toNat) (some y)) A
        | false => A.name fun u A => K (.z u) A
  | false => false
def srcA (A : AH) (sz n : Nat) : AV → Option (List AV)
  | .s k off len _ _ => match Nat.ble n len with
    | true => readA A k off (n * sz)
    | false => none
  | .v (.slice none _ _) => some []
  | .z _ => match Nat.beq n 0 with
    | true => some []
    | false => none
  | .v (.string s) => match Nat.beq sz 1 && Nat.ble n s.size with
    | true => some ((s.data.toList.take n).map fun b => .v (.int .u8 b.toNat))
    | false => none
  | _ => none
def lenA : AV → Option Nat
  | .s _ _ len _ _ => some len
  | .z _ => some 0
  | .v (.slice _ len _) => some len
  | .v (.string s) => some s.size
  | _ => none
/-- append -/
def appendA (P : Program) (A : AH) (T : TypeId) (a b : AV) (K : AV → AH → Bool) : Bool :=
  match P.underlying T with
  | some (.slice el) => match P.info? el with
    | some i => match i.zero with
      | some z => opt (lenA b) fun n => opt (srcA A i.size n b) fun xs => match allOne xs && Nat.ble (i.bytes) 4096 && Nat.ble n 65536 && Nat.beq xs.length (n * i.size) && Nat.beq (aCells (.v z)).length i.size with
        | true => match a with
          | .v (.slice none len cap) => match Nat.beq len 0 && Nat.beq cap 0 with
            | true => match Nat.beq n 0 with
              | true => K a A
              | false => A.name fun y A => A.new (fun k => .cells k el true xs (n * i.size) i.size (some y)) fun k A => K (.s k 0 n n (some y)) A
            | false => false
          | .s k off len m x => match Nat.ble (len + n) m with
            | true => match xs with
              | [] => K (.s k off (len + n) m x) A
              | _ => storeA A k (off + len * i.size) xs fun A => K (.s k off (len + n) m x) A
            | false => opt (readA A k off (len * i.size)) fun old => match x with
              | none => match Nat.ble (len + n) 65536 && Nat.ble m 65536 with
                | true => A.name fun y A => A.new (fun k => .cells k el true (old ++ xs) ((len + n) * i.size) i.size (some y)) fun k A => K (.s k 0 (len + n) (len + n) (some y)) A
                | false => false
              | some _ => match Nat.beq off 0 && Nat.ble (len + n) 65536 && Nat.blt 0 xs.length with
                | true => match A.get k with
                  | some (.cells fam E true cs tot esz x') => match Nat.beq E el && Nat.beq esz i.size && Nat.beq (m * i.size) tot && (match x, x' with
                      | some u, some w => Nat.beq u w
                      | _, _ => false) with
                    | true => A.name fun y A => A.new (fun _ => .cells fam el true (old ++ xs) ((len + n) * i.size) i.size (some y)) fun j A =>
                        K (.s j 0 (len + n) (len + n) (some y)) { A with
                          tab := truncAll (len * i.size) j (match Tri.get A.fams fam with
                            | some l => l
                            | none => [k]) A.tab
                          fams := (fam, j :: (match Tri.get A.fams fam with
                            | some l => l
                            | none => [k])) :: A.fams }
                    | false => false
                  | _ => false
                | false => false
          | _ => false
        | false => false
      | none => false
    | none => false
  | _ => false
def toBytes : List AV → Option (List UInt8)
  | [] => some []
  | .v (.int .u8 n) :: r => match decide (0 ≤ n) && decide (n < 256), toBytes r with
    | true, some l => some (UInt8.ofNat n.toNat :: l)
    | _, _ => none
  | _ => none
def convA (P : Program) (A : AH) (S D : TypeId) (a : AV) (K : AV → AH → Bool) : Bool :=
  match a with
  | .v (.int _ m) => match P.underlying S, P.underlying D with
    | some _, some (.int k) => K (.v (.int k (k.wrap m))) A
    | some _, some .string => K (.v (.string (Utf8.encode m))) A
    | _, _ => false
  | .v (.string s) => match P.underlying S, P.underlying D with
    | some .string, some .string => K a A
    | some .string, some (.slice el) => match P.underlying el with
      | some (.int .u8) => A.name fun y A => A.new (fun k => .cells k el false (s.data.toList.map fun b => .v (.int .u8 b.toNat)) s.size 1 (some y)) fun k A => K (.s k 0 s.size s.size (some y)) A
      | _ => false
    | _, _ => false
  | .v (.slice none _ _) => match P.underlying S, P.underlying D with
    | some (.slice el), some .string => match P.underlying el with
      | some (.int .u8) => K (.v (.string .empty)) A
      | _ => false
    | _, _ => false
  | .s k off len _ _ => match P.underlying S, P.underlying D with
    | some (.slice el), some .string => match P.underlying el with
      | some (.int .u8) => opt (readA A k off len) fun cs => opt (toBytes cs) fun l => K (.v (.string ⟨l.toArray⟩)) A
      | _ => false
    | _, _ => false
  | _ => false
def notText : AV → Bool
  | .v (.string _) => false
  | _ => true
def copyA (P : Program) (A : AH) (T : TypeId) (a b : AV) (K : AV → AH → Bool) : Bool :=
  match P.underlying T with
  | some (.slice el) => match P.info? el with
    | some i => opt (lenA a) fun dl => opt (lenA b) fun n => opt (srcA A i.size (Nat.min n dl) b) fun xs => match allOne xs && notText a with
      | true => match xs with
        | [] => K (.v (.int .i64 ((Nat.min n dl : Nat) : Int))) A
        | _ => match a with
          | .s k off _ _ _ => storeA A k off xs fun A => K (.v (.int .i64 ((Nat.min n dl : Nat) : Int))) A
          | _ => false
      | false => false
    | none => false
  | _ => false
def clearA (P : Program) (A : AH) (T : TypeId) (a : AV) (K : AV → AH → Bool) : Bool :=
  match P.underlying T with
  | some (.slice el) => match zeroOf P el with
    | some z => opt (lenA a) fun n => match notText a with
     | false => false
     | true => match replA (aCells (.v z)) n with
      | [] => K (.v (.tuple #[])) A
      | xs => match a with
        | .s k off _ _ _ => storeA A k off xs fun A => K (.v (.tuple #[])) A
        | _ => false
    | none => false
  | _ => false
/-- Functions of Go's library without a body. -/
def findByte (b : Nat) : List UInt8 → Nat → Int
  | [], _ => -1
  | x :: r, j => match Nat.beq x.toNat b with
    | true => j
    | false => findByte b r (j + 1)
def externA (P : Program) (A : AH) (g : Nat) (vs : List AV) (K : AV → AH → Bool) : Bool :=
  match P.funcs[g]? with
  | some fn => match decide (fn.name = "internal/bytealg.IndexByteString") with
    | true => match vs with
      | [.v (.string s), .v (.int .u8 b)] => K (.v (.int .i64 (findByte (b.toNat % 256) s.data.toList 0))) A
      | _ => false
    | false => false
  | none => false
/-- slices.Insert in the middle of a slice whose room is not known (its elements are of one cell): as an append would leave it. -/
def insName (s : String) : Bool := decide (s = "slices.Insert[[]string,string]") || decide (s = "slices.Insert[[]*dedup/tree.knot,*dedup/tree.knot]")
def insOf (P : Program) (g : Nat) : Option TypeId :=
  match P.funcs[g]? with
  | some fn => match insName fn.name with
    | true => match fn.params.toList with
      | T :: _ => match P.underlying T with
        | some (.slice el) => some el
        | _ => none
      | [] => none
    | false => none
  | none => none
def insertA (P : Program) (A : AH) (el k len m u i k2 off2 n : Nat) (K : AV → AH → Bool) : Bool :=
  match P.info? el with
  | some inf => match inf.zero with
    | some z => opt (readA A k 0 len) fun old => opt (readA A k2 off2 n) fun xs => match Nat.blt i len && Nat.ble len m && Nat.beq inf.size 1 && Nat.beq (aCells (.v z)).length 1 && Nat.ble inf.bytes 4096 && Nat.ble (len + n) 65536 && Nat.blt 0 n && allOne old && allOne xs with
      | true => match A.get k, A.get k2 with
        | some (.cells fam E true _ tot esz (some w)), some (.cells fam2 _ true _ _ _ _) => match Nat.beq E el && Nat.beq esz 1 && Nat.beq m tot && Nat.beq u w && !Nat.beq fam fam2 with
          | true => A.name fun y A => A.new (fun _ => .cells fam el true (old.take i ++ (xs ++ old.drop i)) (len + n) 1 (some y)) fun j A =>
              K (.s j 0 (len + n) (len + n) (some y)) { A with
                tab := truncAll i j (match Tri.get A.fams fam with
                  | some l => l
                  | none => [k]) A.tab
                fams := (fam, j :: (match Tri.get A.fams fam with
                  | some l => l
                  | none => [k])) :: A.fams }
          | false => false
        | _, _ => false
      | false => false
    | none => false
  | none => false
def enterA (P : Program) (call : Nat → List AV → AH → (AV → AH → Bool) → Bool) (A : AH) (g : Nat) (vs : List AV) (K : AV → AH → Bool) : Bool :=
  match vs with
  | [.s k off len m (some u), .v (.int .i64 i), .s k2 off2 n m2 x2] => match decide (0 ≤ i) && Nat.blt i.toNat len && Nat.blt m (len + n) && Nat.beq off 0 with
    | true => match insOf P g with
      | some el => insertA P A el k len m u i.toNat k2 off2 n K
      | none => call g vs A K
    | false => call g vs A K
  | _ => call g vs A K
def callA (P : Program) (call : Nat → List AV → AH → (AV → AH → Bool) → Bool) (yld : Nat → List AV → AH → (AV → AH → Bool) → Bool) (A : AH) (f : AV) (vs : List AV) (K : AV → AH → Bool) : Bool :=
  match f with
  | .v (.func (.func g) first cap) => match entersB P g with
    | true => enterA P call A g (first.toList.map .v ++ vs ++ cap.toList.map .v) K
    | false => externA P A g (first.toList.map .v ++ vs ++ cap.toList.map .v) K
  | .f (.func g) first cap => match entersB P g with
    | true => call g (first ++ vs ++ cap) A K
    | false => false
  | .y l => yld l vs A K
  | _ => false
def evOp (P : Program) (call : Nat → List AV → AH → (AV → AH → Bool) → Bool) (yld : Nat → List AV → AH → (AV → AH → Bool) → Bool) (e : AEnv) (A : AH) (o : Oper) (K : AV → AH → Bool) : Bool :=
  match o.op with
  | .move x => opt (evA e x) fun a => K a A
  | .assign x => opt (evA e x) fun a => K a A
  | .pick c x y => match evA e c with
    | some (.v (.bool true)) => opt (evA e x) fun a => K a A
    | some (.v (.bool false)) => opt (evA e y) fun a => K a A
    | _ => false
  | .alloc T => match o.dst with
    | some _ => opt (zeroOf P T) fun z => newCells A T (aCells (.v z)) K
    | none => false
  | .box T x => match o.dst with
    | some _ => opt (evA e x) fun a => newCells A T (aCells a) K
    | none => false
  | .build t parts => opt (evAs e (parts.toList.map (·.2))) fun vs => opt (buildA P t ((parts.toList.map (·.1)).zip vs)) fun cs => K (.g cs) A
  | .buildSlice T k parts => match P.underlying T with
    | some (.slice el) => opt (evAs e (parts.toList.map (·.2))) fun vs => match P.info? el with
      | some i => opt i.zero fun z => match Nat.ble (k * i.size) 16777216 && Nat.beq (aCells (.v z)).length i.size with
        | true => opt (fillAV (fun j => some (j * i.size, i.size)) (replA (aCells (.v z)) k) ((parts.toList.map (·.1)).zip vs)) fun cs =>
            A.new (fun j => .cells j el true cs cs.length 0 none) fun j A => K (.s j 0 k k none) A
        | false => false
      | none => false
    | _ => false
  | .load T x => match evA e x with
    | some (.p k off) => opt (loadA P A T k off) fun a => K a A
    | _ => false
  | .store T x y => match evA e x with
    | some (.p k off) => opt (evA e y) fun a => match P.info? T with
      | some i => match Nat.beq (aCells a).length i.size with
        | true => storeA A k off (aCells a) fun A => K (.v undef) A
        | false => false
      | none => false
    | _ => false
  | .nilCheck x => match evA e x with
    | some (.p k off) => K (.p k off) A
    | some (.f (.func g) a b) => K (.f (.func g) a b) A
    | some (.v (.func (.func g) a b)) => K (.v (.func (.func g) a b)) A
    | some (.y l) => K (.y l) A
    | some (.i t a) => K (.i t a) A
    | some (.v (.iface t a)) => K (.v (.iface t a)) A
    | _ => false
  | .binOp op T x y _ => match evA e x, evA e y with
    | some a, some b => binA P A op T x y a b fun v => K (.v v) A
    | _, _ => false
  | .unOp op _ x => match evA e x with
    | some (.v a) => opt (unPure op a) fun v => K (.v v) A
    | _ => false
  | .convert S D x => opt (evA e x) fun a => convA P A S D a K
  | .makeInterface T x => opt (evA e x) fun a => match P.underlying T with
    | some (.interface _) => false
    | some _ => K (.i T a) A
    | none => false
  | .makeFunc fn first cap => opt (evAs e first.toList) fun p => opt (evAs e cap.toList) fun q => K (.f fn p q) A
  | .makeSlice T l c => match P.underlying T, evA e l, evA e c with
    | some (.slice el), some (.v (.int _ lj)), some (.v (.int _ cj)) => match P.info? el with
      | some i => opt i.zero fun z => match decide (0 ≤ lj) && decide (lj ≤ cj) && decide ((i.bytes : Int) * cj ≤ 281474976710656) && decide (cj ≤ 65536) && Nat.beq (aCells (.v z)).length i.size with
        | true => A.new (fun j => .cells j el true (replA (aCells (.v z)) cj.toNat) (cj.toNat * i.size) 0 none) fun j A => K (.s j 0 lj.toNat cj.toNat none) A
        | false => false
      | none => false
    | _, _, _ => false
  | .slice T x lo hi mx => match P.underlying T with
    | some .string => match evA e x with
      | some (.v (.string s)) => match mx, bndA e lo 0, bndA e hi s.size with
        | none, some l, some h => match decide (0 ≤ l) && decide (l ≤ h) && decide (h ≤ s.size) with
          | true => K (.v (.string (s.extract l.toNat h.toNat))) A
          | false => false
        | _, _, _ => false
      | _ => false
    | some (.slice el) => match P.info? el with
      | some i => match evA e x with
        | some (.s k off len m y) => match mx.isSome && hi.isNone, bndA e lo 0, bndA e hi len, bndA e mx m with
          | false, some l, some h, some w => sliceA A i.size k off len m y mx.isSome l h w K
          | _, _, _, _ => false
        | some (.v (.slice none len cap)) => match mx.isSome && hi.isNone, bndA e lo 0, bndA e hi len, bndA e mx cap with
          | false, some l, some h, some w => match decide (0 ≤ l) && decide (l ≤ h) && decide (h ≤ w) && decide (w ≤ cap) with
            | true => K (.v (.slice none (h.toNat - l.toNat) (w.toNat - l.toNat))) A
            | false => false
          | _, _, _, _ => false
        | _ => false
      | none => false
    | _ => false
  | .fieldAddr S x f => opt (fieldOff P S f) fun off => match evA e x with
    | some (.p k o) => K (.p k (o + off)) A
    | _ => false
  | .field S x f => opt (evA e x) fun a => opt (aList a) fun cs => opt (fieldA P S cs f) fun b => K b A
  | .indexAddr T x j => match P.underlying T with
    | some (.slice el) => match P.info? el, evA e x, evA e j with
      | some i, some (.s k off len _ _), some (.v (.int _ n)) => match decide (0 ≤ n) && decide (n < len) with
        | true => K (.p k (off + n.toNat * i.size)) A
        | false => false
      | _, _, _ => false
    | some (.array len el) => match P.info? el, evA e x, evA e j with
      | some i, some (.p k off), some (.v (.int _ n)) => match decide (0 ≤ n) && decide (n < len) with
        | true => K (.p k (off + n.toNat * i.size)) A
        | false => false
      | _, _, _ => false
    | _ => false
  | .index T x j => match P.underlying T with
    | some .string => match evA e x, evA e j with
      | some (.v (.string s)), some (.v (.int _ n)) => match decide (0 ≤ n) with
        | true => opt (s.data.toList[n.toNat]?) fun b => K (.v (.int .u8 b.toNat)) A
        | false => false
      | _, _ => false
    | _ => false
  | .range T x => match P.underlying T with
    | some .string => match evA e x with
      | some (.v (.string s)) => A.new (fun _ => .iter s 0) fun k A => K (.p k 0) A
      | _ => false
    | _ => false
  | .next it true => match evA e it with
    | some (.p k 0) => match A.get k with
      | some (.iter s pos) => match Nat.blt pos s.size with
        | true => K (.v (.tuple #[.bool true, .int .i64 pos, .int .i32 (Utf8.decode s pos).1])) (A.put k (.iter s (pos + (Utf8.decode s pos).2)))
        | false => K (.v (.tuple #[.bool false])) A
      | _ => false
    | _ => false
  | .extract x j => match evA e x with
    | some (.t vs) => opt (vs[j]?) fun a => K a A
    | some (.v (.tuple vs)) => opt (vs.toList[j]?) fun a => K (.v a) A
    | _ => false
  | .call c => match c.callee with
    | .value f => opt (evA e f) fun fv => opt (evAs e c.args.toList) fun vs => callA P call yld A fv vs K
    | .builtin .len => match c.argTypes.toList, evAs e c.args.toList with
      | [T], some [a] => match P.underlying T, a with
        | some .string, .v (.string s) => K (.v (.int .i64 s.size)) A
        | some (.slice _), .s _ _ len _ _ => K (.v (.int .i64 len)) A
        | some (.slice _), .z _ => K (.v (.int .i64 (0 : Nat))) A
        | some (.slice _), .v (.slice _ len _) => K (.v (.int .i64 len)) A
        | some (.map _ _), .v (.map none) => K (.v (.int .i64 0)) A
        | _, _ => false
      | _, _ => false
    | .builtin .cap => match c.argTypes.toList, evAs e c.args.toList with
      | [T], some [a] => match P.underlying T, a with
        | some (.slice _), .s _ _ _ m none => K (.v (.int .i64 m)) A
        | some (.slice _), .s _ _ _ m (some y) => K (.c m y) A
        | some (.slice _), .v (.slice _ _ m) => K (.v (.int .i64 m)) A
        | _, _ => false
      | _, _ => false
    | .builtin .min => match evAs e c.args.toList with
      | some [.v (.int k x), .v (.int _ y)] => K (.v (.int k (if y < x then y else x))) A
      | _ => false
    | .builtin .max => match evAs e c.args.toList with
      | some [.v (.int k x), .v (.int _ y)] => K (.v (.int k (if y > x then y else x))) A
      | _ => false
    | .builtin .append => match c.argTypes.toList, evAs e c.args.toList with
      | [T, T2], some [a, b] => match P.underlying T2 with
        | some (.slice _) => appendA P A T a b K
        | some .string => appendA P A T a b K
        | _ => false
      | _, _ => false
    | .builtin .copy => match c.argTypes.toList, evAs e c.args.toList with
      | T :: _, some [a, b] => copyA P A T a b K
      | _, _ => false
    | .builtin .clear => match c.argTypes.toList, evAs e c.args.toList with
      | T :: _, some [a] => clearA P A T a K
      | _, _ => false
    | _ => false
  | _ => false

/-! ### regions -/
def putA (n : Nat) (dst : Option Nat) (e : AEnv) (a : AV) (K : AEnv → Bool) : Bool :=
  match dst with
  | some d => match Nat.blt d n && Nat.blt d nameMax with
    | true => K (e.set 24 d a)
    | false => false
  | none => K e
def evGuard (ops : Array Oper) (e : AEnv) (o : Oper) : Option Bool :=
  match o.guard with
  | none => some true
  | some (j, want) => match ops[j]? with
    | some oj => match oj.dst with
      | some d => match e.get d with
        | some (.v (.bool t)) => match want with
          | true => some t
          | false => some (!t)
        | some (.v (.tuple _)) => some false
        | _ => none
      | none => none
    | none => none
section
variable (P : Program) (call : Nat → List AV → AH → (AV → AH → Bool) → Bool) (yld : Nat → List AV → AH → (AV → AH → Bool) → Bool)
def evOps (n : Nat) (ops : Array Oper) : List Oper → AEnv → AH → (AEnv → AH → Bool) → Bool
  | [], e, A, K => K e A
  | o :: rest, e, A, K => match evGuard ops e o with
    | some true => evOp P call yld e A o fun a A' => putA n o.dst e a fun e' => evOps n ops rest e' A' K
    | some false => putA n o.dst e (.v undef) fun e' => evOps n ops rest e' A K
    | none => false
def sameV : Value → Value → Bool
  | .bool a, .bool b => match a, b with
    | true, true => true
    | false, false => true
    | _, _ => false
  | .int k a, .int k' b => match decide (k = k') with
    | true => decide (a = b)
    | false => false
  | .string a, .string b => bytesEq a.data.toList b.data.toList
  | .pointer none, .pointer none => true
  | .slice none a b, .slice none c d => Nat.beq a c && Nat.beq b d
  | .nilFunc, .nilFunc => true
  | .nilIface, .nilIface => true
  | .map none, .map none => true
  | _, _ => false
def sameA : Nat → AV → AV → Bool
  | 0, _, _ => false
  | d + 1, a, b => match a, b with
    | .v x, .v y => sameV x y
    | .p k o, .p k' o' => Nat.beq k k' && Nat.beq o o'
    | .s k o l m none, .s k' o' l' m' none => Nat.beq k k' && Nat.beq o o' && Nat.beq l l' && Nat.beq m m'
    | .s k o l m (some x), .s k' o' l' m' (some y) => Nat.beq k k' && Nat.beq o o' && Nat.beq l l' && Nat.beq m m' && Nat.beq x y
    | .y l, .y l' => Nat.beq l l'
    | .g xs, .g ys => sameL d xs ys
    | .i t x, .i t' y => Nat.beq t t' && sameA d x y
    | .f (.func g) xs ys, .f (.func g') xs' ys' => Nat.beq g g' && sameL d xs xs' && sameL d ys ys'
    | _, _ => false
where sameL : Nat → List AV → List AV → Bool
  | _, [], [] => true
  | 0, _, _ => false
  | d + 1, x :: xs, y :: ys => sameA d x y && sameL d xs ys
  | _, _, _ => false
def evRecheck (e : AEnv) (A : AH) : List (Nat × Oper × AV) → Bool → Bool
  | [], b => b
  | p :: r, b => match evOp P call yld e A p.2.1 fun a _ => sameA 64 a p.2.2 with
    | true => evRecheck e A r b
    | false => false
def keepPendA (bh : List Nat) : List (Nat × Oper × AV) → List (Nat × Oper × AV)
  | [] => []
  | p :: r => match memN p.1 bh with
    | true => keepPendA bh r
    | false => p :: keepPendA bh r
def allBs {α : Type} (f : α → Bool) : List α → Bool
  | [] => true
  | x :: r => match f x with
    | true => allBs f r
    | false => false
def evD (n : Nat) (ops : Array Oper) : Nat → List Nat → List (Nat × Oper × AV) → AEnv → AH → (AEnv → AH → Bool) → Bool
  | 0, _, _, _, _, _ => false
  | f + 1, E, pend, e, A, K =>
    match readyAt P ops.toList E true 0 ops.toList with
    | (i, o) :: _ => match evGuard ops e o with
      | some true => evOp P call yld e A o fun a A' => putA n o.dst e a fun e' => evD n ops f (i :: E) (match memDep o with
          | true => (i, o, a) :: pend
          | false => pend) e' A' K
      | some false => putA n o.dst e (.v undef) fun e' => evD n ops f (i :: E) pend e' A K
      | none => false
    | [] => match readyAt P ops.toList E false 0 ops.toList with
      | [] => match Nat.beq E.length ops.toList.length with
        | true => K e A
        | false => false
      | cs => allBs (fun io : Nat × Oper => match evGuard ops e io.2 with
        | some true => evOp P call yld e A io.2 fun a A' => match (match touches io.2 with
              | true => evRecheck P call yld e A' (keepPendA (behind ops.toList 4096 [io.1] []) pend) true
              | false => true) with
            | true => putA n io.2.dst e a fun e' => evD n ops f (io.1 :: E) (keepPendA (behind ops.toList 4096 [io.1] []) pend) e' A' K
            | false => false
        | some false => putA n io.2.dst e (.v undef) fun e' => evD n ops f (io.1 :: E) (keepPendA (behind ops.toList 4096 [io.1] []) pend) e' A K
        | none => false) (cands P ⟨[], true, none, none, 0⟩ n ops.toList E cs)
end

/-! ### code -/
abbrev Kont := Exit → AEnv → AH → Bool
def resA (P : Program) (e : AEnv) (A : AH) : List ResultVar → Option (List AV)
  | [] => some []
  | r :: rs => match (match r with
      | .tmp t => e.get t
      | .cell t T => match e.get t with
        | some (.p k off) => loadA P A T k off
        | _ => none) with
    | some a => match resA P e A rs with
      | some l => some (a :: l)
      | none => none
    | none => none
def tupA : List AV → AV
  | [a] => a
  | l => .t l
def argsA : Nat → List AV → AEnv → AEnv
  | _, [], e => e
  | j, a :: r, e => argsA (j + 1) r (e.set 24 j a)
def setPar (n : Nat) : List Nat → List AV → AEnv → Option AEnv
  | [], [], e => some e
  | t :: ts, a :: r, e => match Nat.blt t n && Nat.blt t nameMax with
    | true => setPar n ts r (e.set 24 t a)
    | false => none
  | _, _, _ => none
def evEnd (l : Nat) (k : Kont) (e : AEnv) (A : AH) : Bool := match A.get l with
  | some (.loop st pd n e0 ps as bd) => match st with
    | .busy => false
    | _ => match pd with
      | none => k .normal e (A.put l (.loop .exhausted pd n e0 ps as bd))
      | some .ret => k .ret e (A.put l (.loop .exhausted pd n e0 ps as bd))
      | some (.exit id) => k (.exit id) e (A.put l (.loop .exhausted pd n e0 ps as bd))
      | _ => false
  | _ => false
mutual
def evC (P : Program) : Nat → Option Nat → Nat → Code → AEnv → AH → Kont → Bool
  | 0, _, _, _, _, _, _ => false
  | f + 1, rd, n, c, e, A, k => match c with
    | .skip => k .normal e A
    | .label _ => k .normal e A
    | .region _ ops draw => match draw with
      | false => evOps P (evCall P f) (evYld P f) n ops ops.toList e A fun e A => k .normal e A
      | true => match formAll P ops 0 ops.toList with
        | true => evD P (evCall P f) (evYld P f) n ops (ops.toList.length + 1) [] [] e A fun e A => k .normal e A
        | false => false
    | .seq a b => evC P f rd n a e A fun x e A => match x with
      | .normal => evC P f rd n b e A k
      | x => k x e A
    | .cond c x y => match evA e c with
      | some (.v (.bool true)) => evC P f rd n x e A k
      | some (.v (.bool false)) => evC P f rd n y e A k
      | _ => false
    | .block id c => evC P f rd n c e A fun x e A => match x with
      | .exit id' => match Nat.beq id' id with
        | true => k .normal e A
        | false => k (.exit id') e A
      | x => k x e A
    | .loop c => evC P f rd n c e A fun x e A => match x with
      | .normal => evC P f rd n (.loop c) e A k
      | x => k x e A
    | .rangeFunc g ps assign body => match (match rd with
        | none => true
        | some l0 => match A.get l0 with
          | some (.loop ..) => true
          | _ => false) with
      | true => A.new (fun _ => .loop .ready none n e ps assign body) fun l A => opt (evA e g) fun gv => match gv with
        | .v (.func (.func g) first cap) => match entersB P g with
          | true => evCall P f g (first.toList.map .v ++ [.y l] ++ cap.toList.map .v) A fun _ A => evEnd l k e A
          | false => false
        | .f (.func g) first cap => match entersB P g with
          | true => evCall P f g (first ++ [.y l] ++ cap) A fun _ A => evEnd l k e A
          | false => false
        | _ => false
      | false => false
    | .exit id => k (.exit id) e A
    | .ret => k .ret e A
    | _ => false
def evCall (P : Program) : Nat → Nat → List AV → AH → (AV → AH → Bool) → Bool
  | 0, _, _, _, _ => false
  | f + 1, g, vs, A, K => match P.funcs[g]? with
    | some fn => match fn.body with
      | some c => match Nat.blt vs.length nameMax with
        | true => evC P f none (vs.length + (fn.ntmps - vs.length)) c (argsA 0 vs .leaf) A fun x e A => match x with
          | .normal => opt (resA P e A fn.results.toList) fun l => K (tupA l) A
          | .ret => opt (resA P e A fn.results.toList) fun l => K (tupA l) A
          | _ => false
        | false => false
      | none => false
    | none => false
def evYld (P : Program) : Nat → Nat → List AV → AH → (AV → AH → Bool) → Bool
  | 0, _, _, _, _ => false
  | f + 1, l, vs, A, K => match A.get l with
    | some (.loop .ready pd n e0 ps assign body) => opt (setPar n ps.toList vs e0) fun e => evC P f (some l) n assign e A fun x e A => match x with
      | .normal => match A.get l with
        | some (.loop .ready pd n' e0' ps' assign' body') => evC P f (some l) n body e (A.put l (.loop .busy pd n' e0' ps' assign' body')) fun x e A => match A.get l with
          | some (.loop _ _ n' e0' ps' assign' body') => match x with
            | .normal => K (.v (.bool true)) (A.put l (.loop .ready none n' e0' ps' assign' body'))
            | .ret => K (.v (.bool false)) (A.put l (.loop .done (some .ret) n' e0' ps' assign' body'))
            | .exit id => K (.v (.bool false)) (A.put l (.loop .done (some (.exit id)) n' e0' ps' assign' body'))
            | _ => false
          | _ => false
        | _ => false
      | _ => false
    | _ => false
end
end Go.Proofs.YtmcaejnofmbilaaGreat.Tri
