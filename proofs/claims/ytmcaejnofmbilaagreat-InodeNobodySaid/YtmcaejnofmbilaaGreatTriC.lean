/- The operations that only compute: what they yield. -/
import Derived.Test.YtmcaejnofmbilaaGreatTriB
import Derived.Laws.StructEq
namespace Go.Proofs.YtmcaejnofmbilaaGreat.Tri
set_option linter.all false
open Go.RowKit

def WF (ro : Option Nat) : Fence := { fn := fun _ => True, depth := none, alive := false, round := ro }
theorem WF_none : WF none = Fence.wide := rfl

def notDefer (o : Oper) : Prop := ∀ ro ρ, o.semAt ro ρ = execOp ρ o
theorem notDefer_of {o : Oper} (h : ∀ c, o.op ≠ .defer c) : notDefer o := by
  intro ro ρ
  unfold Oper.semAt
  split
  · rename_i l c hc; exact absurd hc (h c)
  · rfl
theorem wpIn_value {ro : Option Nat} {n : Nat} {P : Program} {o : Oper} {a : Act} {w w' : World} {next : Act → World → Prop} {Q : Exit → Act → World → Prop} {v : Value}
    (hd : ∀ c, o.op ≠ .defer c) (hr : (execOp a.eval o).run P w = .ok (.value v) w') (hn : next (a.put o.dst v) w') : o.wpIn (WF ro) n P a w next Q := by
  refine ⟨fun _ _ => trivial, ?_⟩
  rw [notDefer_of hd, hr]; exact hn
theorem wpIn_skip' {ro : Option Nat} {n : Nat} {P : Program} {o : Oper} {a : Act} {w w' : World} {next : Act → World → Prop} {Q : Exit → Act → World → Prop}
    (hd : ∀ c, o.op ≠ .defer c) (hr : (execOp a.eval o).run P w = .ok .skip w') (hn : next (a.put o.dst undef) w') : o.wpIn (WF ro) n P a w next Q := by
  refine ⟨fun _ _ => trivial, ?_⟩
  rw [notDefer_of hd, hr]; exact hn
theorem wpIn_enter {ro : Option Nat} {n : Nat} {P : Program} {o : Oper} {a : Act} {w w' : World} {next : Act → World → Prop} {Q : Exit → Act → World → Prop} {f : FuncId} {args : Array Value}
    (hd : ∀ c, o.op ≠ .defer c) (hr : (execOp a.eval o).run P w = .ok (.enter f args) w') (hc : Calls P f args w' fun e w'' => ∃ v, e = .returned v ∧ next (a.put o.dst v) w'') : o.wpIn (WF ro) n P a w next Q := by
  refine ⟨fun _ _ => trivial, ?_⟩
  rw [notDefer_of hd, hr]
  refine ⟨fun h => by simp [WF] at h, ?_⟩
  have h1 : CallsIn (WF ro) (n - 1) P f args w' fun e w'' => ∃ v, e = .returned v ∧ next (a.put o.dst v) w'' := callsIn_wide.2 hc
  exact h1.mono fun e w'' ⟨v, he, hn⟩ => by subst he; exact hn

/-! ### '==' and its kin -/
/-- Two structs of numbers, truths and texts, compared. -/
def scalEq (P : Program) (t : TypeId) (x y : Option Value) : Option Bool :=
  match P.underlying t, x, y with
  | some (.int _), some (.int k a), some (.int k' b) => match decide (k = k') with
    | true => some (a == b)
    | false => none
  | some .bool, some (.bool a), some (.bool b) => some (a == b)
  | some .string, some (.string a), some (.string b) => some (a == b)
  | _, _, _ => none
def fieldsEq (P : Program) : List Field → Array Value → Array Value → Option Bool
  | [], _, _ => some true
  | f :: r, xs, ys => match decide (f.name = "_") with
    | true => none
    | false => match scalEq P f.type xs[f.offset]? ys[f.offset]? with
      | some true => fieldsEq P r xs ys
      | some false => match fieldsEq P r xs ys with
        | some _ => some false
        | none => none
      | none => none
def aggEq (P : Program) (T : TypeId) (xs ys : Array Value) : Option Bool :=
  match P.underlying T with
  | some (.struct fs) => match P.stoodInHeld T || P.eqGuardType P.depth T with
    | true => none
    | false => fieldsEq P fs.toList xs ys
  | _ => none
def binPure (P : Program) (op : BinOp) (T : TypeId) (x y : Value) : Option Value :=
  match x, y with
  | .int k a, .int k' b =>
    match decide (k = k') with
    | false => none
    | true =>
      match op with
      | .add => some (.int k (k.wrap (a + b)))
      | .sub => some (.int k (k.wrap (a - b)))
      | .mul => some (.int k (k.wrap (a * b)))
      | .and => some (.int k (k.wrap (BitVec.ofInt k.bits a &&& BitVec.ofInt k.bits b).toNat))
      | .or => some (.int k (k.wrap (BitVec.ofInt k.bits a ||| BitVec.ofInt k.bits b).toNat))
      | .xor => some (.int k (k.wrap (BitVec.ofInt k.bits a ^^^ BitVec.ofInt k.bits b).toNat))
      | .andNot => some (.int k (k.wrap (BitVec.ofInt k.bits a &&& ~~~ BitVec.ofInt k.bits b).toNat))
      | .eql => some (.bool (a == b))
      | .neq => some (.bool (a != b))
      | .lss => some (.bool (decide (a < b)))
      | .leq => some (.bool (decide (a ≤ b)))
      | .gtr => some (.bool (decide (a > b)))
      | .geq => some (.bool (decide (a ≥ b)))
      | _ => none
  | .string a, .string b =>
    match op with
    | .eql => some (.bool (a.toList == b.toList))
    | .neq => some (.bool (!(a.toList == b.toList)))
    | .lss => some (.bool (Op.bytesLess a.toList b.toList))
    | .leq => some (.bool (Op.bytesLess a.toList b.toList || a.toList == b.toList))
    | .gtr => some (.bool (!(Op.bytesLess a.toList b.toList || a.toList == b.toList)))
    | .geq => some (.bool (!(Op.bytesLess a.toList b.toList)))
    | _ => none
  | .bool a, .bool b =>
    match P.underlying T with
    | some .bool =>
      match op with
      | .eql => some (.bool (a == b))
      | .neq => some (.bool (!(a == b)))
      | _ => none
    | _ => none
  | .pointer p, .pointer none =>
    match P.underlying T with
    | some (.pointer _) =>
      match op with
      | .eql => some (.bool p.isNone)
      | .neq => some (.bool (!p.isNone))
      | _ => none
    | _ => none
  | .slice p _ _, .slice none _ _ =>
    match P.underlying T with
    | some (.slice _) =>
      match op with
      | .eql => some (.bool p.isNone)
      | .neq => some (.bool (!p.isNone))
      | _ => none
    | _ => none
  | .map p, .map none =>
    match P.underlying T with
    | some (.map _ _) =>
      match op with
      | .eql => some (.bool p.isNone)
      | .neq => some (.bool (!p.isNone))
      | _ => none
    | _ => none
  | .func _ _ _, .nilFunc =>
    match P.underlying T with
    | some (.func _ _ _) =>
      match op with
      | .eql => some (.bool false)
      | .neq => some (.bool true)
      | _ => none
    | _ => none
  | .nilFunc, .nilFunc =>
    match P.underlying T with
    | some (.func _ _ _) =>
      match op with
      | .eql => some (.bool true)
      | .neq => some (.bool false)
      | _ => none
    | _ => none
  | .iface _ _, .nilIface =>
    match P.underlying T with
    | some (.interface _) =>
      match op with
      | .eql => some (.bool false)
      | .neq => some (.bool true)
      | _ => none
    | _ => none
  | .agg xs, .agg ys => match aggEq P T xs ys with
    | some r => match op with
      | .eql => some (.bool r)
      | .neq => some (.bool (!r))
      | _ => none
    | none => none
  | _, _ => none

theorem run_eqGuard_plain {P : Program} (op : BinOp) (t : TypeId) (x y : Operand) (a b : Value) (w : World) (h : (match a, b with | .nilIface, .nilIface => false | .agg _, .agg _ => false | _, _ => true) = true) :
    (eqGuard op t x y a b).run P w = .ok () w := by
  unfold eqGuard
  cases op <;> first
    | (simp; done)
    | (cases a <;> first
        | (simp; done)
        | (cases b <;> first | (simp; done) | (simp at h)))

theorem equal_run {P : Program} {w : World} {T : TypeId} {x y : Value} {b : Bool} (h : ∀ d, (Op.equalIn (d + 1) T x y).run P w = .ok b w) : (Op.equal T x y).run P w = .ok b w := by
  unfold Op.equal Op.maxDepth; exact h 9999
theorem run_eql_of {P : Program} {w : World} {T : TypeId} {x y : Value} {b : Bool} (he : (Op.equal T x y).run P w = .ok b w)
    (hs : (match x, y with | .bool _, .bool _ => true | .pointer _, .pointer _ => true | .slice _ _ _, .slice _ _ _ => true | .map _, .map _ => true | .func _ _ _, .nilFunc => true | .nilFunc, .nilFunc => true | .iface _ _, .nilIface => true | _, _ => false) = true) :
    (binOp .eql T x y).run P w = .ok (.bool b) w ∧ (binOp .neq T x y).run P w = .ok (.bool (!b)) w := by
  cases x <;> cases y <;> first
    | (simp at hs; done)
    | (constructor <;> (unfold binOp; simp [he]))

theorem run_isAgg_scal {P : Program} {t : TypeId} {w : World} {d : TypeDesc} (hu : P.underlying t = some d) (hd : (match d with | .struct _ => false | .array _ _ => false | _ => true) = true) : (isAgg t).run P w = .ok false w := by
  unfold isAgg
  cases d <;> simp [run_underlying hu] <;> cases hd
theorem run_part_scal {P : Program} {t : TypeId} {w : World} {d : TypeDesc} (hu : P.underlying t = some d) (hd : (match d with | .struct _ => false | .array _ _ => false | _ => true) = true) {cs : Array Value} {off : Nat} {v : Value} (hv : cs[off]? = some v) :
    (part t cs off).run P w = .ok v w := by
  unfold part
  simp [run_isAgg_scal hu hd, hv]
theorem run_scalEq {P : Program} {w : World} {t : TypeId} {xs ys : Array Value} {off : Nat} {r : Bool} (h : scalEq P t xs[off]? ys[off]? = some r) : ∃ u v, (part t xs off).run P w = .ok u w ∧ (part t ys off).run P w = .ok v w ∧ ∀ d, (Op.equalIn (d + 1) t u v).run P w = .ok r w := by
  unfold scalEq at h
  split at h
  · rename_i k0 k a k' b hu hx hy
    split at h
    · rename_i hk
      have hk := of_decide_eq_true hk
      subst hk
      cases h
      exact ⟨_, _, run_part_scal hu rfl hx, run_part_scal hu rfl hy, fun d => by simp [Op.equalIn, run_underlying hu]⟩
    · cases h
  · rename_i a b hu hx hy
    cases h
    exact ⟨_, _, run_part_scal hu rfl hx, run_part_scal hu rfl hy, fun d => by simp [Op.equalIn, run_underlying hu]⟩
  · rename_i a b hu hx hy
    cases h
    exact ⟨_, _, run_part_scal hu rfl hx, run_part_scal hu rfl hy, fun d => by simp [Op.equalIn, run_underlying hu]⟩
  · cases h
theorem run_fieldsEq {P : Program} {w : World} {xs ys : Array Value} (d : Nat) : ∀ (fs : List Field) {r : Bool}, fieldsEq P fs xs ys = some r → (Op.eqFields (d + 1) xs ys fs).run P w = .ok r w
  | [], r, h => by
    simp only [fieldsEq, Option.some.injEq] at h
    subst h; rfl
  | f :: fs, r, h => by
    unfold fieldsEq at h
    unfold Op.eqFields
    split at h
    · cases h
    · rename_i hn
      have hn := of_decide_eq_false hn
      rw [if_pos hn]
      split at h
      · rename_i hs
        obtain ⟨u, v, h1, h2, h3⟩ := run_scalEq (w := w) hs
        simp only [Sem.run_bind, h1, h2, h3, Result.andThen_ok]
        simpa using run_fieldsEq d fs h
      · rename_i hs
        obtain ⟨u, v, h1, h2, h3⟩ := run_scalEq (w := w) hs
        split at h
        · cases h
          simp [Sem.run_bind, h1, h2, h3, Result.andThen_ok]
        · cases h
      · cases h
theorem aggEq_guard {P : Program} {T : TypeId} {xs ys : Array Value} {r : Bool} (h : aggEq P T xs ys = some r) : P.eqGuardType P.depth T = false := by
  unfold aggEq at h
  split at h
  · split at h
    · cases h
    · rename_i hc
      simp only [Bool.or_eq_false_iff] at hc
      exact hc.2
  · cases h
theorem run_aggEq {P : Program} {w : World} {T : TypeId} {xs ys : Array Value} {r : Bool} (h : aggEq P T xs ys = some r) : (Op.equalIn 10000 T (.agg xs) (.agg ys)).run P w = .ok r w := by
  unfold aggEq at h
  split at h
  · rename_i fs hu
    split at h
    · cases h
    · rename_i hc
      simp only [Bool.or_eq_false_iff] at hc
      have hf : P.fieldsOf T = fs := by unfold Program.fieldsOf; rw [hu]
      rw [show (10000 : Nat) = 9999 + 1 from rfl, run_equalIn_struct w 9999 T xs ys (by rw [hf]; exact hu) hc.1, hf]
      exact run_fieldsEq 9998 _ h
  · cases h
theorem run_binPure {P : Program} {op : BinOp} {T : TypeId} {x y v : Value} (w : World) (h : binPure P op T x y = some v) : (binOp op T x y).run P w = .ok v w := by
  unfold binPure at h
  split at h
  · rename_i k a k' b
    by_cases hk : k = k'
    · subst hk
      simp only [decide_true] at h
      cases op <;> simp only [Option.some.injEq, reduceCtorEq] at h <;> subst h <;> simp [binOp, Op.intArith, Op.intBits, Op.intCmp]
    · simp [hk] at h
  · cases op <;> simp only [Option.some.injEq, reduceCtorEq] at h <;> subst h <;> simp [binOp, Op.stringOp]
  · rename_i p q
    split at h
    · rename_i hu
      have he := run_eql_of (equal_run (P := P) (w := w) (T := T) (x := .bool p) (y := .bool q) (b := p == q) (fun d => by simp [Op.equalIn, run_underlying hu])) rfl
      cases op <;> simp only [Option.some.injEq, reduceCtorEq] at h <;> subst h <;> first | exact he.1 | exact he.2
    · cases h
  · rename_i p
    split at h
    · rename_i hu
      have he := run_eql_of (equal_run (P := P) (w := w) (T := T) (x := .pointer p) (y := .pointer none) (b := p.isNone) (fun d => by cases p <;> simp [Op.equalIn, run_underlying hu])) rfl
      cases op <;> simp only [Option.some.injEq, reduceCtorEq] at h <;> subst h <;> first | exact he.1 | exact he.2
    · cases h
  · rename_i p n1 c1 n2 c2
    split at h
    · rename_i hu
      have he := run_eql_of (equal_run (P := P) (w := w) (T := T) (x := .slice p n1 c1) (y := .slice none n2 c2) (b := p.isNone) (fun d => by cases p <;> simp [Op.equalIn, run_underlying hu])) rfl
      cases op <;> simp only [Option.some.injEq, reduceCtorEq] at h <;> subst h <;> first | exact he.1 | exact he.2
    · cases h
  · rename_i p
    split at h
    · rename_i hu
      have he := run_eql_of (equal_run (P := P) (w := w) (T := T) (x := .map p) (y := .map none) (b := p.isNone) (fun d => by cases p <;> simp [Op.equalIn, run_underlying hu])) rfl
      cases op <;> simp only [Option.some.injEq, reduceCtorEq] at h <;> subst h <;> first | exact he.1 | exact he.2
    · cases h
  · rename_i fn p q
    split at h
    · rename_i hu
      have he := run_eql_of (equal_run (P := P) (w := w) (T := T) (x := .func fn p q) (y := .nilFunc) (b := false) (fun d => by simp [Op.equalIn, run_underlying hu])) rfl
      cases op <;> simp only [Option.some.injEq, reduceCtorEq] at h <;> subst h <;> first | exact he.1 | exact he.2
    · cases h
  · split at h
    · rename_i hu
      have he := run_eql_of (equal_run (P := P) (w := w) (T := T) (x := .nilFunc) (y := .nilFunc) (b := true) (fun d => by simp [Op.equalIn, run_underlying hu])) rfl
      cases op <;> simp only [Option.some.injEq, reduceCtorEq] at h <;> subst h <;> first | exact he.1 | exact he.2
    · cases h
  · rename_i t q
    split at h
    · rename_i hu
      have he := run_eql_of (equal_run (P := P) (w := w) (T := T) (x := .iface t q) (y := .nilIface) (b := false) (fun d => by simp [Op.equalIn, run_underlying hu])) rfl
      cases op <;> simp only [Option.some.injEq, reduceCtorEq] at h <;> subst h <;> first | exact he.1 | exact he.2
    · cases h
  · rename_i xs ys
    split at h
    · rename_i r hr
      have he := run_aggEq (w := w) hr
      cases op <;> simp only [Option.some.injEq, reduceCtorEq] at h <;> subst h
      · rw [run_eql_struct, he]; rfl
      · rw [run_neq_struct, he]; rfl
    · cases h
  · cases h

def unPure (op : UnOp) (x : Value) : Option Value :=
  match op, x with
  | .neg, .int k n => some (.int k (k.wrap (0 - n)))
  | .not, .bool b => some (.bool (!b))
  | .xor, .int k n => some (.int k (k.wrap (BitVec.ofInt k.bits (if k.signed then -1 else k.max) ^^^ BitVec.ofInt k.bits n).toNat))
  | _, _ => none
theorem run_unPure {P : Program} {op : UnOp} {x v : Value} (w : World) (h : unPure op x = some v) : (Op.unary op x).run P w = .ok v w := by
  unfold unPure at h
  split at h <;> simp only [Option.some.injEq, reduceCtorEq] at h <;> subst h <;> simp [Op.unary, Op.intArith, Op.intBits]

def fieldOff (P : Program) (S : TypeId) (f : Nat) : Option Nat :=
  match P.underlying S with
  | some (.struct fs) => match fs[f]? with
    | some fl => match P.info? fl.type with
      | some i => match i.size with
        | 0 => none
        | _ + 1 => some fl.offset
      | none => none
    | none => none
  | _ => none
theorem run_fieldOff {P : Program} {S : TypeId} {f off : Nat} (w : World) (h : fieldOff P S f = some off) (a : Addr) :
    (Instr.fieldAt S (.pointer (some a)) f).run P w = .ok (.pointer (some (a.add off))) w := by
  unfold fieldOff at h
  split at h
  · rename_i fs hu
    split at h
    · rename_i fl hf
      split at h
      · rename_i i hi
        split at h
        · cases h
        · rename_i k hs
          simp only [Option.some.injEq] at h; subst h
          simp [Instr.fieldAt, run_underlying hu, hf, Instr.sureAddr, fieldPlace, sizeOf, typeInfo, hi, hs]
      · cases h
    · cases h
  · cases h

/-- A struct's part, of a value. -/
def fieldVal (P : Program) (S : TypeId) (cs : List Value) (f : Nat) : Option Value :=
  match P.underlying S with
  | some (.struct fs) => match fs[f]? with
    | some fl => match P.underlying fl.type with
      | some (.struct _) => match P.info? fl.type with
        | some i => some (.agg ((cs.drop fl.offset).take i.size).toArray)
        | none => none
      | some (.array _ _) => match P.info? fl.type with
        | some i => some (.agg ((cs.drop fl.offset).take i.size).toArray)
        | none => none
      | some _ => cs[fl.offset]?
      | none => none
    | none => none
  | _ => none
theorem extract_list (cs : List Value) (o s : Nat) : cs.toArray.extract o (o + s) = ((cs.drop o).take s).toArray := by
  simp [List.take_drop]
theorem run_fieldVal {P : Program} {S : TypeId} {cs : List Value} {f : Nat} {v : Value} (w : World) (h : fieldVal P S cs f = some v) :
    (Instr.field S (.agg cs.toArray) f).run P w = .ok v w := by
  unfold fieldVal at h
  split at h
  · rename_i fs hu
    split at h
    · rename_i fl hf
      split at h
      · rename_i fs' hu'
        split at h
        · rename_i i hi
          simp only [Option.some.injEq] at h; subst h
          simp [Instr.field, run_underlying hu, hf, part, isAgg, run_underlying hu', asAgg, sizeOf, typeInfo, hi, List.take_drop]
        · cases h
      · rename_i n e hu'
        split at h
        · rename_i i hi
          simp only [Option.some.injEq] at h; subst h
          simp [Instr.field, run_underlying hu, hf, part, isAgg, run_underlying hu', asAgg, sizeOf, typeInfo, hi, List.take_drop]
        · cases h
      · rename_i d hd1 hd2 hu'
        have : (isAgg fl.type).run P w = .ok false w := by
          cases d <;> simp_all [isAgg, run_underlying hu']
        simp [Instr.field, run_underlying hu, hf, part, this, asAgg, h]
      · cases h
    · cases h
  · cases h

/-- What a computing operation yields. -/
def pureOp (P : Program) (e : Env) (o : Oper) : Option SV :=
  match o.op with
  | .move x => evs e x
  | .assign x => evs e x
  | .build t parts => match evvs e (parts.toList.map (·.2)) with
    | some vs => match P.built t ((parts.toList.map (·.1)).zip vs) with
      | some cells => some (.v (.agg cells))
      | none => none
    | none => none
  | .extract t i => match evv e t with
    | some (.tuple vs) => match vs[i]? with
      | some v => some (.v v)
      | none => none
    | _ => none
  | .field S x f => match evv e x with
    | some (.agg cs) => match fieldVal P S cs.toList f with
      | some v => some (.v v)
      | none => none
    | _ => none
  | .fieldAddr S x f => match fieldOff P S f with
    | some off => match evs e x with
      | some (.a k o') => some (.a k (o' + off))
      | some (.v (.pointer (some a))) => some (.v (.pointer (some (a.add off))))
      | _ => none
    | none => none
  | .nilCheck x => match evs e x with
    | some (.a k off) => some (.a k off)
    | some (.v (.pointer (some a))) => some (.v (.pointer (some a)))
    | some (.v (.func (.func f) p q)) => some (.v (.func (.func f) p q))
    | some (.v (.func (.yield l) p q)) => some (.v (.func (.yield l) p q))
    | some (.v (.iface t v)) => some (.v (.iface t v))
    | _ => none
  | .binOp op T x y _ => match evv e x, evv e y with
    | some a, some b => match binPure P op T a b with
      | some v => some (.v v)
      | none => none
    | _, _ => none
  | .unOp op _ x => match evv e x with
    | some a => match unPure op a with
      | some v => some (.v v)
      | none => none
    | none => none
  | .convert S D x => match evv e x with
    | some (.int _ m) => match P.underlying S, P.underlying D with
      | some _, some (.int k) => some (.v (.int k (k.wrap m)))
      | some _, some .string => some (.v (.string (Utf8.encode m)))
      | _, _ => none
    | some (.string s) => match P.underlying S, P.underlying D with
      | some _, some .string => some (.v (.string s))
      | _, _ => none
    | _ => none
  | .makeInterface T x => match evv e x with
    | some v => match P.underlying T with
      | some (.interface _) => none
      | some _ => some (.v (.iface T v))
      | none => none
    | none => none
  | .makeFunc fn first cap => match evvs e first.toList, evvs e cap.toList with
    | some p, some q => some (.v (.func fn p.toArray q.toArray))
    | _, _ => none
  | .call c => match c.callee with
    | .builtin .len => match c.argTypes.toList, evvs e c.args.toList with
      | [t], some [.string s] => match P.underlying t with
        | some .string => some (.v (.int .i64 s.size))
        | _ => none
      | [t], some [.slice _ m _] => match P.underlying t with
        | some (.slice _) => some (.v (.int .i64 m))
        | _ => none
      | [t], some [.map none] => match P.underlying t with
        | some (.map _ _) => some (.v (.int .i64 0))
        | _ => none
      | _, _ => none
    | .builtin .cap => match c.argTypes.toList, evvs e c.args.toList with
      | [t], some [.slice _ _ m] => match P.underlying t with
        | some (.slice _) => some (.v (.int .i64 m))
        | _ => none
      | _, _ => none
    | .builtin .min => match evvs e c.args.toList with
      | some [.int k x, .int _ y] => some (.v (.int k (if y < x then y else x)))
      | _ => none
    | .builtin .max => match evvs e c.args.toList with
      | some [.int k x, .int _ y] => some (.v (.int k (if y > x then y else x)))
      | _ => none
    | _ => none
  | _ => none
end Go.Proofs.YtmcaejnofmbilaaGreat.Tri
