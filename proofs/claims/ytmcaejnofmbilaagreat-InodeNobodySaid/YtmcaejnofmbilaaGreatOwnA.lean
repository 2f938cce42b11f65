/- What a closed run's law needs: the old memory is as it was; the one function without a body. -/
import Derived.Test.YtmcaejnofmbilaaGreatCevJ
import Derived.WalkKit
import Derived.ProofKit
import Derived.OpenShut
import Derived.ShutString
import Derived.ChangeOld
import Derived.Below
import Derived.SizedLaws
import Derived.Lib.Bytealg
import Derived.Lib.SmallJoins
namespace Go.Proofs.YtmcaejnofmbilaaGreat.Tri
set_option linter.all false
open Go.RowKit

/-- The abstract value true. -/
def isTrueA : AV → AH → Bool
  | .v (.bool true), _ => true
  | _, _ => false
theorem isTrueA_eq {σ : Sg} {a : AV} {A : AH} {v : Value} (h : isTrueA a A = true) (hv : a.real σ = some v) : v = .bool true := by
  unfold isTrueA at h
  split at h
  · cases hv; rfl
  · cases h

/-- A run without memory of its own leaves all that was there. -/
theorem below_of_tri {P : Program} {f : FuncId} {args : Array Value} {Φ : Value → Heap → Prop} (h : Tri P f args (fun _ => none) Φ) (w : World) :
    Calls P f args w fun e w' => ∃ v M, e = .returned v ∧ Φ v M ∧ Below w.heap.size w w' :=
  (h w (fun _ _ hb => by cases hb)).mono fun _ _ ⟨v, M, he, hp, hx⟩ => ⟨v, M, he, hp, hx.os, hx.tape, hx.output, hx.size, fun k hk => (hx.old k hk rfl).2⟩

theorem findByte_eq (c : UInt8) : ∀ (l : List UInt8) (j : Nat), findByte c.toNat l j = if Lib.indexByte l c == -1 then -1 else Lib.indexByte l c + j
  | [], j => by simp [findByte, Lib.indexByte]
  | x :: r, j => by
    have hi := Lib.indexByte_ge r c
    unfold findByte Lib.indexByte
    by_cases h : x = c
    · subst h
      simp [Nat.beq_refl]
    · have hb : Nat.beq x.toNat c.toNat = false := by
        rw [← Bool.not_eq_true]
        intro hq
        exact h (UInt8.toNat_inj.1 (Nat.eq_of_beq_eq_true hq))
      have hx : (x == c) = false := by simpa using h
      simp only [hb, hx, Bool.false_eq_true, if_false]
      rw [findByte_eq c r (j + 1)]
      by_cases hm : Lib.indexByte r c = -1
      · simp [hm]
      · have hm' : (Lib.indexByte r c == -1) = false := by simpa using hm
        simp only [hm', Bool.false_eq_true, if_false]
        have : (Lib.indexByte r c + 1 == -1) = false := by
          simp only [beq_eq_false_iff_ne, ne_eq]; omega
        simp only [this, Bool.false_eq_true, if_false]
        omega

theorem findByte_zero (l : List UInt8) (b : Int) : findByte (b.toNat % 256) l 0 = Lib.indexByte l b.toNat.toUInt8 := by
  have := findByte_eq b.toNat.toUInt8 l 0
  have e : b.toNat.toUInt8.toNat = b.toNat % 256 := by simp [Nat.toUInt8]
  rw [e] at this
  rw [this]
  split
  · rename_i h; simpa using (beq_iff_eq.1 h).symm
  · simp

/-- The functions that are slices.Insert, by number, and of what they are. -/
def insTab (P : Program) : List (Nat × TypeId) := (List.range P.funcs.size).filterMap fun g => match insOf P g with
  | some el => some (g, el)
  | none => none
theorem insTab_mem {P : Program} {g : Nat} {el : TypeId} (h : insOf P g = some el) : (g, el) ∈ insTab P := by
  unfold insTab
  rw [List.mem_filterMap]
  refine ⟨g, List.mem_range.2 ?_, by rw [h]⟩
  unfold insOf at h
  split at h
  · rename_i fn hf; exact (Array.getElem?_eq_some_iff.1 hf).1
  · cases h
/-- The functions of this name, by number. -/
def idxs (P : Program) : List Nat := (List.range P.funcs.size).filter fun g => match P.funcs[g]? with | some fn => decide (fn.name = "internal/bytealg.IndexByteString") | none => false
theorem extOk_of {P : Program} {g0 : Nat} {f0 : Func} (hins : InsOk P) (hi : idxs P = [g0]) (hf : P.funcs[g0]? = some f0) (h1 : (f0.name == "runtime.NumGoroutine") = false) (h2 : f0.body.isNone = true) (h3 : Extern.findNext f0 = none)
    (h4 : Extern.find f0 = some Extern.BytealgIndexByte.indexByte) : ExtOk P := by
  refine ⟨hins, ?_⟩
  intro g fn s b hg hn w
  have hmem : g ∈ idxs P := by
    unfold idxs
    rw [List.mem_filter]
    refine ⟨List.mem_range.2 ?_, ?_⟩
    · exact (Array.getElem?_eq_some_iff.1 hg).1
    · rw [hg]; simpa using hn
  rw [hi, List.mem_singleton] at hmem
  subst hmem
  rw [run_callFunc_extern hf h1 h2 h3 (e := Extern.BytealgIndexByte.indexByte) h4, Lib.run_indexByteString, findByte_zero]
  rfl
theorem extOk_none {P : Program} (hins : InsOk P) (hi : idxs P = []) : ExtOk P := by
  refine ⟨hins, ?_⟩
  intro g fn s b hg hn w
  have hmem : g ∈ idxs P := by
    unfold idxs
    rw [List.mem_filter]
    refine ⟨List.mem_range.2 ?_, ?_⟩
    · exact (Array.getElem?_eq_some_iff.1 hg).1
    · rw [hg]; simpa using hn
  rw [hi] at hmem
  cases hmem
/-! The cells of a type that bears numbers, truths and texts alone. -/
inductive Kp where
  | int (k : IntKind)
  | bool
  | str
def kpOk : Kp → Value → Prop
  | .int k, v => ∃ n, v = .int k n ∧ (Lit.int k n).wf = true
  | .bool, v => ∃ b, v = .bool b
  | .str, v => ∃ s : ByteArray, v = .string s ∧ s.size ≤ maxLen
def allKp : List Kp → List Value → Prop
  | [], vs => vs = []
  | k :: ks, vs => ∃ v r, vs = v :: r ∧ kpOk k v ∧ allKp ks r
def fieldsKp (P : Program) (g : TypeId → Option (List Kp)) (tot : Nat) : List Field → Nat → Option (List Kp)
  | [], off => match Nat.beq off tot with
    | true => some []
    | false => none
  | f :: r, off => match Nat.beq f.offset off, g f.type, fieldsKp P g tot r (off + P.cellsOf f.type) with
    | true, some a, some b => some (a ++ b)
    | _, _, _ => none
def kpsOf (P : Program) : Nat → TypeId → Option (List Kp)
  | 0, _ => none
  | d + 1, t => match P.underlying t with
    | some (.int k) => some [.int k]
    | some .bool => some [.bool]
    | some .string => some [.str]
    | some (.struct fs) => fieldsKp P (kpsOf P d) (P.cellsOf t) fs.toList 0
    | _ => none
theorem allKp_append : ∀ {ks ls : List Kp} {vs ws : List Value}, allKp ks vs → allKp ls ws → allKp (ks ++ ls) (vs ++ ws)
  | [], _, vs, _, h, h2 => by
    have : vs = [] := h
    subst this; exact h2
  | _ :: _, _, _, _, ⟨v, r, e, h1, h2⟩, h3 => ⟨v, r ++ _, by rw [e]; rfl, h1, allKp_append h2 h3⟩
section
variable {H : Type} {enc : TypeId × Value → H} {P : Program} {w : World} {base : Nat} {sp : Nat → Bool} {held : Bool}
theorem fieldsKp_of {n tot : Nat} {g : TypeId → Option (List Kp)} {cs : List Value} (hg : ∀ t ks ds x, g t = some ks → DataW.trod enc P w base sp held n t ds = some x → allKp ks ds) (hl : cs.length = tot) :
    ∀ (fs : List Field) (off : Nat) {ks : List Kp}, fieldsKp P g tot fs off = some ks → (∀ f ∈ fs, ∃ x, DataW.trod enc P w base sp held n f.type ((cs.drop f.offset).take (P.cellsOf f.type)) = some x) → allKp ks (cs.drop off)
  | [], off, ks, h, _ => by
    unfold fieldsKp at h
    split at h
    · rename_i he
      have he := Nat.eq_of_beq_eq_true he
      cases h
      show cs.drop off = []
      rw [List.drop_eq_nil_iff]; omega
    · cases h
  | f :: r, off, ks, h, hx => by
    unfold fieldsKp at h
    split at h
    · rename_i a b h1 h2 h3
      cases h
      have h1 := Nat.eq_of_beq_eq_true h1
      obtain ⟨x, hx1⟩ := hx f (List.mem_cons_self ..)
      have k1 := hg _ _ _ _ h2 hx1
      have k2 := fieldsKp_of hg hl r _ h3 fun f' hf => hx f' (List.mem_cons_of_mem _ hf)
      rw [h1] at k1
      have := allKp_append k1 k2
      rw [← List.drop_drop, List.take_append_drop] at this
      exact this
    · cases h
theorem kps_of : ∀ (d : Nat) {n : Nat} {t : TypeId} {ks : List Kp} {cs : List Value} {x : DataW H × List MemPlace}, kpsOf P d t = some ks → DataW.trod enc P w base sp held n t cs = some x → allKp ks cs
  | 0, _, _, _, _, _, h, _ => by cases h
  | d + 1, n, t, ks, cs, x, h, hx => by
    unfold kpsOf at h
    split at h
    · rename_i k hu
      cases h
      obtain ⟨m, h1, _, h2⟩ := DataW.trod_int hu hx
      exact ⟨_, [], h1, ⟨m, rfl, h2⟩, rfl⟩
    · rename_i hu
      cases h
      obtain ⟨b, h1, _⟩ := DataW.trod_bool hu hx
      exact ⟨_, [], h1, ⟨b, rfl⟩, rfl⟩
    · rename_i hu
      cases h
      obtain ⟨s, h1, _, h2⟩ := DataW.trod_string hu hx
      exact ⟨_, [], h1, ⟨s, rfl, h2⟩, rfl⟩
    · rename_i fs hu
      obtain ⟨xs, m, rfl, _, hl, hlen, hf⟩ := DataW.trod_struct hu hx
      have := fieldsKp_of (enc := enc) (w := w) (base := base) (sp := sp) (held := held) (n := m) (fun t ks ds x h1 h2 => kps_of d h1 h2) hl fs.toList 0 h fun f hfm => by
        obtain ⟨i, hi⟩ := List.mem_iff_getElem?.1 hfm
        have hi' : fs[i]? = some f := by simpa using hi
        have hlt : i < xs.length := by rw [hlen]; exact (Array.getElem?_eq_some_iff.1 hi').1
        exact ⟨xs[i], by rw [hf i f hi', List.getElem?_eq_getElem hlt]⟩
      simpa using this
    · cases h
/-- A struct of numbers, truths and texts, opened. -/
theorem open_kps {r : Reach} {b0 : Nat} {t : TypeId} {fs : Array Field} {ks : List Kp} {v : Value} {x : DataW H} {p : List MemPlace} (d : Nat) (hu : P.underlying t = some (.struct fs)) (hk : kpsOf P d t = some ks) (hv : Value.okWide P w r b0 t v)
    (h : DataW.Trod enc P w base sp held t v x p) : ∃ cs : List Value, v = .agg cs.toArray ∧ allKp ks cs := by
  obtain ⟨cs, rfl, hsz⟩ := WideShapes.okWide_struct hu hv
  obtain ⟨n, hn⟩ := h
  exact ⟨cs.toList, by simp, by simpa [Value.cells] using kps_of d hk hn⟩
end
end Go.Proofs.YtmcaejnofmbilaaGreat.Tri
