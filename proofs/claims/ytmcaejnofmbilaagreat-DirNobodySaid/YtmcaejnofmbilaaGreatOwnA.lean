/- What a closed run's law needs: the old memory is as it was; the one function without a body. -/
import Derived.Test.YtmcaejnofmbilaaGreatCevJ
import Derived.WalkKit
import Derived.ProofKit
import Derived.OpenShut
import Derived.ShutString
import Derived.ChangeOld
import Derived.Below
import Derived.SizedLaws
import Derived.Lib.Bytealg
import Derived.Lib.SmallJoins
namespace Go.Proofs.YtmcaejnofmbilaaGreat.Tri
set_option linter.all false
open Go.RowKit

/-- The abstract value true. -/
def isTrueA : AV → AH → Bool
  | .v (.bool true), _ => true
  | _, _ => false
theorem isTrueA_eq {σ : Sg} {a : AV} {A : AH} {v : Value} (h : isTrueA a A = true) (hv : a.real σ = some v) : v = .bool true := by
  unfold isTrueA at h
  split at h
  · cases hv; rfl
  · cases h

/-- A run without memory of its own leaves all that was there. -/
theorem below_of_tri {P : Program} {f : FuncId} {args : Array Value} {Φ : Value → Heap → Prop} (h : Tri P f args (fun _ => none) Φ) (w : World) :
    Calls P f args w fun e w' => ∃ v M, e = .returned v ∧ Φ v M ∧ Below w.heap.size w w' :=
  (h w (fun _ _ hb => by cases hb)).mono fun _ _ ⟨v, M, he, hp, hx⟩ => ⟨v, M, he, hp, hx.os, hx.tape, hx.output, hx.size, fun k hk => (hx.old k hk rfl).2⟩

theorem findByte_eq (c : UInt8) : ∀ (l : List UInt8) (j : Nat), findByte c.toNat l j = if Lib.indexByte l c == -1 then -1 else Lib.indexByte l c + j
  | [], j => by simp [findByte, Lib.indexByte]
  | x :: r, j => by
    have hi := Lib.indexByte_ge r c
    unfold findByte Lib.indexByte
    by_cases h : x = c
    · subst h
      simp [Nat.beq_refl]
    · have hb : Nat.beq x.toNat c.toNat = false := by
        rw [← Bool.not_eq_true]
        intro hq
        exact h (UInt8.toNat_inj.1 (Nat.eq_of_beq_eq_true hq))
      have hx : (x == c) = false := by simpa using h
      simp only [hb, hx, Bool.false_eq_true, if_false]
      rw [findByte_eq c r (j + 1)]
      by_cases hm : Lib.indexByte r c = -1
      · simp [hm]
      · have hm' : (Lib.indexByte r c == -1) = false := by simpa using hm
        simp only [hm', Bool.false_eq_true, if_false]
        have : (Lib.indexByte r c + 1 == -1) = false := by
          simp only [beq_eq_false_iff_ne, ne_eq]; omega
        simp only [this, Bool.false_eq_true, if_false]
        omega

theorem findByte_zero (l : List UInt8) (b : Int) : findByte (b.toNat % 256) l 0 = Lib.indexByte l b.toNat.toUInt8 := by
  have := findByte_eq b.toNat.toUInt8 l 0
  have e : b.toNat.toUInt8.toNat = b.toNat % 256 := by simp [Nat.toUInt8]
  rw [e] at this
  rw [this]
  split
  · rename_i h; simpa using (beq_iff_eq.1 h).symm
  · simp

/-- The functions of this name, by number. -/
def idxs (P : Program) : List Nat := (List.range P.funcs.size).filter fun g => match P.funcs[g]? with | some fn => decide (fn.name = "internal/bytealg.IndexByteString") | none => false
theorem extOk_of {P : Program} {g0 : Nat} {f0 : Func} (hi : idxs P = [g0]) (hf : P.funcs[g0]? = some f0) (h1 : (f0.name == "runtime.NumGoroutine") = false) (h2 : f0.body.isNone = true) (h3 : Extern.findNext f0 = none)
    (h4 : Extern.find f0 = some Extern.BytealgIndexByte.indexByte) : ExtOk P := by
  intro g fn s b hg hn w
  have hmem : g ∈ idxs P := by
    unfold idxs
    rw [List.mem_filter]
    refine ⟨List.mem_range.2 ?_, ?_⟩
    · exact (Array.getElem?_eq_some_iff.1 hg).1
    · rw [hg]; simpa using hn
  rw [hi, List.mem_singleton] at hmem
  subst hmem
  rw [run_callFunc_extern hf h1 h2 h3 (e := Extern.BytealgIndexByte.indexByte) h4, Lib.run_indexByteString, findByte_zero]
  rfl
theorem extOk_none {P : Program} (hi : idxs P = []) : ExtOk P := by
  intro g fn s b hg hn w
  have hmem : g ∈ idxs P := by
    unfold idxs
    rw [List.mem_filter]
    refine ⟨List.mem_range.2 ?_, ?_⟩
    · exact (Array.getElem?_eq_some_iff.1 hg).1
    · rw [hg]; simpa using hn
  rw [hi] at hmem
  cases hmem
end Go.Proofs.YtmcaejnofmbilaaGreat.Tri
