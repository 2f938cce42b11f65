/- The heap-local logic: partial heaps, the triple, and its rules. -/
import Derived.RangeFuncNested
import Derived.RangeFuncBound
import Derived.RangeFuncCalls
import Derived.RangeFuncLeaves
import Derived.WalkKit
import Derived.KernelRfl
import Derived.WalkLawsBesides
import Derived.Laws.Tables
import Derived.Laws.Small
namespace Go.Proofs.YtmcaejnofmbilaaGreat.Tri
set_option linter.all false
open Go.RowKit

/-- What a proof knows of the heap. -/
abbrev Heap := Nat → Option Obj
def Sub (L M : Heap) : Prop := ∀ b o, L b = some o → M b = some o
def wl (w : World) : Heap := fun b => w.heap[b]?
def upd (L : Heap) (b : Nat) (o : Obj) : Heap := fun x => match Nat.beq x b with | true => some o | false => L x

theorem Sub.refl (L : Heap) : Sub L L := fun _ _ h => h
theorem Sub.trans {A B C : Heap} (h : Sub A B) (k : Sub B C) : Sub A C := fun b o x => k b o (h b o x)
theorem upd_same (L : Heap) (b : Nat) (o : Obj) : upd L b o b = some o := by unfold upd; rw [Nat.beq_refl]
theorem upd_other (L : Heap) {b x : Nat} (o : Obj) (h : x ≠ b) : upd L b o x = L x := by
  unfold upd
  have : Nat.beq x b = false := by cases hb : Nat.beq x b with
    | false => rfl
    | true => exact absurd (Nat.eq_of_beq_eq_true hb) h
  rw [this]
theorem Sub.upd {L : Heap} {b : Nat} {o : Obj} (h : L b = none) : Sub L (upd L b o) := fun x y hx => by
  rw [upd_other]; exact hx
  intro e; subst e; rw [h] at hx; cases hx
theorem Sub.upd_mono {L M : Heap} (h : Sub L M) (b : Nat) (o : Obj) : Sub (Tri.upd L b o) (Tri.upd M b o) := fun x y hx => by
  by_cases e : x = b
  · subst e; rw [upd_same] at hx ⊢; exact hx
  · rw [upd_other _ _ e] at hx ⊢; exact h x y hx

/-- From L at w to M at w': what the proof did not know of is untouched, and is not claimed. -/
structure Ext (L : Heap) (w : World) (M : Heap) (w' : World) : Prop where
  os : w'.os = w.os
  tape : w'.tape = w.tape
  output : w'.output = w.output
  size : w.heap.size ≤ w'.heap.size
  sub : Sub M (wl w')
  old : ∀ b, b < w.heap.size → L b = none → M b = none ∧ w'.heap[b]? = w.heap[b]?

theorem wl_none {w : World} {b : Nat} (h : w.heap.size ≤ b) : wl w b = none := by unfold wl; simp [h]
theorem sub_lt {L : Heap} {w : World} (h : Sub L (wl w)) {b : Nat} {o : Obj} (hb : L b = some o) : b < w.heap.size := by
  have := h b o hb
  rcases Nat.lt_or_ge b w.heap.size with hlt | hge
  · exact hlt
  · rw [wl_none hge] at this; cases this
theorem sub_none {L : Heap} {w : World} (h : Sub L (wl w)) {b : Nat} (hb : w.heap.size ≤ b) : L b = none := by
  cases e : L b with
  | none => rfl
  | some o => have := sub_lt h e; omega

theorem Ext.refl {L : Heap} {w : World} (h : Sub L (wl w)) : Ext L w L w := ⟨rfl, rfl, rfl, Nat.le_refl _, h, fun _ _ h => ⟨h, rfl⟩⟩
theorem Ext.trans {L M N : Heap} {w w1 w2 : World} (h : Ext L w M w1) (k : Ext M w1 N w2) : Ext L w N w2 :=
  ⟨k.os.trans h.os, k.tape.trans h.tape, k.output.trans h.output, Nat.le_trans h.size k.size, k.sub, fun b hb hL =>
    let ⟨h1, h2⟩ := h.old b hb hL
    let ⟨k1, k2⟩ := k.old b (Nat.lt_of_lt_of_le hb h.size) h1
    ⟨k1, k2.trans h2⟩⟩
/-- What is claimed may be less. -/
theorem Ext.less {L M N : Heap} {w w1 : World} (h : Ext L w M w1) (hs : Sub N M) : Ext L w N w1 :=
  ⟨h.os, h.tape, h.output, h.size, hs.trans h.sub, fun b hb hL => by
    obtain ⟨h1, h2⟩ := h.old b hb hL
    refine ⟨?_, h2⟩
    cases e : N b with
    | none => rfl
    | some o => have := hs b o e; rw [h1] at this; cases this⟩
/-- A draw. -/
theorem Ext.drew {L : Heap} {w : World} (h : Sub L (wl w)) (n : Nat) : Ext L w L { w with drawn := n } := ⟨rfl, rfl, rfl, Nat.le_refl _, h, fun _ _ h => ⟨h, rfl⟩⟩
/-- A new block. -/
theorem Ext.alloc {L : Heap} {w : World} (h : Sub L (wl w)) (o : Obj) : Ext L w (upd L w.heap.size o) (w.alloc o) := by
  refine ⟨rfl, rfl, rfl, by simp, fun b p hb => ?_, fun b hb hL => ⟨?_, Below.heap_alloc _ _ _ hb⟩⟩
  · by_cases e : b = w.heap.size
    · subst e; rw [upd_same] at hb; cases hb; exact World.alloc_heap_new w o
    · rw [upd_other _ _ e] at hb
      have hlt := sub_lt h hb
      exact (Below.heap_alloc w o b hlt).trans (h b p hb)
  · rw [upd_other _ _ (by omega)]; exact hL
/-- A new block that the proof keeps hidden. -/
theorem Ext.allocHid {L : Heap} {w : World} (h : Sub L (wl w)) (o : Obj) : Ext L w L (w.alloc o) :=
  (Ext.alloc h o).less (Sub.upd (sub_none h (Nat.le_refl _)))
theorem Ext.allocNone {L : Heap} {w : World} (h : Sub L (wl w)) : L w.heap.size = none := sub_none h (Nat.le_refl _)
/-- A known block is written. -/
theorem Ext.set {L : Heap} {w : World} (h : Sub L (wl w)) {b : Nat} {o : Obj} (hb : L b = some o) (o' : Obj) {w' : World} (hw : w' = { w with heap := w.heap.setIfInBounds b o' }) : Ext L w (upd L b o') w' := by
  subst hw
  have hlt := sub_lt h hb
  refine ⟨rfl, rfl, rfl, by simp, fun x p hx => ?_, fun x hx hL => ⟨?_, ?_⟩⟩
  · show (w.heap.setIfInBounds b o')[x]? = some p
    by_cases e : x = b
    · subst e; rw [upd_same] at hx; cases hx; simp [hlt]
    · rw [upd_other _ _ e] at hx
      rw [Array.getElem?_setIfInBounds_ne (by omega)]; exact h x p hx
  · have e : x ≠ b := by intro e; subst e; rw [hb] at hL; cases hL
    rw [upd_other _ _ e]; exact hL
  · have e : x ≠ b := by intro e; subst e; rw [hb] at hL; cases hL
    show (w.heap.setIfInBounds b o')[x]? = w.heap[x]?
    rw [Array.getElem?_setIfInBounds_ne (by omega)]

/-- THE TRIPLE: called where L is known, f returns; Φ says what, and what is known then; nothing else has turned. -/
def Tri (P : Program) (f : FuncId) (args : Array Value) (L : Heap) (Φ : Value → Heap → Prop) : Prop :=
  ∀ w, Sub L (wl w) → Calls P f args w fun e w' => ∃ v M, e = .returned v ∧ Φ v M ∧ Ext L w M w'

theorem Tri.mono {P : Program} {f : FuncId} {args : Array Value} {L : Heap} {Φ Ψ : Value → Heap → Prop} (h : Tri P f args L Φ) (hi : ∀ v M, Φ v M → Ψ v M) : Tri P f args L Ψ :=
  fun w hw => (h w hw).mono fun _ _ ⟨v, M, he, hp, hx⟩ => ⟨v, M, he, hi v M hp, hx⟩

/-- Join of two heaps. -/
def join (L F : Heap) : Heap := fun b => match L b with | some o => some o | none => F b
def Apart (L F : Heap) : Prop := ∀ b o, L b = some o → F b = none
/-- THE FRAME. -/
theorem Tri.frame {P : Program} {f : FuncId} {args : Array Value} {L F : Heap} {Φ : Value → Heap → Prop} (h : Tri P f args L Φ) (hd : Apart L F) :
    Tri P f args (join L F) fun v N => ∃ M, N = join M F ∧ Apart M F ∧ Φ v M := by
  intro w hw
  have hL : Sub L (wl w) := fun b o hb => hw b o (by simp [join, hb])
  have hF : Sub F (wl w) := fun b o hb => hw b o (by
    unfold join
    cases e : L b with
    | none => exact hb
    | some p => have := hd b p e; rw [hb] at this; cases this)
  refine (h w hL).mono fun e w' ⟨v, M, he, hp, hx⟩ => ?_
  have hMF : Apart M F := fun b o hb => by
    cases eF : F b with
    | none => rfl
    | some p =>
      have hlt := sub_lt hF eF
      have hLb : L b = none := by
        cases eL : L b with
        | none => rfl
        | some q => have := hd b q eL; rw [eF] at this; cases this
      have := (hx.old b hlt hLb).1
      rw [hb] at this; cases this
  refine ⟨v, join M F, he, ⟨M, rfl, hMF, hp⟩, hx.os, hx.tape, hx.output, hx.size, fun b o hb => ?_, fun b hb hj => ?_⟩
  · unfold join at hb
    cases eM : M b with
    | some p => rw [eM] at hb; cases hb; exact hx.sub b o eM
    | none =>
      rw [eM] at hb
      replace hb : F b = some o := hb
      have hlt := sub_lt hF hb
      have hLb : L b = none := by
        cases eL : L b with
        | none => rfl
        | some q => have := hd b q eL; rw [hb] at this; cases this
      exact ((hx.old b hlt hLb).2).trans (hF b o hb)
  · unfold join at hj ⊢
    cases eL : L b with
    | some p => rw [eL] at hj; cases hj
    | none =>
      rw [eL] at hj
      replace hj : F b = none := hj
      obtain ⟨h1, h2⟩ := hx.old b hb eL
      exact ⟨by rw [h1]; exact hj, h2⟩
end Go.Proofs.YtmcaejnofmbilaaGreat.Tri
