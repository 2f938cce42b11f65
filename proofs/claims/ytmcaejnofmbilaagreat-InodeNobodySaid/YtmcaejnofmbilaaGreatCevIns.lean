/- slices.Insert in the middle of a slice whose elements are of one cell: what its code asks, and when it is given. -/
import Derived.Test.YtmcaejnofmbilaaGreatTriM
import Derived.Test.YtmcaejnofmbilaaGreatCevC
import Derived.Lib.Overlaps
import Derived.ProofKit
namespace Go.Proofs.YtmcaejnofmbilaaGreat.Tri
set_option linter.all false
open Go.RowKit

/-- What the code of slices.Insert asks (printed by wip/tools/gen.py out of the function's condition; held to it by the kernel where it is used). -/
def InsVC (P : Program) (el ov rv : Nat) (a0p : Option Addr) (a0n : Nat) (a0c : Nat) (a1 : Int) (a2p : Option Addr) (a2n : Nat) (a2c : Nat) (L : Heap) (Φ : Value → Heap → Prop) : Prop :=
  0 ≤ a1 ∧
    a1 ≤ (↑a0n : Int) ∧
      (↑a0n : Int) ≤ (↑a0c : Int) ∧
        (↑a0c : Int) ≤ (↑a0c : Int) ∧
          pIf ((↑a2n : Int) == 0) (Lss (fun (x : Value) (x_1 : Nat → Option Obj) => Φ x x_1) (Value.slice a0p a0n a0c) L)
            (pIf (a1 == (↑a0n : Int))
              (pAppend P (plainCfg []) L el a0p a0n a0c (Value.slice a2p a2n a2c) fun (q : Option Addr) (l c : Nat) (M : Heap) =>
                Lss (fun (x : Value) (x_1 : Nat → Option Obj) => Φ x x_1) (Value.slice q l c) M)
              (pIf (decide (IntKind.wrap IntKind.i64 ((↑a0n : Int) + (↑a2n : Int)) > (↑a0c : Int)))
                ((0 : Int) ≤ 0 ∧
                  0 ≤ a1 ∧
                    a1 ≤ (↑a0c : Int) ∧
                      (↑a0c : Int) ≤ (↑a0c : Int) ∧
                        pAppendZ P L el (advP a0p 0 a0c 1) (Int.toNat a1 - 0) (a0c - 0)
                          (IntKind.wrap IntKind.i64 (IntKind.wrap IntKind.i64 ((↑a0n : Int) + (↑a2n : Int)) - a1)) fun (q : Option Addr) (l c : Nat) (M : Heap) =>
                          0 ≤ a1 ∧
                            a1 ≤ (↑l : Int) ∧
                              (↑l : Int) ≤ (↑c : Int) ∧
                                (↑c : Int) ≤ (↑c : Int) ∧
                                  ∃ (k : Nat),
                                    ∃ (xs : List Value),
                                      Sem.pure a2n = Sem.pure k ∧
                                        (∀ (s : ByteArray), Value.slice a2p a2n a2c = Value.string s → 1 = 1) ∧
                                          srcCells M (Value.slice a2p a2n a2c) (min k (l - Int.toNat a1) * 1) xs ∧
                                            allSingle xs = true ∧
                                              pPut (plainCfg []) M (advP q (Int.toNat a1) c 1) xs fun (M : Heap) =>
                                                0 ≤ IntKind.wrap IntKind.i64 (a1 + (↑a2n : Int)) ∧
                                                  IntKind.wrap IntKind.i64 (a1 + (↑a2n : Int)) ≤ (↑l : Int) ∧
                                                    (↑l : Int) ≤ (↑c : Int) ∧
                                                      (↑c : Int) ≤ (↑c : Int) ∧
                                                        0 ≤ a1 ∧
                                                          a1 ≤ (↑a0n : Int) ∧
                                                            (↑a0n : Int) ≤ (↑a0c : Int) ∧
                                                              (↑a0c : Int) ≤ (↑a0c : Int) ∧
                                                                ∃ (k : Nat),
                                                                  ∃ (xs : List Value),
                                                                    Sem.pure (a0n - Int.toNat a1) = Sem.pure k ∧
                                                                      (∀ (s : ByteArray),
                                                                          Value.slice (advP a0p (Int.toNat a1) a0c 1) (a0n - Int.toNat a1) (a0c - Int.toNat a1) = Value.string s →
                                                                            1 = 1) ∧
                                                                        srcCells M (Value.slice (advP a0p (Int.toNat a1) a0c 1) (a0n - Int.toNat a1) (a0c - Int.toNat a1))
                                                                            (min k (l - Int.toNat (IntKind.wrap IntKind.i64 (a1 + (↑a2n : Int)))) * 1) xs ∧
                                                                          allSingle xs = true ∧
                                                                            pPut (plainCfg []) M (advP q (Int.toNat (IntKind.wrap IntKind.i64 (a1 + (↑a2n : Int)))) c 1) xs
                                                                              fun (M : Heap) => Lss (fun (x : Value) (x_1 : Nat → Option Obj) => Φ x x_1) (Value.slice q l c) M)
                ((0 : Int) ≤ 0 ∧
                  0 ≤ IntKind.wrap IntKind.i64 ((↑a0n : Int) + (↑a2n : Int)) ∧
                    IntKind.wrap IntKind.i64 ((↑a0n : Int) + (↑a2n : Int)) ≤ (↑a0c : Int) ∧
                      (↑a0c : Int) ≤ (↑a0c : Int) ∧
                        0 ≤ IntKind.wrap IntKind.i64 (a1 + (↑a2n : Int)) ∧
                          IntKind.wrap IntKind.i64 (a1 + (↑a2n : Int)) ≤ (↑(Int.toNat (IntKind.wrap IntKind.i64 ((↑a0n : Int) + (↑a2n : Int))) - 0) : Int) ∧
                            (↑(Int.toNat (IntKind.wrap IntKind.i64 ((↑a0n : Int) + (↑a2n : Int))) - 0) : Int) ≤ (↑(a0c - 0) : Int) ∧
                              (↑(a0c - 0) : Int) ≤ (↑(a0c - 0) : Int) ∧
                                ∃ (x : Bool),
                                  Outs P ov
                                      {
                                        toList :=
                                          [Value.slice a2p a2n a2c,
                                            Value.slice (advP (advP a0p 0 a0c 1) (Int.toNat (IntKind.wrap IntKind.i64 (a1 + (↑a2n : Int)))) (a0c - 0) 1)
                                              (Int.toNat (IntKind.wrap IntKind.i64 ((↑a0n : Int) + (↑a2n : Int))) - 0 - Int.toNat (IntKind.wrap IntKind.i64 (a1 + (↑a2n : Int))))
                                              (a0c - 0 - Int.toNat (IntKind.wrap IntKind.i64 (a1 + (↑a2n : Int))))] }
                                      L (Value.bool x) ∧
                                    pIf (!x)
                                      (0 ≤ IntKind.wrap IntKind.i64 (a1 + (↑a2n : Int)) ∧
                                        IntKind.wrap IntKind.i64 (a1 + (↑a2n : Int)) ≤ (↑(Int.toNat (IntKind.wrap IntKind.i64 ((↑a0n : Int) + (↑a2n : Int))) - 0) : Int) ∧
                                          (↑(Int.toNat (IntKind.wrap IntKind.i64 ((↑a0n : Int) + (↑a2n : Int))) - 0) : Int) ≤ (↑(a0c - 0) : Int) ∧
                                            (↑(a0c - 0) : Int) ≤ (↑(a0c - 0) : Int) ∧
                                              0 ≤ a1 ∧
                                                a1 ≤ (↑(Int.toNat (IntKind.wrap IntKind.i64 ((↑a0n : Int) + (↑a2n : Int))) - 0) : Int) ∧
                                                  (↑(Int.toNat (IntKind.wrap IntKind.i64 ((↑a0n : Int) + (↑a2n : Int))) - 0) : Int) ≤ (↑(a0c - 0) : Int) ∧
                                                    (↑(a0c - 0) : Int) ≤ (↑(a0c - 0) : Int) ∧
                                                      ∃ (k : Nat),
                                                        ∃ (xs : List Value),
                                                          Sem.pure (Int.toNat (IntKind.wrap IntKind.i64 ((↑a0n : Int) + (↑a2n : Int))) - 0 - Int.toNat a1) = Sem.pure k ∧
                                                            (∀ (s : ByteArray),
                                                                Value.slice (advP (advP a0p 0 a0c 1) (Int.toNat a1) (a0c - 0) 1)
                                                                      (Int.toNat (IntKind.wrap IntKind.i64 ((↑a0n : Int) + (↑a2n : Int))) - 0 - Int.toNat a1)
                                                                      (a0c - 0 - Int.toNat a1) =
                                                                    Value.string s →
                                                                  1 = 1) ∧
                                                              srcCells L
                                                                  (Value.slice (advP (advP a0p 0 a0c 1) (Int.toNat a1) (a0c - 0) 1)
                                                                    (Int.toNat (IntKind.wrap IntKind.i64 ((↑a0n : Int) + (↑a2n : Int))) - 0 - Int.toNat a1) (a0c - 0 - Int.toNat a1))
                                                                  (min k
                                                                      (Int.toNat (IntKind.wrap IntKind.i64 ((↑a0n : Int) + (↑a2n : Int))) - 0 -
                                                                        Int.toNat (IntKind.wrap IntKind.i64 (a1 + (↑a2n : Int)))) *
                                                                    1)
                                                                  xs ∧
                                                                allSingle xs = true ∧
                                                                  pPut (plainCfg []) L
                                                                    (advP (advP a0p 0 a0c 1) (Int.toNat (IntKind.wrap IntKind.i64 (a1 + (↑a2n : Int)))) (a0c - 0) 1) xs
                                                                    fun (M : Heap) =>
                                                                    0 ≤ a1 ∧
                                                                      a1 ≤ (↑(Int.toNat (IntKind.wrap IntKind.i64 ((↑a0n : Int) + (↑a2n : Int))) - 0) : Int) ∧
                                                                        (↑(Int.toNat (IntKind.wrap IntKind.i64 ((↑a0n : Int) + (↑a2n : Int))) - 0) : Int) ≤ (↑(a0c - 0) : Int) ∧
                                                                          (↑(a0c - 0) : Int) ≤ (↑(a0c - 0) : Int) ∧
                                                                            ∃ (k : Nat),
                                                                              ∃ (xs : List Value),
                                                                                Sem.pure a2n = Sem.pure k ∧
                                                                                  (∀ (s : ByteArray), Value.slice a2p a2n a2c = Value.string s → 1 = 1) ∧
                                                                                    srcCells M (Value.slice a2p a2n a2c)
                                                                                        (min k
                                                                                            (Int.toNat (IntKind.wrap IntKind.i64 ((↑a0n : Int) + (↑a2n : Int))) - 0 - Int.toNat a1) *
                                                                                          1)
                                                                                        xs ∧
                                                                                      allSingle xs = true ∧
                                                                                        pPut (plainCfg []) M (advP (advP a0p 0 a0c 1) (Int.toNat a1) (a0c - 0) 1) xs
                                                                                          fun (M : Heap) =>
                                                                                          Lss (fun (x : Value) (x_1 : Nat → Option Obj) => Φ x x_1)
                                                                                            (Value.slice (advP a0p 0 a0c 1)
                                                                                              (Int.toNat (IntKind.wrap IntKind.i64 ((↑a0n : Int) + (↑a2n : Int))) - 0) (a0c - 0))
                                                                                            M)
                                      (0 ≤ (↑a0n : Int) ∧
                                        (↑a0n : Int) ≤ (↑(Int.toNat (IntKind.wrap IntKind.i64 ((↑a0n : Int) + (↑a2n : Int))) - 0) : Int) ∧
                                          (↑(Int.toNat (IntKind.wrap IntKind.i64 ((↑a0n : Int) + (↑a2n : Int))) - 0) : Int) ≤ (↑(a0c - 0) : Int) ∧
                                            (↑(a0c - 0) : Int) ≤ (↑(a0c - 0) : Int) ∧
                                              ∃ (k : Nat),
                                                ∃ (xs : List Value),
                                                  Sem.pure a2n = Sem.pure k ∧
                                                    (∀ (s : ByteArray), Value.slice a2p a2n a2c = Value.string s → 1 = 1) ∧
                                                      srcCells L (Value.slice a2p a2n a2c) (min k (Int.toNat (IntKind.wrap IntKind.i64 ((↑a0n : Int) + (↑a2n : Int))) - 0 - a0n) * 1)
                                                          xs ∧
                                                        allSingle xs = true ∧
                                                          pPut (plainCfg []) L (advP (advP a0p 0 a0c 1) a0n (a0c - 0) 1) xs fun (M : Heap) =>
                                                            0 ≤ a1 ∧
                                                              a1 ≤ (↑(Int.toNat (IntKind.wrap IntKind.i64 ((↑a0n : Int) + (↑a2n : Int))) - 0) : Int) ∧
                                                                (↑(Int.toNat (IntKind.wrap IntKind.i64 ((↑a0n : Int) + (↑a2n : Int))) - 0) : Int) ≤ (↑(a0c - 0) : Int) ∧
                                                                  (↑(a0c - 0) : Int) ≤ (↑(a0c - 0) : Int) ∧
                                                                    Tri P rv
                                                                      {
                                                                        toList :=
                                                                          [Value.slice (advP (advP a0p 0 a0c 1) (Int.toNat a1) (a0c - 0) 1)
                                                                              (Int.toNat (IntKind.wrap IntKind.i64 ((↑a0n : Int) + (↑a2n : Int))) - 0 - Int.toNat a1)
                                                                              (a0c - 0 - Int.toNat a1),
                                                                            Value.int IntKind.i64 (↑a2n : Int)] }
                                                                      M fun (v : Value) (M : Heap) =>
                                                                      v = Value.tuple { toList := [] } ∧
                                                                        Lss (fun (x : Value) (x_1 : Nat → Option Obj) => Φ x x_1)
                                                                          (Value.slice (advP a0p 0 a0c 1) (Int.toNat (IntKind.wrap IntKind.i64 ((↑a0n : Int) + (↑a2n : Int))) - 0)
                                                                            (a0c - 0))
                                                                          M))))

theorem outs_overlaps {P : Program} {ov : Nat} {fn : Func} {T R el : TypeId} {inf : TypeInfo} (hf : P.funcs[ov]? = some fn) (h1 : (fn.name == "runtime.NumGoroutine") = false) (h2 : fn.body.isNone = true) (h3 : Extern.findNext fn = none)
    (h4 : Extern.find fn = some (Extern.SlicesOverlaps.overlaps #[T, T] #[R])) (hu : P.underlying T = some (.slice el)) (hi : P.info? el = some inf) {L : Heap} {b b2 off off2 l c l2 c2 : Nat} {ca cb : Array Value} {Ea Eb : TypeId}
    (hb : L b = some (.cells ca Ea (0, 0))) (hb2 : L b2 = some (.cells cb Eb (0, 0))) (hne : b2 ≠ b) (hpos : ca.size ≠ 0) :
    Outs P ov #[.slice (some ⟨b2, off2, none⟩) l2 c2, .slice (some ⟨b, off, none⟩) l c] L (.bool false) := by
  intro w hw
  have k1 := hw _ _ hb
  have k2 := hw _ _ hb2
  unfold wl at k1 k2
  rw [run_callFunc_extern hf h1 h2 h3 h4, Lib.run_overlaps_apart w T R el hu inf.size (fun w => by simp [sizeOf, typeInfo, hi]) ⟨b2, off2, none⟩ ⟨b, off, none⟩ l2 c2 l c hne Eb Ea cb.size ca.size (by simp [World.shape?, k2]) (by simp [World.shape?, k1]) hpos
    (by simp [World.frozen?, k2]) (by simp [World.frozen?, k2])]
  rfl
theorem advP_lt {b o l m : Nat} (h : l < m) : advP (some ⟨b, o, none⟩) l m 1 = some ⟨b, o + l, none⟩ := by
  unfold advP
  rw [if_neg (by omega)]
  show some (Addr.add ⟨b, o, none⟩ (l * 1)) = _
  rw [add_spot rfl, Nat.mul_one]
theorem wrap_nat {k : Nat} (h : k < 9223372036854775808) : IntKind.wrap .i64 (k : Int) = k := by
  rw [IntKind.wrap_i64]; omega
theorem allSingle_tail {v : Value} {l : List Value} (h : allSingle (v :: l) = true) : allSingle l = true := by
  unfold allSingle at h
  split at h
  · cases h
  · cases h
  · exact h
theorem allSingle_drop : ∀ (i : Nat) {l : List Value}, allSingle l = true → allSingle (l.drop i) = true
  | 0, _, h => h
  | _ + 1, [], _ => rfl
  | i + 1, _ :: l, h => allSingle_drop i (allSingle_tail h)
theorem setAt_split {cs vs ws : List Value} {off : Nat} (h : off + vs.length + ws.length ≤ cs.length) : setAt (setAt cs (off + vs.length) ws) off vs = setAt cs off (vs ++ ws) := by
  refine List.ext_getElem? fun j => ?_
  rw [setAt_get _ _ _ _ (by rw [setAt_length]; omega), setAt_get _ _ _ _ h, setAt_get _ _ _ _ (by rw [List.length_append]; omega), List.length_append]
  by_cases h1 : j < off
  · rw [if_pos h1, if_pos h1, if_pos (by omega)]
  · by_cases h2 : j < off + vs.length
    · rw [if_neg h1, if_neg h1, if_pos h2, if_pos (by omega), List.getElem?_append_left (by omega)]
    · by_cases h3 : j < off + vs.length + ws.length
      · rw [if_neg h1, if_neg h1, if_neg h2, if_neg h2, if_pos h3, if_pos (by omega), List.getElem?_append_right (by omega)]
        congr 1; omega
      · rw [if_neg h1, if_neg h1, if_neg h2, if_neg h2, if_neg h3, if_neg (by omega)]
theorem setAt_append : ∀ (vs ws cs : List Value) (off : Nat), setAt cs off (vs ++ ws) = setAt (setAt cs off vs) (off + vs.length) ws
  | [], ws, cs, off => rfl
  | v :: vs, ws, cs, off => by
    show setAt (cs.set off v) (off + 1) (vs ++ ws) = setAt (setAt (cs.set off v) (off + 1) vs) (off + (vs.length + 1)) ws
    rw [setAt_append vs ws _ (off + 1)]
    congr 1; omega
theorem setAt_mid {A B C ws : List Value} (h : ws.length = B.length) : setAt (A ++ B ++ C) A.length ws = A ++ ws ++ C := by
  refine List.ext_getElem? fun j => ?_
  rw [setAt_get _ _ _ _ (by simp; omega)]
  by_cases h1 : j < A.length
  · rw [if_pos h1, List.append_assoc, List.append_assoc, List.getElem?_append_left h1, List.getElem?_append_left h1]
  · by_cases h2 : j < A.length + ws.length
    · rw [if_neg h1, if_pos h2, List.append_assoc, List.getElem?_append_right (by omega), List.getElem?_append_left (by omega)]
    · rw [if_neg h1, if_neg h2, List.getElem?_append_right (by simp; omega), List.getElem?_append_right (by simp; omega)]
      simp [h]
theorem insVC_mid {P : Program} {el ov rv : Nat} {inf : TypeInfo} {z : Value} (hi : P.info? el = some inf) (hz : inf.zero = some z) (hs1 : inf.size = 1) (hzc : z.cells.size = 1) {L : Heap} {Φ : Value → Heap → Prop}
    {b off n c i b2 off2 m c2 : Nat} {ca cv : Array Value} {E Ev : TypeId} {old vs : List Value}
    (hb : L b = some (.cells ca E (0, 0))) (hb2 : L b2 = some (.cells cv Ev (0, 0))) (hne : b2 ≠ b) (hin : i < n) (hnc : n ≤ c) (hm : 0 < m) (hbig : n + m ≤ 1000000000)
    (ho : old.length = n) (hold : ∀ j v, old[j]? = some v → ca[off + j]? = some v) (hv : vs.length = m) (hvs : ∀ j v, vs[j]? = some v → cv[off2 + j]? = some v)
    (h1o : allSingle old = true) (h1v : allSingle vs = true)
    (hov : ∀ l c l2 c2' off off2, Outs P ov #[.slice (some ⟨b2, off2, none⟩) l2 c2', .slice (some ⟨b, off, none⟩) l c] L (.bool false))
    (hfit : n + m ≤ c → off + n + m ≤ ca.size ∧ Φ (.slice (some ⟨b, off, none⟩) (n + m) c) (upd L b (.cells (setAt ca.toList (off + i) (vs ++ old.drop i)).toArray E (0, 0))))
    (hgrow : c < n + m → Builtin.nextslicecap (n + m) c * inf.bytes ≤ 281474976710656 ∧ (n + m) * inf.bytes ≤ 281474976710656 ∧ ∀ b' c', L b' = none → n + m ≤ c' →
      Φ (.slice (some ⟨b', 0, none⟩) (n + m) c') (upd L b' (.cells (old.take i ++ vs ++ old.drop i ++ (Builtin.zeroCells z.cells (c' - (n + m))).toList).toArray el (0, 0)))) :
    InsVC P el ov rv (some ⟨b, off, none⟩) n c (i : Int) (some ⟨b2, off2, none⟩) m c2 L Φ := by
  have w1 : IntKind.wrap .i64 ((n : Int) + (m : Int)) = ((n + m : Nat) : Int) := by rw [← Int.natCast_add]; exact wrap_nat (by omega)
  have w2 : IntKind.wrap .i64 ((i : Int) + (m : Int)) = ((i + m : Nat) : Int) := by rw [← Int.natCast_add]; exact wrap_nat (by omega)
  have w3 : IntKind.wrap .i64 (((n + m : Nat) : Int) - (i : Int)) = ((n + m - i : Nat) : Int) := by
    have : ((n + m : Nat) : Int) - (i : Int) = ((n + m - i : Nat) : Int) := by omega
    rw [this]; exact wrap_nat (by omega)
  unfold InsVC
  refine ⟨by omega, by omega, by omega, by omega, pIf_mk (fun h => ?_) fun _ => pIf_mk (fun h => ?_) fun _ => pIf_mk (fun h => ?_) fun h => ?_⟩
  · simp at h; omega
  · simp at h; omega
  · rw [w1] at h
    simp only [decide_eq_true_eq] at h
    obtain ⟨g1, g2, g3⟩ := hgrow (by omega)
    refine ⟨by omega, by omega, by omega, by omega, ?_⟩
    rw [w1, w3, w2]
    unfold pAppendZ
    simp only [hi, hz, Int.toNat_natCast, Nat.sub_zero, Nat.add_zero, hs1, Nat.mul_one]
    have e1 : i + (n + m - i) = n + m := by omega
    simp only [e1, advP_lt (show 0 < c by omega), Nat.add_zero]
    refine ⟨by omega, by omega, by omega, g1, Nat.le_trans (Nat.mul_le_mul_right _ (by omega)) g2, by omega, old.take i, ?_, fun b' c' hb' hc' => ?_⟩
    · unfold srcCells
      refine ⟨by rw [List.length_take]; omega, .inr ⟨rfl, ca, E, (0, 0), hb, fun j v hj => hold j v ?_⟩⟩
      rw [List.getElem?_take] at hj
      split at hj
      · exact hj
      · cases hj
    · have hbb : b ≠ b' := fun e => by subst e; rw [hb] at hb'; cases hb'
      have hbb2 : b2 ≠ b' := fun e => by subst e; rw [hb2] at hb'; cases hb'
      obtain ⟨X, hX⟩ : ∃ X, X = old.take i ++ (Builtin.zeroCells z.cells (n + m - i)).toList ++ (Builtin.zeroCells z.cells (c' - (n + m))).toList := ⟨_, rfl⟩
      have hXl : X.length = c' := by
        rw [hX]; simp [Builtin.zeroCells, hzc, ho]; omega
      rw [← hX]
      refine ⟨by omega, by omega, by omega, by omega, m, vs, rfl, fun _ _ => by simp, ?_, h1v, ?_⟩
      · unfold srcCells
        refine ⟨by omega, .inr ⟨rfl, cv, Ev, (0, 0), by rw [upd_other _ _ hbb2]; exact hb2, hvs⟩⟩
      · rw [advP_lt (show i < c' by omega)]
        unfold pPut
        refine .inr ⟨rfl, X.toArray, el, upd_same _ _ _, by simp; omega, ?_⟩
        show (_ ∧ _)
        refine ⟨by omega, by omega, by omega, by omega, by omega, by omega, by omega, by omega, n - i, old.drop i, rfl, fun _ _ => by simp, ?_, allSingle_drop i h1o, ?_⟩
        · rw [advP_lt (show i < c by omega)]
          unfold srcCells
          refine ⟨by rw [List.length_drop]; omega, .inr ⟨rfl, ca, E, (0, 0), by rw [upd_other _ _ hbb, upd_other _ _ hbb]; exact hb, fun j v hj => ?_⟩⟩
          rw [List.getElem?_drop] at hj
          have := hold _ v hj
          rw [← Nat.add_assoc] at this
          exact this
        · rw [advP_lt (show i + m < c' by omega)]
          refine .inr ⟨rfl, _, el, upd_same _ _ _, by simp [setAt_length]; omega, ?_⟩
          show Lss _ _ _
          refine ⟨_, ?_, g3 b' c' hb' hc'⟩
          intro x o hx
          rw [← hx]
          unfold upd
          simp only
          cases Nat.beq x b' with
          | false => rfl
          | true =>
            show some (Obj.cells _ _ _) = some (Obj.cells _ _ _)
            congr 2
            rw [← Array.toList_inj]
            simp only [Nat.zero_add]
            have l1 : (old.take i).length = i := by rw [List.length_take]; omega
            have q := setAt_append vs (old.drop i) X i
            rw [hv] at q
            rw [← q, hX]
            have q2 := setAt_mid (A := old.take i) (B := (Builtin.zeroCells z.cells (n + m - i)).toList) (C := (Builtin.zeroCells z.cells (c' - (n + m))).toList) (ws := vs ++ old.drop i) (by simp [Builtin.zeroCells, hzc, hv, ho]; omega)
            rw [l1] at q2
            rw [q2]
            simp
  · rw [w1] at h
    simp only [decide_eq_false_iff_not] at h
    obtain ⟨f1, f2⟩ := hfit (by omega)
    rw [w1, w2]
    simp only [Int.toNat_natCast, Nat.sub_zero, advP_lt (show 0 < c by omega), Nat.add_zero, advP_lt (show i + m < c by omega), advP_lt (show i < c by omega)]
    refine ⟨by omega, by omega, by omega, by omega, by omega, by omega, by omega, by omega, false, hov _ _ _ _ _ _, ?_⟩
    show (_ ∧ _)
    refine ⟨by omega, by omega, by omega, by omega, by omega, by omega, by omega, by omega, n + m - i, old.drop i, rfl, fun _ _ => by simp, ?_, allSingle_drop i h1o, ?_⟩
    · unfold srcCells
      refine ⟨by rw [List.length_drop]; omega, .inr ⟨rfl, ca, E, (0, 0), hb, fun j v hj => ?_⟩⟩
      rw [List.getElem?_drop] at hj
      have := hold _ v hj
      rw [← Nat.add_assoc] at this
      exact this
    · unfold pPut
      refine .inr ⟨rfl, ca, E, hb, by simp; omega, ?_⟩
      show (_ ∧ _)
      refine ⟨by omega, by omega, by omega, by omega, m, vs, rfl, fun _ _ => by simp, ?_, h1v, ?_⟩
      · unfold srcCells
        refine ⟨by omega, .inr ⟨rfl, cv, Ev, (0, 0), by rw [upd_other _ _ hne]; exact hb2, hvs⟩⟩
      · refine .inr ⟨rfl, _, E, upd_same _ _ _, by simp [setAt_length]; omega, ?_⟩
        show Lss _ _ _
        refine ⟨_, ?_, f2⟩
        intro x o hx
        rw [← hx]
        unfold upd
        simp only
        cases Nat.beq x b with
        | false => rfl
        | true =>
          show some (Obj.cells _ _ _) = some (Obj.cells _ _ _)
          congr 2
          rw [← Array.toList_inj]
          have q := setAt_split (cs := ca.toList) (vs := vs) (ws := old.drop i) (off := off + i) (by rw [List.length_drop]; simp; omega)
          rw [hv, Nat.add_assoc] at q
          simpa using q
end Go.Proofs.YtmcaejnofmbilaaGreat.Tri
