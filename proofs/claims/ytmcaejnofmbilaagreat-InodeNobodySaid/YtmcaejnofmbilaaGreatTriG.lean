/- append, copy, bytes and texts; the operation's clause; the region; the function. -/
import Derived.Test.YtmcaejnofmbilaaGreatTriF
import Derived.Lib.AppendZerosOnto
namespace Go.Proofs.YtmcaejnofmbilaaGreat.Tri
set_option linter.all false
open Go.RowKit

section
variable {P : Program} {R : Rl} {cfg : Cfg} {n m : Nat} {ds : Dq} {ro : Option Nat} {β : Nat → Nat} {e : Env} {bx : Bx} {L : Heap} {a : Act} {w : World} {o : Oper} {K : SV → Bx → Heap → Prop} {next : Act → World → Prop} {Q : Exit → Act → World → Prop}

/-- The elements that a slice or a text bears, as cells: k elements of so many cells. -/
def srcCells (L : Heap) (x : Value) (cnt : Nat) (xs : List Value) : Prop :=
  match x with
  | .slice p _ _ => match p with
    | some ad => xs.length = cnt ∧ (xs = [] ∨ Holds L ad xs)
    | none => xs = []
  | .string s => xs = (s.extract 0 cnt).data.toList.map fun b => .int .u8 b.toNat
  | _ => False
theorem run_srcCells {x : Value} {size k : Nat} {xs : List Value} (hs : Sub L (wl w)) (h : srcCells L x (k * size) xs) (hst : ∀ s, x = .string s → size = 1) :
    (Builtin.firstCells size k x).run P w = .ok xs.toArray w := by
  unfold srcCells at h
  split at h
  · rename_i p l c
    cases p with
    | none => simp only at h; subst h; simp [Builtin.firstCells]
    | some ad =>
      obtain ⟨h1, h2⟩ := h
      have hc : ∀ j v, xs[j]? = some v → w.cell? (ad.add j) = some v := by
        rcases h2 with rfl | h2
        · intro j v hj; simp at hj
        · exact h2.cell hs
      have := run_loadCells_list (P := P) (w := w) ad xs hc
      simp only [Builtin.firstCells]
      rw [← h1]; exact this
  · rename_i s
    have := hst s rfl
    subst this
    simp only [Nat.mul_one] at h
    subst h
    simp only [Builtin.firstCells, Sem.run_pure]
    congr 1
    rw [← Array.toList_inj]; simp
  · exact h.elim

/-- append(s, x...): it fits, or a new row is made. -/
def pAppend (P : Program) (cfg : Cfg) (L : Heap) (el : TypeId) (p : Option Addr) (len cap : Nat) (x : Value) (K : Option Addr → Nat → Nat → Heap → Prop) : Prop :=
  match P.info? el with
  | some i => match i.zero with
    | some z => ∃ k xs, Builtin.lenOf x = pure k ∧ (∀ s, x = .string s → i.size = 1) ∧ srcCells L x (k * i.size) xs ∧ allSingle xs = true ∧
        (len + k ≤ cap → match p with
          | none => K none (len + k) cap L
          | some ad => (xs = [] ∧ K (some ad) (len + k) cap L) ∨
              pStore L (ad.add (len * i.size)) xs fun M => andRo cfg ad.block (K (some ad) (len + k) cap M)) ∧
        (cap < len + k → Builtin.nextslicecap (len + k) cap * i.bytes ≤ 281474976710656 ∧ len + k ≤ 9223372036854775807 ∧ ∃ old, srcCells L (.slice p len cap) (len * i.size) old ∧
          ∀ b c, L b = none → len + k ≤ c → K (some ⟨b, 0, none⟩) (len + k) c (upd L b (.cells (old ++ xs ++ (Builtin.zeroCells z.cells (c - (len + k))).toList).toArray el (0, 0))))
    | none => False
  | none => False
/-- append(s, make(S, k)...) where it does not fit: a new row. -/
def pAppendZ (P : Program) (L : Heap) (el : TypeId) (p : Option Addr) (len cap : Nat) (k : Int) (K : Option Addr → Nat → Nat → Heap → Prop) : Prop :=
  match P.info? el with
  | some i => match i.zero with
    | some z => 0 < k ∧ (cap : Int) < (len : Int) + k ∧ 0 < i.size ∧ Builtin.nextslicecap (len + k.toNat) cap * i.bytes ≤ 281474976710656 ∧ k.toNat * i.bytes ≤ 281474976710656 ∧ (len : Int) + k ≤ 9223372036854775807 ∧
        ∃ old, srcCells L (.slice p len cap) (len * i.size) old ∧
          ∀ b c, L b = none → len + k.toNat ≤ c → K (some ⟨b, 0, none⟩) (len + k.toNat) c (upd L b (.cells (old ++ (Builtin.zeroCells z.cells k.toNat).toList ++ (Builtin.zeroCells z.cells (c - (len + k.toNat))).toList).toArray el (0, 0)))
    | none => False
  | none => False
def svcAppend (P : Program) (cfg : Cfg) (e : Env) (bx : Bx) (L : Heap) (Ts : List TypeId) (args : List Operand) (K : SV → Bx → Heap → Prop) : Prop :=
  match Ts, evvs e args with
  | [T, T2], some [.slice p len cap, x] => match P.underlying T, P.underlying T2 with
    | some (.slice el), some (.slice _) => pAppend P cfg L el p len cap x fun q l c M => K (.v (.slice q l c)) bx M
    | some (.slice el), some .string => pAppend P cfg L el p len cap x fun q l c M => K (.v (.slice q l c)) bx M
    | some (.slice el), some (.int _) => match x with
      | .int _ k => pAppendZ P L el p len cap k fun q l c M => K (.v (.slice q l c)) bx M
      | _ => False
    | _, _ => False
  | _, _ => False
theorem add_block (ad : Addr) (k : Nat) : (ad.add k).block = ad.block := by unfold Addr.add; split <;> rfl
set_option maxHeartbeats 1000000 in
theorem pAppend_sound (hR : RK cfg R) (h : St R n ds β e bx L a w) {c : Call} (ho : o.op = .call c) (hcal : c.callee = .builtin .append) {T T2 el : TypeId} {p : Option Addr} {len cap : Nat} {x : Value}
    (e1 : c.argTypes = #[T, T2]) (e2 : c.args.map a.eval = #[.slice p len cap, x]) (hu : P.underlying T = some (.slice el)) (hu2 : (∃ e2, P.underlying T2 = some (.slice e2)) ∨ P.underlying T2 = some .string)
    (hs : pAppend P cfg L el p len cap x fun q l c M => K (.v (.slice q l c)) bx M) (hg : Goes R n ds e a o K next) : o.wpIn (WF ro) m P a w next Q := by
  have hd : ∀ c, o.op ≠ .defer c := fun c hc => by rw [ho] at hc; cases hc
  obtain ⟨cs, hr⟩ := resolve_builtin (P := P) (w := w) .append c o.type hcal a.eval
  unfold pAppend at hs
  split at hs
  · rename_i i hi
    split at hs
    · rename_i z hz
      obtain ⟨k, xs, hlen, hstr, hxs, hsing, hfit, hgrow⟩ := hs
      have hfc := run_srcCells (P := P) (h.sub hR) hxs hstr
      have hlr : (Builtin.lenOf x).run P w = .ok k w := by rw [hlen]; rfl
      by_cases hle : len + k ≤ cap
      · have hk := hfit hle
        have run1 : ∀ w', (match p with
            | some ad => (storeCells (ad.add (len * i.size)) xs).run P w
            | none => Result.ok () w) = .ok () w' → (Builtin.append_ #[T, T2] o.type #[.slice p len cap, x]).run P w = .ok (.slice p (len + k) cap) w' := by
          intro w' hst
          rcases hu2 with ⟨e2, hu2⟩ | hu2 <;> cases p <;> simp only at hst <;>
            simp [Builtin.append_, run_underlying hu, run_underlying hu2, sizeOf, typeInfo, hi, hlr, hle, hfc, hst]
          · cases hst; rfl
          · cases hst; rfl
        cases p with
        | none =>
          exact goes_value h hg hd (by simp [execOp, ho, hr, invoke, builtin, e1, e2, run1 w rfl]) hk
        | some ad =>
          rcases hk with ⟨rfl, hk⟩ | hk
          · exact goes_value h hg hd (by simp [execOp, ho, hr, invoke, builtin, e1, e2, run1 w (by simp [storeCells])]) hk
          · obtain ⟨h1, c0, E, h2, h3, h4⟩ := hk
            obtain ⟨hro, h4⟩ := andRo_elim h4
            have hb := h.sub hR _ _ h2
            unfold wl at hb
            have hst := run_storeCells (P := P) (b := (ad.add (len * i.size)).block) (off := (ad.add (len * i.size)).off) (E := E) xs c0.toList w 0 (by simpa using hb) (by simpa using h3) hsing
            have hae : (⟨(ad.add (len * i.size)).block, (ad.add (len * i.size)).off, none⟩ : Addr) = ad.add (len * i.size) := by
              generalize ad.add (len * i.size) = z at h1 ⊢
              cases z; simp_all
            rw [hae] at hst
            refine wpIn_value hd (v := .slice (some ad) (len + k) cap) (by simp [execOp, ho, hr, invoke, builtin, e1, e2, run1 _ hst]; rfl) ?_
            refine hg (.v _) bx _ β _ h4 (h.step hR (Ext.set (h.sub hR) h2 _ (by simp)) fun r hr' x2 y2 hx2 => ?_)
            rw [upd_other]
            · exact hR.rok h.inv hr' x2 y2 hx2
            · intro ex; subst ex; have h9 := hro r hr'; rw [add_block, h9] at hx2; cases hx2
      · obtain ⟨hb1, hb2, old, hold, hk⟩ := hgrow (by omega)
        have hmax : IntKind.i64.max = 9223372036854775807 := by decide
        have hn2 : ¬ (281474976710656 < Builtin.nextslicecap (len + k) cap * i.bytes) := by omega
        obtain ⟨cc, hcc⟩ : ∃ cc, (Question.appendCap (len + k) cap el).cut (w.tape w.drawn (Question.appendCap (len + k) cap el)) = cc := ⟨_, rfl⟩
        have hcge : len + k ≤ cc := by rw [← hcc]; simp [Question.cut]
        have hwd : St R n ds β e bx L a w.drew := h.drew hR (w.drawn + 1)
        have hfc2 : (Builtin.firstCells i.size k x).run P w.drew = .ok xs.toArray w.drew := run_srcCells (P := P) (hwd.sub hR) hxs hstr
        have hfo2 : (Builtin.firstCells i.size len (.slice p len cap)).run P w.drew = .ok old.toArray w.drew := run_srcCells (P := P) (hwd.sub hR) hold (fun s hs => by cases hs)
        have hn3 : ¬ (9223372036854775807 < (len : Int) + (k : Int)) := by omega
        have run2 : (Builtin.append_ #[T, T2] o.type #[.slice p len cap, x]).run P w =
            .ok (.slice (some ⟨w.heap.size, 0, none⟩) (len + k) cc) (w.drew.alloc (.cells (old ++ xs ++ (Builtin.zeroCells z.cells (cc - (len + k))).toList).toArray el (0, 0))) := by
          rcases hu2 with ⟨e2, hu2⟩ | hu2 <;>
            simp [Builtin.append_, run_underlying hu, run_underlying hu2, sizeOf, hlr, hle, hmax, hn3, hn2, Question.forced, hcc, hfc2, hfo2, zeroValue, typeInfo, hi, hz, newRow] <;>
            (congr 2; rw [← Array.toList_inj]; simp)
        refine wpIn_value hd (v := .slice (some ⟨w.heap.size, 0, none⟩) (len + k) cc) (w' := w.drew.alloc (.cells (old ++ xs ++ (Builtin.zeroCells z.cells (cc - (len + k))).toList).toArray el (0, 0))) (by simp only [execOp, ho, Sem.run_bind, hr, Result.andThen_ok, invoke, builtin, e1, e2, run2, Sem.run_pure]) ?_
        exact hg (.v _) bx _ β _ (hk w.heap.size cc (Ext.allocNone (h.sub hR)) hcge) (hwd.alloc hR _)
    · exact hs.elim
  · exact hs.elim
theorem pAppendZ_sound (hR : RK cfg R) (h : St R n ds β e bx L a w) {c : Call} (ho : o.op = .call c) (hcal : c.callee = .builtin .append) {T T2 el : TypeId} {p : Option Addr} {len cap : Nat} {kq kn : IntKind} {k : Int}
    (e1 : c.argTypes = #[T, T2]) (e2 : c.args.map a.eval = #[.slice p len cap, .int kq k]) (hu : P.underlying T = some (.slice el)) (hu2 : P.underlying T2 = some (.int kn))
    (hs : pAppendZ P L el p len cap k fun q l c M => K (.v (.slice q l c)) bx M) (hg : Goes R n ds e a o K next) : o.wpIn (WF ro) m P a w next Q := by
  have hd : ∀ c, o.op ≠ .defer c := fun c hc => by rw [ho] at hc; cases hc
  obtain ⟨cs, hr⟩ := resolve_builtin (P := P) (w := w) .append c o.type hcal a.eval
  unfold pAppendZ at hs
  split at hs
  · rename_i i hi
    split at hs
    · rename_i z hz
      obtain ⟨h1, h2, h3, h4, h5, h6, old, hold, hk⟩ := hs
      obtain ⟨kk, rfl⟩ : ∃ kk : Nat, k = kk := ⟨k.toNat, by omega⟩
      simp only [Int.toNat_natCast] at *
      have hwd : St R n ds β e bx L a w.drew := h.drew hR (w.drawn + 1)
      have hfo2 : (Builtin.firstCells i.size len (.slice p len cap)).run P w.drew = .ok old.toArray w.drew := run_srcCells (P := P) (hwd.sub hR) hold (fun s hs => by cases hs)
      have run := Lib.run_append_grow_zeros w T T2 o.type el i z kq kn hu hu2 hi hz p len cap old hfo2 kk (by omega) h3 (by omega) (by omega) h5 h4
      have hcge : len + kk ≤ grownCap w (len + kk) cap el := by simp [grownCap, Question.cut]
      refine wpIn_value hd (v := .slice (some ⟨w.heap.size, 0, none⟩) (len + kk) (grownCap w (len + kk) cap el)) (w' := w.drew.alloc (.cells (old.toArray ++ Builtin.zeroCells z.cells kk ++ Builtin.zeroCells z.cells (grownCap w (len + kk) cap el - (len + kk))) el)) (by simp only [execOp, ho, Sem.run_bind, hr, Result.andThen_ok, invoke, builtin, e1, e2, run, Sem.run_pure]) ?_
      have he : (old ++ (Builtin.zeroCells z.cells kk).toList ++ (Builtin.zeroCells z.cells (grownCap w (len + kk) cap el - (len + kk))).toList).toArray = old.toArray ++ Builtin.zeroCells z.cells kk ++ Builtin.zeroCells z.cells (grownCap w (len + kk) cap el - (len + kk)) := by
        rw [← Array.toList_inj]; simp
      have hk' := hk w.heap.size (grownCap w (len + kk) cap el) (Ext.allocNone (h.sub hR)) hcge
      rw [he] at hk'
      exact hg (.v _) bx _ β _ hk' (hwd.alloc hR _)
    · exact hs.elim
  · exact hs.elim
theorem svcAppend_sound (hR : RK cfg R) (h : St R n ds β e bx L a w) {c : Call} (ho : o.op = .call c) (hcal : c.callee = .builtin .append) (hs : svcAppend P cfg e bx L c.argTypes.toList c.args.toList K) (hg : Goes R n ds e a o K next) : o.wpIn (WF ro) m P a w next Q := by
  unfold svcAppend at hs
  split at hs
  · rename_i T T2 p len cap x hT hv
    have e1 : c.argTypes = #[T, T2] := by rw [← Array.toList_inj]; simpa using hT
    have e2 : c.args.map a.eval = #[.slice p len cap, x] := args_eval h hv
    split at hs
    · rename_i el e3 hu hu2
      exact pAppend_sound hR h ho hcal e1 e2 hu (.inl ⟨e3, hu2⟩) hs hg
    · rename_i el hu hu2
      exact pAppend_sound hR h ho hcal e1 e2 hu (.inr hu2) hs hg
    · rename_i el kn hu hu2
      split at hs
      · exact pAppendZ_sound hR h ho hcal e1 e2 hu hu2 hs hg
      · exact hs.elim
    · exact hs.elim
  · exact hs.elim

/-! copy, clear -/
theorem storeCells_nil {ad : Addr} : (storeCells ad []).run P w = .ok () w := by simp [storeCells]
def pPut (cfg : Cfg) (L : Heap) (p : Option Addr) (xs : List Value) (K : Heap → Prop) : Prop :=
  match p with
  | none => K L
  | some ad => (xs = [] ∧ K L) ∨ pStore L ad xs fun M => andRo cfg ad.block (K M)
theorem pPut_run (hR : RK cfg R) (h : St R n ds β e bx L a w) {p : Option Addr} {xs : List Value} (hsing : allSingle xs = true) {K : Heap → Prop} (hp : pPut cfg L p xs K) :
    ∃ M w', (match p with
      | some ad => storeCells ad xs
      | none => pure ()).run P w = .ok () w' ∧ K M ∧ St R n ds β e bx M a w' := by
  unfold pPut at hp
  cases p with
  | none => exact ⟨L, w, rfl, hp, h⟩
  | some ad =>
    rcases hp with ⟨rfl, hp⟩ | hp
    · exact ⟨L, w, storeCells_nil, hp, h⟩
    · obtain ⟨h1, c0, E, h2, h3, h4⟩ := hp
      obtain ⟨hro, h4⟩ := andRo_elim h4
      have hb := h.sub hR _ _ h2
      unfold wl at hb
      have hst := run_storeCells (P := P) (b := ad.block) (off := ad.off) (E := E) xs c0.toList w 0 (by simpa using hb) (by simpa using h3) hsing
      have hae : (⟨ad.block, ad.off, none⟩ : Addr) = ad := by cases ad; simp_all
      rw [hae] at hst
      refine ⟨_, _, hst, h4, h.step hR (Ext.set (h.sub hR) h2 _ (by simp)) fun r hr' x2 y2 hx2 => ?_⟩
      rw [upd_other]
      · exact hR.rok h.inv hr' x2 y2 hx2
      · intro ex; subst ex; have h9 := hro r hr'; rw [h9] at hx2; cases hx2
def svcCopy (P : Program) (cfg : Cfg) (e : Env) (bx : Bx) (L : Heap) (Ts : List TypeId) (args : List Operand) (K : SV → Bx → Heap → Prop) : Prop :=
  match Ts, evvs e args with
  | T :: _, some [.slice p dl _, x] => match P.underlying T with
    | some (.slice el) => match P.info? el with
      | some i => ∃ k xs, Builtin.lenOf x = pure k ∧ (∀ s, x = .string s → i.size = 1) ∧ srcCells L x (Nat.min k dl * i.size) xs ∧ allSingle xs = true ∧
          pPut cfg L p xs fun M => K (.v (.int .i64 ((Nat.min k dl : Nat) : Int))) bx M
      | none => False
    | _ => False
  | _, _ => False
theorem svcCopy_sound (hR : RK cfg R) (h : St R n ds β e bx L a w) {c : Call} (ho : o.op = .call c) (hcal : c.callee = .builtin .copy) (hs : svcCopy P cfg e bx L c.argTypes.toList c.args.toList K) (hg : Goes R n ds e a o K next) : o.wpIn (WF ro) m P a w next Q := by
  have hd : ∀ c, o.op ≠ .defer c := fun c hc => by rw [ho] at hc; cases hc
  unfold svcCopy at hs
  split at hs
  · rename_i T Ts p dl cap x hT hv
    have e1 : c.argTypes = (T :: Ts).toArray := by rw [← Array.toList_inj]; simpa using hT
    have e2 : c.args.map a.eval = #[.slice p dl cap, x] := args_eval h hv
    split at hs
    · rename_i el hu
      split at hs
      · rename_i i hi
        obtain ⟨k, xs, hlen, hstr, hxs, hsing, hp⟩ := hs
        obtain ⟨cs, hr⟩ := resolve_builtin (P := P) (w := w) .copy c o.type hcal a.eval
        have hfc := run_srcCells (P := P) (h.sub hR) hxs hstr
        have hlr : (Builtin.lenOf x).run P w = .ok k w := by rw [hlen]; rfl
        obtain ⟨M, w', hst, hk, hS⟩ := pPut_run (P := P) hR h hsing hp
        have run1 : (Builtin.copy_ (T :: Ts).toArray o.type #[.slice p dl cap, x]).run P w = .ok (.int .i64 ((Nat.min k dl : Nat) : Int)) w' := by
          unfold Builtin.copy_
          cases p with
          | none => cases hst; simp [run_underlying hu, sizeOf, typeInfo, hi, hlr, hfc, goInt]
          | some ad => simp only at hst; simp [run_underlying hu, sizeOf, typeInfo, hi, hlr, hfc, hst, goInt]
        exact wpIn_value hd (v := .int .i64 ((Nat.min k dl : Nat) : Int)) (w' := w') (by simp only [execOp, ho, Sem.run_bind, hr, Result.andThen_ok, invoke, builtin, e1, e2, run1, Sem.run_pure]) (hg (.v _) bx M β w' hk hS)
      · exact hs.elim
    · exact hs.elim
  · exact hs.elim
def svcClear (P : Program) (cfg : Cfg) (e : Env) (bx : Bx) (L : Heap) (Ts : List TypeId) (args : List Operand) (K : SV → Bx → Heap → Prop) : Prop :=
  match Ts, evvs e args with
  | T :: _, some [.slice p len _] => match P.underlying T with
    | some (.slice el) => match P.info? el with
      | some i => match i.zero with
        | some z => allSingle (Builtin.zeroCells z.cells len).toList = true ∧ pPut cfg L p (Builtin.zeroCells z.cells len).toList fun M => K (.v (.tuple #[])) bx M
        | none => False
      | none => False
    | _ => False
  | _, _ => False
theorem zeroCells_none (z : Array Value) : Builtin.zeroCells z 0 = #[] := by simp [Builtin.zeroCells]
theorem svcClear_sound (hR : RK cfg R) (h : St R n ds β e bx L a w) {c : Call} (ho : o.op = .call c) (hcal : c.callee = .builtin .clear) (hs : svcClear P cfg e bx L c.argTypes.toList c.args.toList K) (hg : Goes R n ds e a o K next) : o.wpIn (WF ro) m P a w next Q := by
  have hd : ∀ c, o.op ≠ .defer c := fun c hc => by rw [ho] at hc; cases hc
  unfold svcClear at hs
  split at hs
  · rename_i T Ts p len cap hT hv
    have e1 : c.argTypes = (T :: Ts).toArray := by rw [← Array.toList_inj]; simpa using hT
    have e2 : c.args.map a.eval = #[.slice p len cap] := args_eval h hv
    split at hs
    · rename_i el hu
      split at hs
      · rename_i i hi
        split at hs
        · rename_i z hz
          obtain ⟨hsing, hp⟩ := hs
          obtain ⟨cs, hr⟩ := resolve_builtin (P := P) (w := w) .clear c o.type hcal a.eval
          obtain ⟨M, w', hst, hk, hS⟩ := pPut_run (P := P) hR h hsing hp
          have run1 : (Builtin.clear_ (T :: Ts).toArray o.type #[.slice p len cap]).run P w = .ok (.tuple #[]) w' := by
            unfold Builtin.clear_
            cases p with
            | none => cases hst; simp [run_underlying hu]
            | some ad =>
              simp only at hst
              cases len with
              | zero =>
                rw [zeroCells_none] at hst
                have : (storeCells ad []).run P w = .ok () w := storeCells_nil
                simp only at hst
                rw [this] at hst; cases hst
                simp [run_underlying hu]
              | succ len => simp [run_underlying hu, zeroValue, typeInfo, hi, hz, hst]
          exact wpIn_value hd (v := .tuple #[]) (w' := w') (by simp only [execOp, ho, Sem.run_bind, hr, Result.andThen_ok, invoke, builtin, e1, e2, run1, Sem.run_pure]) (hg (.v _) bx M β w' hk hS)
        · exact hs.elim
      · exact hs.elim
    · exact hs.elim
  · exact hs.elim

/-! texts and bytes -/
def byteCells (s : ByteArray) : List Value := s.data.toList.map fun b => .int .u8 b.toNat
def svcConvert (P : Program) (e : Env) (bx : Bx) (L : Heap) (S D : TypeId) (x : Operand) (K : SV → Bx → Heap → Prop) : Prop :=
  match evv e x with
  | some (.string s) => match P.underlying S, P.underlying D with
    | some .string, some (.slice el) => match P.underlying el with
      | some (.int .u8) => ∀ b c M, L b = none → s.size ≤ c → M = upd L b (.cells (byteCells s ++ List.replicate (c - s.size) (Value.int .u8 0)).toArray el (c, c + 1)) → K (.v (.slice (some ⟨b, 0, none⟩) s.size c)) bx M
      | _ => False
    | _, _ => False
  | some (.slice p len _) => match P.underlying S, P.underlying D with
    | some (.slice el), some .string => match P.underlying el with
      | some (.int .u8) => match p with
        | none => K (.v (.string .empty)) bx L
        | some ad => ∃ s : ByteArray, s.size = len ∧ (len = 0 ∨ Holds L ad (byteCells s)) ∧ K (.v (.string s)) bx L
      | _ => False
    | _, _ => False
  | _ => False
theorem foldl_push (l : List UInt8) : ∀ s : ByteArray, (l.map fun b => (b.toNat : Int)).foldl (fun r n => r.push (UInt8.ofNat n.toNat)) s = ⟨s.data ++ l.toArray⟩ := by
  induction l with
  | nil => intro s; cases s; simp
  | cons b l ih =>
    intro s
    simp only [List.map_cons, List.foldl_cons]
    rw [ih]
    cases s
    simp [ByteArray.push]
theorem svcConvert_sound (hR : RK cfg R) (h : St R n ds β e bx L a w) {S D : TypeId} {x : Operand} (ho : o.op = .convert S D x) (hs : svcConvert P e bx L S D x K) (hg : Goes R n ds e a o K next) : o.wpIn (WF ro) m P a w next Q := by
  have hd : ∀ c, o.op ≠ .defer c := fun c hc => by rw [ho] at hc; cases hc
  unfold svcConvert at hs
  split at hs
  · rename_i s hx
    split at hs
    · rename_i el hu hu2
      split at hs
      · rename_i hu3
        obtain ⟨cc, hcc⟩ : ∃ cc, (Question.appendCap s.size 0 el).cut (w.tape w.drawn (Question.appendCap s.size 0 el)) = cc := ⟨_, rfl⟩
        have hcge : s.size ≤ cc := by rw [← hcc]; simp [Question.cut]
        have hwd : St R n ds β e bx L a w.drew := h.drew hR (w.drawn + 1)
        have hsz : (byteCells s ++ List.replicate (cc - s.size) (Value.int .u8 0)).toArray.size = cc := by
          have : s.data.size = s.size := rfl
          simp [byteCells, this]; omega
        have run1 : (convert S D (.string s)).run P w = .ok (.slice (some ⟨w.heap.size, 0, none⟩) s.size cc) (w.drew.alloc (.cells (byteCells s ++ List.replicate (cc - s.size) (Value.int .u8 0)).toArray el (cc, cc + 1))) := by
          have hrow : (s.data.map fun b => Value.int .u8 (b.toNat : Int)) ++ Array.replicate (cc - s.size) (Value.int .u8 0) = (byteCells s ++ List.replicate (cc - s.size) (Value.int .u8 0)).toArray := by
            rw [← Array.toList_inj]; simp [byteCells]
          simp only [convert, run_underlying hu, run_underlying hu2, Sem.run_bind, Result.andThen_ok, run_underlying hu3, Conv.stringToBytes]
          simp only [choose, Sem.run, Question.forced, Bool.false_eq_true, if_false, hcc, Sem.run_bind, newRow, newObj, hrow, markStringish, shape, Result.andThen_ok, Sem.run_pure]
          obtain ⟨row, hrow'⟩ : ∃ row, row = (byteCells s ++ List.replicate (cc - s.size) (Value.int .u8 0)).toArray := ⟨_, rfl⟩
          rw [← hrow'] at hsz ⊢
          have hh : ({ heap := w.heap.push (.cells row el), tape := w.tape, drawn := w.drawn + 1, os := w.os, output := w.output } : World).shape? w.heap.size = some (el, cc) := by
            simp [World.shape?, hsz]
          rw [hh]
          have hfz : ({ heap := w.heap.push (.cells row el), tape := w.tape, drawn := w.drawn + 1, os := w.os, output := w.output } : World).freeze ⟨w.heap.size, cc, none⟩ 1 = w.drew.alloc (.cells row el (cc, cc + 1)) := by
            simp only [World.freeze, World.alloc, World.drew]
            simp only [Nat.one_ne_zero, if_false]
            congr 1
            apply Array.ext_getElem?
            intro i
            rw [Array.getElem?_modify]
            by_cases e9 : w.heap.size = i
            · subst e9; simp
            · rw [if_neg e9, Array.getElem?_push, Array.getElem?_push, if_neg (Ne.symm e9), if_neg (Ne.symm e9)]
          simp only [freeze, Sem.run, hfz, Result.andThen_ok]
        exact wpIn_value hd (by simp [execOp, ho, h.evv hx, run1]; rfl) (hg (.v _) bx _ β _ (hs w.heap.size cc _ (Ext.allocNone (h.sub hR)) hcge rfl) (hwd.alloc hR _))
      · exact hs.elim
    · exact hs.elim
  · rename_i p len cap hx
    split at hs
    · rename_i el hu hu2
      split at hs
      · rename_i hu3
        cases p with
        | none => exact goes_value h hg hd (by simp [execOp, ho, h.evv hx, convert, run_underlying hu, run_underlying hu2, run_underlying hu3, Conv.bytesToString]) hs
        | some ad =>
          obtain ⟨s, hsz, hh, hk⟩ := hs
          have hl : (loadCells ad len).run P w = .ok ((s.data.toList.map fun b => (b.toNat : Int)).map (Value.int .u8)).toArray w := by
            have e1 : (s.data.toList.map fun b => (b.toNat : Int)).map (Value.int .u8) = byteCells s := by simp [byteCells]
            rw [e1]
            have e2 : (byteCells s).length = len := by rw [← hsz]; simp [byteCells]
            rw [← e2]
            refine run_loadCells_list (P := P) (w := w) ad (byteCells s) ?_
            rcases hh with h0 | hh
            · intro i v hi
              have : byteCells s = [] := List.eq_nil_of_length_eq_zero (by omega)
              rw [this] at hi; simp at hi
            · exact hh.cell (h.sub hR)
          have hb := run_bytesToString (P := P) w ad len cap (s.data.toList.map fun b => (b.toNat : Int)) hl
          rw [foldl_push] at hb
          have e3 : (⟨ByteArray.empty.data ++ s.data.toList.toArray⟩ : ByteArray) = s := by
            cases s; simp
          rw [e3] at hb
          exact goes_value h hg hd (by simp [execOp, ho, h.evv hx, convert, run_underlying hu, run_underlying hu2, run_underlying hu3, hb]) hk
      · exact hs.elim
    · exact hs.elim
  · exact hs.elim

/-! a range over a text -/
def svcRangeS (P : Program) (e : Env) (bx : Bx) (L : Heap) (T : TypeId) (x : Operand) (K : SV → Bx → Heap → Prop) : Prop :=
  match P.underlying T, evv e x with
  | some .string, some (.string s) => ∀ b M, L b = none → M = upd L b (.stringIter s 0) → K (.v (.pointer (some ⟨b, 0, none⟩))) bx M
  | _, _ => False
theorem svcRangeS_sound (hR : RK cfg R) (h : St R n ds β e bx L a w) {T : TypeId} {x : Operand} (ho : o.op = .range T x) (hs : svcRangeS P e bx L T x K) (hg : Goes R n ds e a o K next) : o.wpIn (WF ro) m P a w next Q := by
  have hd : ∀ c, o.op ≠ .defer c := fun c hc => by rw [ho] at hc; cases hc
  unfold svcRangeS at hs
  split at hs
  · rename_i s hu hx
    exact wpIn_value hd (by simp [execOp, ho, h.evv hx, Instr.range, run_underlying hu]; rfl) (hg (.v _) bx _ β _ (hs _ _ (Ext.allocNone (h.sub hR)) rfl) (h.alloc hR _))
  · exact hs.elim
def svcNextS (cfg : Cfg) (e : Env) (bx : Bx) (L : Heap) (it : Operand) (K : SV → Bx → Heap → Prop) : Prop :=
  match evv e it with
  | some (.pointer (some ⟨b, 0, _⟩)) => ∃ s pos, L b = some (.stringIter s pos) ∧ pIf (Nat.blt pos s.size)
      (andRo cfg b (K (.v (.tuple #[.bool true, .int .i64 pos, .int .i32 (Utf8.decode s pos).1])) bx (upd L b (.stringIter s (pos + (Utf8.decode s pos).2)))))
      (K (.v (.tuple #[.bool false])) bx L)
  | _ => False
theorem svcNextS_sound (hR : RK cfg R) (h : St R n ds β e bx L a w) {it : Operand} (ho : o.op = .next it true) (hs : svcNextS cfg e bx L it K) (hg : Goes R n ds e a o K next) : o.wpIn (WF ro) m P a w next Q := by
  have hd : ∀ c, o.op ≠ .defer c := fun c hc => by rw [ho] at hc; cases hc
  unfold svcNextS at hs
  split at hs
  · rename_i b sp hx
    obtain ⟨s, pos, hb, hs⟩ := hs
    have hw := h.sub hR _ _ hb
    unfold wl at hw
    have hgo : (getObj b).run P w = .ok (.stringIter s pos) w := by simp [getObj, Sem.run, hw]
    cases hlt : Nat.blt pos s.size with
    | true =>
      rw [hlt] at hs
      obtain ⟨hro, hk⟩ := andRo_elim hs
      have hlt' : pos < s.size := by simpa [Nat.blt_eq] using hlt
      have hset : (setObj b (.stringIter s (pos + (Utf8.decode s pos).2))).run P w = .ok () (w.putObj b (.stringIter s (pos + (Utf8.decode s pos).2))) := by simp [setObj, Sem.run, hw, World.putObj]
      refine wpIn_value hd (v := .tuple #[.bool true, .int .i64 pos, .int .i32 (Utf8.decode s pos).1]) (w' := w.putObj b (.stringIter s (pos + (Utf8.decode s pos).2))) ?_ (hg (.v _) bx _ β _ hk (h.step hR (Ext.set (h.sub hR) hb _ rfl) fun r hr' x2 y2 hx2 => ?_))
      · simp [execOp, ho, h.evv hx, Instr.next, hgo, hlt', hset, goInt]
      · rw [upd_other]
        · exact hR.rok h.inv hr' x2 y2 hx2
        · intro ex; subst ex; have h9 := hro r hr'; rw [h9] at hx2; cases hx2
    | false =>
      rw [hlt] at hs
      have hlt' : ¬ pos < s.size := by
        intro h9
        have : Nat.blt pos s.size = true := by simpa [Nat.blt_eq] using h9
        rw [hlt] at this; cases this
      exact goes_value h hg hd (by simp [execOp, ho, h.evv hx, Instr.next, hgo, hlt']) hs
  · exact hs.elim
end
end Go.Proofs.YtmcaejnofmbilaaGreat.Tri
