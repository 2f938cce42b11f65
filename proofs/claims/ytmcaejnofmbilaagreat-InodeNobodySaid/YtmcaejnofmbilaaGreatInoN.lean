/- The law InodeNobody (layer 18, inode) returns true for every input, and the argument reads behind the call as it read before. No condition. -/
import Derived.Test.YtmcaejnofmbilaaGreatBaseZ
namespace Go.Proofs.YtmcaejnofmbilaaGreat.InoN
set_option linter.all false
open Go.ChangeShapes Go.WideShapes Go.ChangeAt Go.RowKit Go.Proofs.YtmcaejnofmbilaaGreat.Tri
open Go.ChangeMaps (open_string shut_string)
set_option linter.unusedVariables false
set_option maxRecDepth 1000000
theorem runs (a b c d e f g h : Int) (x y : Bool) : evCall Tryz.prog 4000 3 [.v (.agg #[.int .i64 a, .int .i64 b, .int .i64 c, .int .i64 d, .bool x, .int .i64 e, .bool y, .int .i64 f, .int .i64 g, .int .i64 h])] ⟨0, .leaf, []⟩ isTrueA = true := by kernel_rfl
theorem walk (a b c d e f g h : Int) (x y : Bool) (w : World) : Calls Tryz.prog 3 #[.agg #[.int .i64 a, .int .i64 b, .int .i64 c, .int .i64 d, .bool x, .int .i64 e, .bool y, .int .i64 f, .int .i64 g, .int .i64 h]] w fun e w' => e = .returned (.bool true) ∧ Below w.heap.size w w' := by
  refine (below_of_tri (run_sound BaseZ.extOk BaseZ.mixed (vs := [.agg #[.int .i64 a, .int .i64 b, .int .i64 c, .int .i64 d, .bool x, .int .i64 e, .bool y, .int .i64 f, .int .i64 g, .int .i64 h]]) rfl (runs a b c d e f g h x y)) w).mono ?_
  rintro e w' ⟨v, M, rfl, ⟨τ, A, x, _, hK, hx, _⟩, hb⟩
  exact ⟨by rw [isTrueA_eq hK hx], hb⟩
theorem laidOut : laidOutB Tryz.prog = true := by kernel_rfl
theorem own : ownKnob Tryz.prog.godebug = none := by kernel_rfl
theorem lifted (os : Os) (started : os.Started) (H : Type) (enc : TypeId × Value → H) :
    ReturnsInHanded {} Tryz.checked os 3 .any (Rows.inodeNobodySpec.pre6 enc Tryz.prog Tryz.f3 Rows.inodeNobodyRow.domain false) (Rows.inodeNobodySpec.post enc Tryz.prog Tryz.f3 false true false false) := by
  refine returnsInHanded_of_change_sized (C := Tryz.checked) own started (by kernel_rfl) Tryz.func3
    (ChangeSpec.witness6 (enc := enc) (C := Tryz.checked) false ⟨#[], #[.agg #[.int .i64 0, .int .i64 0, .int .i64 0, .int .i64 0, .bool false, .int .i64 0, .bool false, .int .i64 0, .int .i64 0, .int .i64 0]], []⟩ 8 (by kernel_rfl) (by kernel_rfl) (by kernel_rfl) (by kernel_rfl)) ?_
  intro W base args ds gs before hval0 hW hcnd hsz0 _
  have hval : ∀ (j : Nat) t v, Tryz.f3.params[j]? = some t → args[j]? = some v → Value.okWide Tryz.prog W .any base t v := hval0
  have hW' := hW
  obtain ⟨p, q, hA0, hV, rfl, hfz, hnd⟩ := hW
  have hA : DataW.TrodAll enc Tryz.prog W 0 (fun _ => true) true Tryz.f3.params.toList args.toList ds p := hA0
  rw [Tryz.params3] at hA hval
  obtain ⟨v0, vs0, d0, ds0, p0, q0, hargs, rfl, rfl, h0, r0⟩ := trodAll_cons hA
  obtain ⟨rfl, rfl, rfl⟩ := trodAll_nil r0
  obtain rfl : args = #[v0] := by cases args; simp_all
  obtain ⟨rfl, rfl⟩ := trodVars_none hV
  obtain ⟨cs, rfl, hcs⟩ := open_kps 8 Tryz.underlying25 (ks := [.int .i64, .int .i64, .int .i64, .int .i64, .bool, .int .i64, .bool, .int .i64, .int .i64, .int .i64]) (by kernel_rfl) (hval 0 _ v0 rfl rfl) h0
  have lt0 : ∀ x ∈ p0, x.block < W.heap.size := by obtain ⟨m, hm⟩ := h0; exact DataW.trod_lt m _ _ _ hm
  obtain ⟨_, _, rfl, ⟨a, rfl, _⟩, _, _, rfl, ⟨b, rfl, _⟩, _, _, rfl, ⟨c, rfl, _⟩, _, _, rfl, ⟨d, rfl, _⟩, _, _, rfl, ⟨x, rfl⟩, _, _, rfl, ⟨e, rfl, _⟩, _, _, rfl, ⟨y, rfl⟩, _, _, rfl, ⟨f, rfl, _⟩, _, _, rfl, ⟨g, rfl, _⟩, _, _, rfl, ⟨h, rfl, _⟩, rfl⟩ := hcs
  clear hA0 hval0 hsz0
  refine (walk a b c d e f g h x y W).mono fun e W' ⟨he, bel⟩ => ?_
  subst he
  exact ⟨_, rfl, _, _, _, [], _, [], hW', trodAll_mk1 (shut_bool (by kernel_rfl) _), (trodAll_cons_mk (Below.trod laidOut (by kernel_rfl) (of_decide_eq_true (by kernel_rfl)) h0 bel lt0) trodAll_mk0), rfl, bel.frame _, fun h => by cases h⟩
theorem over : Rows.inodeNobodyRow.holds Tryz.pinned (OpenSpec.ofChange Rows.inodeNobodySpec) :=
  OpenClaim.holds_of_wide 3 Tryz.f3 rfl rfl rfl rfl rfl rfl rfl ⟨rfl, rfl, rfl, rfl, rfl⟩ rfl rfl rfl rfl rfl (by kernel_rfl) Tryz.func3 (by kernel_rfl)
    (of_decide_eq_true (by kernel_rfl)) (by unfold Func.isWrapper; first | (rw [if_pos (by decide +kernel)]; kernel_rfl) | (rw [if_neg (by decide +kernel)]; exact ⟨rfl, rfl⟩))
    (fun os started H enc _ => lifted os started H enc)
theorem proved : Rows.InodeNobodySaid := over
#print axioms proved
end Go.Proofs.YtmcaejnofmbilaaGreat.InoN
