/- The law ExtentNobody (layer 16, extent) returns true for every input, and each argument reads behind the call as it read before. No condition. -/
import Derived.Test.YtmcaejnofmbilaaGreatOwnA
import Derived.Test.YtmcaejnofmbilaaGreatRows
namespace Go.Proofs.YtmcaejnofmbilaaGreat.ExtN
set_option linter.all false
open Go.ChangeShapes Go.WideShapes Go.ChangeAt Go.RowKit Go.Proofs.YtmcaejnofmbilaaGreat.Tri
open Go.ChangeMaps (open_string shut_string)
set_option linter.unusedVariables false
set_option maxRecDepth 1000000
theorem extOk : ExtOk Tryz.prog := extOk_of (g0 := 223) (f0 := Tryz.f223) (by kernel_rfl) Tryz.func223 (by kernel_rfl) (by kernel_rfl) (by kernel_rfl) (by kernel_rfl)
theorem mixed : Tryz.prog.follows .mixedOrders = true := by kernel_rfl
theorem runs (d n x y z : Int) : evCall Tryz.prog 4000 5 [.v (.int .i64 d), .v (.agg #[.int .i64 x, .int .i64 y, .int .i64 z]), .v (.int .i64 n)] ⟨0, .leaf, []⟩ isTrueA = true := by kernel_rfl
theorem walk (d x y z n : Int) (w : World) : Calls Tryz.prog 5 #[.int .i64 d, .agg #[.int .i64 x, .int .i64 y, .int .i64 z], .int .i64 n] w fun e w' => e = .returned (.bool true) ∧ Below w.heap.size w w' := by
  refine (below_of_tri (run_sound extOk mixed (vs := [.int .i64 d, .agg #[.int .i64 x, .int .i64 y, .int .i64 z], .int .i64 n]) rfl (runs d n x y z)) w).mono ?_
  rintro e w' ⟨v, M, rfl, ⟨τ, A, x, _, hK, hx, _⟩, hb⟩
  exact ⟨by rw [isTrueA_eq hK hx], hb⟩
theorem own : ownKnob Tryz.prog.godebug = none := by kernel_rfl
theorem lifted (os : Os) (started : os.Started) (H : Type) (enc : TypeId × Value → H) :
    ReturnsInHanded {} Tryz.checked os 5 .any (Rows.extentNobodySpec.pre6 enc Tryz.prog Tryz.f5 Rows.extentNobodyRow.domain false) (Rows.extentNobodySpec.post enc Tryz.prog Tryz.f5 false true false false) := by
  refine returnsInHanded_of_change_sized (C := Tryz.checked) own started (by kernel_rfl) Tryz.func5
    (ChangeSpec.witness6 (enc := enc) (C := Tryz.checked) false ⟨#[], #[.int .i64 0, .agg #[.int .i64 0, .int .i64 0, .int .i64 0], .int .i64 0], []⟩ 8 (by kernel_rfl) (by kernel_rfl) (by kernel_rfl) (by kernel_rfl)) ?_
  intro W base args ds gs before hval0 hW hcnd hsz0 _
  have hval : ∀ (j : Nat) t v, Tryz.f5.params[j]? = some t → args[j]? = some v → Value.okWide Tryz.prog W .any base t v := hval0
  have hW' := hW
  obtain ⟨p, q, hA0, hV, rfl, hfz, hnd⟩ := hW
  have hA : DataW.TrodAll enc Tryz.prog W 0 (fun _ => true) true Tryz.f5.params.toList args.toList ds p := hA0
  rw [Tryz.params5] at hA hval
  obtain ⟨v0, vs0, d0, ds0, p0, q0, hargs, rfl, rfl, h0, r0⟩ := trodAll_cons hA
  obtain ⟨v1, vs1, d1, ds1, p1, q1, rfl, rfl, rfl, h1, r1⟩ := trodAll_cons r0
  obtain ⟨v2, vs2, d2, ds2, p2, q2, rfl, rfl, rfl, h2, r2⟩ := trodAll_cons r1
  obtain ⟨rfl, rfl, rfl⟩ := trodAll_nil r2
  obtain rfl : args = #[v0, v1, v2] := by cases args; simp_all
  obtain ⟨rfl, rfl⟩ := trodVars_none hV
  obtain ⟨a0, rfl, rfl, rfl, y0⟩ := open_int Tryz.underlying3 (hval 0 _ v0 rfl rfl) h0
  obtain ⟨u0, u1, u2, e0, e1, e2, n, rfl, rfl, rfl, g0, g1, g2⟩ := Joins.open_agg3 Tryz.underlying65 (by kernel_rfl) (by kernel_rfl) (hval 1 _ v1 rfl rfl) h1
  obtain ⟨b0, hb0, rfl, z0⟩ := DataW.trod_int Tryz.underlying3 g0
  obtain ⟨b1, hb1, rfl, z1⟩ := DataW.trod_int Tryz.underlying3 g1
  obtain ⟨b2, hb2, rfl, z2⟩ := DataW.trod_int Tryz.underlying3 g2
  cases hb0; cases hb1; cases hb2
  obtain ⟨a2, rfl, rfl, rfl, y2⟩ := open_int Tryz.underlying3 (hval 2 _ v2 rfl rfl) h2
  clear hA0 hval0 hsz0
  refine (walk a0 b0 b1 b2 a2 W).mono fun e W' ⟨he, bel⟩ => ?_
  subst he
  exact ⟨_, rfl, _, _, _, [], _, [], hW', trodAll_mk1 (shut_bool (by kernel_rfl) _), (trodAll_cons_mk (shut_int Tryz.underlying3 y0) (trodAll_cons_mk (Joins.shut_agg3 Tryz.underlying65 (by kernel_rfl) (by kernel_rfl) (Joins.field_of_Trod (shut_int Tryz.underlying3 z0) rfl) (Joins.field_of_Trod (shut_int Tryz.underlying3 z1) rfl) (Joins.field_of_Trod (shut_int Tryz.underlying3 z2) rfl)) (trodAll_cons_mk (shut_int Tryz.underlying3 y2) trodAll_mk0))), rfl, bel.frame _, fun h => by cases h⟩
theorem over : Rows.extentNobodyRow.holds Tryz.pinned (OpenSpec.ofChange Rows.extentNobodySpec) :=
  OpenClaim.holds_of_wide 5 Tryz.f5 rfl rfl rfl rfl rfl rfl rfl ⟨rfl, rfl, rfl, rfl, rfl⟩ rfl rfl rfl rfl rfl (by kernel_rfl) Tryz.func5 (by kernel_rfl)
    (of_decide_eq_true (by kernel_rfl)) (by unfold Func.isWrapper; first | (rw [if_pos (by decide +kernel)]; kernel_rfl) | (rw [if_neg (by decide +kernel)]; exact ⟨rfl, rfl⟩))
    (fun os started H enc _ => lifted os started H enc)
theorem proved : Rows.ExtentNobodySaid := over
#print axioms proved
end Go.Proofs.YtmcaejnofmbilaaGreat.ExtN
