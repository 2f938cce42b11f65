/- What the seat's program has to say: how its calls into the library answer. -/
import Derived.Test.YtmcaejnofmbilaaGreatOwnA
import Derived.Test.YtmcaejnofmbilaaGreatRows
namespace Go.Proofs.YtmcaejnofmbilaaGreat.BaseZ
set_option linter.all false
open Go.RowKit Go.Proofs.YtmcaejnofmbilaaGreat.Tri
set_option linter.unusedVariables false
set_option maxRecDepth 1000000
theorem mixed : Tryz.prog.follows .mixedOrders = true := by kernel_rfl
theorem ins126 {p : Option Addr} {n c : Nat} {i : Int} {q : Option Addr} {m d : Nat} {L : Heap} {Φ : Value → Heap → Prop} (h : InsVC Tryz.prog 9 161 162 p n c i q m d L Φ) : Tri Tryz.prog 126 #[.slice p n c, .int .i64 i, .slice q m d] L Φ :=
  tri_of_text [] (kpOf []) mixed Tryz.func126 (by kernel_rfl) (A := InsVC Tryz.prog 9 161 162 p n c i q m d L Φ) (by kernel_rfl) h
theorem ins164 {p : Option Addr} {n c : Nat} {i : Int} {q : Option Addr} {m d : Nat} {L : Heap} {Φ : Value → Heap → Prop} (h : InsVC Tryz.prog 116 196 197 p n c i q m d L Φ) : Tri Tryz.prog 164 #[.slice p n c, .int .i64 i, .slice q m d] L Φ :=
  tri_of_text [] (kpOf []) mixed Tryz.func164 (by kernel_rfl) (A := InsVC Tryz.prog 116 196 197 p n c i q m d L Φ) (by kernel_rfl) h
theorem insOk : InsOk Tryz.prog := by
  intro g el h
  have hm := insTab_mem h
  have ht : insTab Tryz.prog = [(126, 9), (164, 116)] := by kernel_rfl
  rw [ht] at hm
  simp only [List.mem_cons, Prod.mk.injEq, List.not_mem_nil, or_false] at hm
  rcases hm with ⟨rfl, rfl⟩ | ⟨rfl, rfl⟩
  · obtain ⟨inf, hinf⟩ := Option.isSome_iff_exists.1 (show (Tryz.prog.info? 9).isSome = true by kernel_rfl)
    exact ⟨161, 162, ins126, fun h1 h2 h3 h4 => outs_overlaps (R := 4) Tryz.func161 (by kernel_rfl) (by kernel_rfl) (by kernel_rfl) (by kernel_rfl) (T := 84) (el := 9) (by kernel_rfl) hinf h1 h2 h3 h4⟩
  · obtain ⟨inf, hinf⟩ := Option.isSome_iff_exists.1 (show (Tryz.prog.info? 116).isSome = true by kernel_rfl)
    exact ⟨196, 197, ins164, fun h1 h2 h3 h4 => outs_overlaps (R := 4) Tryz.func196 (by kernel_rfl) (by kernel_rfl) (by kernel_rfl) (by kernel_rfl) (T := 126) (el := 116) (by kernel_rfl) hinf h1 h2 h3 h4⟩
theorem extOk : ExtOk Tryz.prog := extOk_of insOk (g0 := 223) (f0 := Tryz.f223) (by kernel_rfl) Tryz.func223 (by kernel_rfl) (by kernel_rfl) (by kernel_rfl) (by kernel_rfl)
end Go.Proofs.YtmcaejnofmbilaaGreat.BaseZ
