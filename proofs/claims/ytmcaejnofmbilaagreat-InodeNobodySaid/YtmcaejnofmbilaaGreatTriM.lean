/- What is asked of what follows may be more. -/
import Derived.Test.YtmcaejnofmbilaaGreatTriL
namespace Go.Proofs.YtmcaejnofmbilaaGreat.Tri
set_option linter.all false
open Go.RowKit
section
variable {P : Program} {cfg : Cfg} {e : Env} {bx : Bx} {L : Heap} {K K' : SV → Bx → Heap → Prop}
theorem tyEx_mono {f : Nat} {T : TypeId} {k k' : Value → Prop} (h : tyEx P f T k) (hk : ∀ v, k v → k' v) : tyEx P f T k' :=
  let ⟨_, h1, h2⟩ := tyEx_mov f T k h; h2 k' (hk _ h1)
theorem pStore_mono {ad : Addr} {vs : List Value} {k k' : Heap → Prop} (h : pStore L ad vs k) (hk : ∀ M, k M → k' M) : pStore L ad vs k' :=
  let ⟨h1, c, E, h2, h3, h4⟩ := h; ⟨h1, c, E, h2, h3, hk _ h4⟩
theorem andRo_mono {b : Nat} {A B : Prop} (h : andRo cfg b A) (hk : A → B) : andRo cfg b B := by
  unfold andRo at h ⊢
  split at h
  · exact hk h
  · exact ⟨h.1, hk h.2⟩
theorem callRo_mono {M : Heap} {A B : Prop} (h : callRo cfg M A) (hk : A → B) : callRo cfg M B := by
  unfold callRo at h ⊢
  split at h
  · exact hk h
  · exact ⟨h.1, hk h.2⟩
theorem pIf_mono {t : Bool} {A B A' B' : Prop} (h : pIf t A B) (h1 : A → A') (h2 : B → B') : pIf t A' B' := by
  cases t
  · exact h2 h
  · exact h1 h
theorem svcOp_mono {o : Oper} (hk : ∀ s bx M, K s bx M → K' s bx M) (h : svcOp P cfg e bx L o K) : svcOp P cfg e bx L o K' := by
  unfold svcOp at h ⊢
  split at h
  · exact hk _ _ _ h
  · split at h
    · unfold svcPick at h ⊢
      split at h
      · refine pIf_mono h (fun h => ?_) fun h => ?_ <;> (split at h; exact hk _ _ _ h; exact h.elim)
      · exact h.elim
    · unfold svcNil at h ⊢
      split at h
      · unfold pSome at h ⊢
        split at h
        · exact hk _ _ _ h
        · exact h.elim
      · exact h.elim
    · split at h
      · unfold svcAlloc at h ⊢
        split at h
        · split at h
          · split at h
            · exact hk _ _ _ h
            · exact h.elim
          · exact fun b M h1 h2 => hk _ _ _ (h b M h1 h2)
        · exact h.elim
      · exact h.elim
    · split at h
      · unfold svcAlloc at h ⊢
        split at h
        · split at h
          · split at h
            · exact hk _ _ _ h
            · exact h.elim
          · exact fun b M h1 h2 => hk _ _ _ (h b M h1 h2)
        · exact h.elim
      · exact h.elim
    · unfold svcLoad at h ⊢
      split at h
      · split at h
        · split at h
          · exact hk _ _ _ h
          · exact h.elim
        · exact h.elim
      · refine tyEx_mono h fun v hv => ?_
        split at hv
        · exact ⟨hv.1, hk _ _ _ hv.2⟩
        · exact hv.elim
      · exact h.elim
    · unfold svcStore at h ⊢
      split at h
      · split at h
        · split at h
          · split at h
            · split at h
              · exact hk _ _ _ h
              · exact h.elim
            · exact h.elim
          · exact pStore_mono h fun M hM => andRo_mono hM (hk _ _ _)
          · exact h.elim
        · exact h.elim
      · exact h.elim
    · unfold svcBin at h ⊢
      split at h
      · split at h <;> first
          | exact h.elim
          | exact ⟨h.1, hk _ _ _ h.2⟩
          | (split at h
             · exact ⟨h.1, hk _ _ _ h.2⟩
             · exact h.elim)
      · split at h
        · exact ⟨h.1, hk _ _ _ h.2⟩
        · exact h.elim
      · split at h
        · split at h
          · split at h
            · exact h.elim
            · obtain ⟨r, h1, h2, h3⟩ := h
              refine ⟨r, h1, h2, ?_⟩
              split at h3
              · exact hk _ _ _ h3
              · exact hk _ _ _ h3
              · exact h3.elim
          · exact h.elim
        · exact h.elim
      · split at h
        · split at h
          · split at h
            · exact hk _ _ _ h
            · exact hk _ _ _ h
            · exact h.elim
          · exact h.elim
        · exact h.elim
      · exact h.elim
    · unfold svcIndex at h ⊢
      split at h
      · split at h
        · exact ⟨h.1, let ⟨b, h1, h2⟩ := h.2; ⟨b, h1, hk _ _ _ h2⟩⟩
        · exact h.elim
      · exact h.elim
    · unfold svcIndexAddr at h ⊢
      split at h
      · split at h
        · refine ⟨h.1, h.2.1, ?_⟩
          have h3 := h.2.2
          unfold pSome at h3 ⊢
          split at h3
          · exact hk _ _ _ h3
          · exact h3.elim
        · exact h.elim
      · split at h
        · exact ⟨h.1, h.2.1, hk _ _ _ h.2.2⟩
        · split at h
          · exact ⟨h.1, h.2.1, hk _ _ _ h.2.2⟩
          · exact h.elim
        · exact h.elim
      · exact h.elim
    · unfold svcSlice at h ⊢
      split at h
      · split at h
        · split at h
          · exact ⟨h.1, h.2.1, h.2.2.1, hk _ _ _ h.2.2.2⟩
          · exact h.elim
        · exact h.elim
      · split at h
        · split at h
          · exact ⟨h.1, h.2.1, h.2.2.1, h.2.2.2.1, hk _ _ _ h.2.2.2.2⟩
          · exact h.elim
        · exact h.elim
      · split at h
        · split at h
          · exact ⟨h.1, h.2.1, h.2.2.1, h.2.2.2.1, hk _ _ _ h.2.2.2.2⟩
          · exact h.elim
        · exact h.elim
      · exact h.elim
    · unfold svcBuildSlice at h ⊢
      split at h
      · split at h
        · exact fun b M h1 h2 => hk _ _ _ (h b M h1 h2)
        · exact h.elim
      · exact h.elim
    · unfold svcMakeSlice at h ⊢
      split at h
      · split at h
        · split at h
          · exact ⟨h.1, h.2.1, h.2.2.1, h.2.2.2.1, fun b M h1 h2 => hk _ _ _ (h.2.2.2.2 b M h1 h2)⟩
          · exact h.elim
        · exact h.elim
      · exact h.elim
    · split at h
      · unfold svcCall at h ⊢
        split at h
        · split at h
          · exact Tri.mono h fun v M hp => tyEx_mono hp fun v' ⟨h1, h2⟩ => ⟨h1, callRo_mono h2 (hk _ _ _)⟩
          · exact tyEx_mono h fun v ⟨h1, h2⟩ => ⟨h1, hk _ _ _ h2⟩
        · exact let ⟨r, h1, h2, h3⟩ := h; ⟨r, h1, h2, h3.mono fun v M hp => tyEx_mono hp fun v' ⟨h1, h2⟩ => ⟨h1, callRo_mono h2 (hk _ _ _)⟩⟩
        · exact h.elim
      · unfold svcAppend at h ⊢
        have mono : ∀ {el : TypeId} {p : Option Addr} {len cap : Nat} {x : Value}, (pAppend P cfg L el p len cap x fun q l c M => K (.v (.slice q l c)) bx M) → pAppend P cfg L el p len cap x fun q l c M => K' (.v (.slice q l c)) bx M := by
          intro el p len cap x h
          unfold pAppend at h ⊢
          split at h
          · split at h
            · obtain ⟨k, xs, h1, h2, h3, h4, h5, h6⟩ := h
              refine ⟨k, xs, h1, h2, h3, h4, fun hle => ?_, fun hlt => ?_⟩
              · have h7 := h5 hle
                cases p with
                | none => exact hk _ _ _ h7
                | some ad => exact h7.imp (fun h8 => ⟨h8.1, hk _ _ _ h8.2⟩) fun h8 => pStore_mono h8 fun M hM => andRo_mono hM (hk _ _ _)
              · obtain ⟨h7, h8, old, h9, h10⟩ := h6 hlt
                exact ⟨h7, h8, old, h9, fun b c q1 q2 => hk _ _ _ (h10 b c q1 q2)⟩
            · exact h.elim
          · exact h.elim
        split at h
        · split at h
          · exact mono h
          · exact mono h
          · split at h
            · unfold pAppendZ at h ⊢
              split at h
              · split at h
                · obtain ⟨h1, h2, h3, h4, h5, h6, old, h7, h8⟩ := h
                  exact ⟨h1, h2, h3, h4, h5, h6, old, h7, fun b c q1 q2 => hk _ _ _ (h8 b c q1 q2)⟩
                · exact h.elim
              · exact h.elim
            · exact h.elim
          · exact h.elim
        · exact h.elim
      · unfold svcCopy at h ⊢
        split at h
        · split at h
          · split at h
            · obtain ⟨k, xs, h1, h2, h3, h4, h5⟩ := h
              refine ⟨k, xs, h1, h2, h3, h4, ?_⟩
              unfold pPut at h5 ⊢
              split at h5
              · exact hk _ _ _ h5
              · exact h5.imp (fun h8 => ⟨h8.1, hk _ _ _ h8.2⟩) fun h8 => pStore_mono h8 fun M hM => andRo_mono hM (hk _ _ _)
            · exact h.elim
          · exact h.elim
        · exact h.elim
      · unfold svcClear at h ⊢
        split at h
        · split at h
          · split at h
            · split at h
              · refine ⟨h.1, ?_⟩
                have h5 := h.2
                unfold pPut at h5 ⊢
                split at h5
                · exact hk _ _ _ h5
                · exact h5.imp (fun h8 => ⟨h8.1, hk _ _ _ h8.2⟩) fun h8 => pStore_mono h8 fun M hM => andRo_mono hM (hk _ _ _)
              · exact h.elim
            · exact h.elim
          · exact h.elim
        · exact h.elim
      · exact h.elim
    · unfold svcConvert at h ⊢
      split at h
      · split at h
        · split at h
          · exact fun b c M h1 h2 h3 => hk _ _ _ (h b c M h1 h2 h3)
          · exact h.elim
        · exact h.elim
      · split at h
        · split at h
          · split at h
            · exact hk _ _ _ h
            · exact let ⟨s, h1, h2, h3⟩ := h; ⟨s, h1, h2, hk _ _ _ h3⟩
          · exact h.elim
        · exact h.elim
      · exact h.elim
    · unfold svcRangeS at h ⊢
      split at h
      · exact fun b M h1 h2 => hk _ _ _ (h b M h1 h2)
      · exact h.elim
    · unfold svcNextS at h ⊢
      split at h
      · obtain ⟨s, pos, h1, h2⟩ := h
        exact ⟨s, pos, h1, pIf_mono h2 (fun h => andRo_mono h (hk _ _ _)) (hk _ _ _)⟩
      · exact h.elim
    · exact h.elim
end
end Go.Proofs.YtmcaejnofmbilaaGreat.Tri
