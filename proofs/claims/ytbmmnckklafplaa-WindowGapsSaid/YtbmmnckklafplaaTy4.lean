/- The reference's Feed; All. -/
import Derived.Test.YtbmmnckklafplaaTy3
set_option linter.unusedVariables false
set_option linter.unusedSimpArgs false
set_option linter.unusedSectionVars false
set_option maxRecDepth 20000
namespace Go.Proofs.Ytbmmnckklafplaa
open Go.GAM

theorem nw_mono (S s : List UInt8) : nw S.length ≤ nw (S ++ s).length := by unfold nw; rw [List.length_append]; exact Nat.div_le_div_right (by omega)
theorem nw_le' (n : Nat) : nw n ≤ n := by unfold nw; omega

section
variable [XR]

theorem RFeed_p0 {h0 : AHeap} {wid : Nat} {k d : Int} {T : List UInt8} {dn ix : Nat} {Q : AV → AHeap → Prop} (hw : wid < h0.length) (hT : T.length ≤ 100000000) (hix : ix ≤ 1000000000) (hdn : dn ≤ nw T.length)
    (hk : ∀ v h', Upd (· = wid) h0 h' → RecAt h' wid [.i .i64 k, .i .i64 d, .i .i64 (nw T.length), .i .i64 (ix + (nw T.length - dn) : Nat), .s T] → Arr 4 h' v (encs (outsL k d T dn ix (nw T.length - dn))) (nw T.length - dn) → (∀ i, SlAt v i → h0.length ≤ i) → Q v h') :
    ∀ m j v h, j + m = nw T.length - dn → Upd (· = wid) h0 h → RecAt h wid [.i .i64 k, .i .i64 d, .i .i64 (dn + j : Nat), .i .i64 (ix + j : Nat), .s T] → Arr 4 h v (encs (outsL k d T dn ix j)) j → (∀ i, SlAt v i → h0.length ≤ i) →
      G_ref40_Window_Feed.p0 Q (.p (some ⟨wid, 5, 0⟩)) v h := by
  have hnl := nw_le T.length
  have hnw : nw T.length = (T.length - 512) / 512 := rfl
  intro m
  induction m with
  | zero =>
    intro j v h hj U R A F
    have hjj : j = nw T.length - dn := by omega
    subst hjj
    refine G_ref40_Window_Feed.i0 ?_
    simp only [G_ref40_Window_Feed.t0, G_ref40_Window_Feed.j0]
    refine st_nil (st_fld (st_load R rfl rfl (st_asI64 ?_)))
    refine withI_is (wrap_i64 (by omega) (by omega)) ?_
    refine withI_is (wrap_i64 (by omega) (by omega)) ?_
    refine st_nil (st_fld (st_load R rfl rfl (st_asS ?_)))
    refine bif_f (by simp; omega) ?_
    have e : dn + (nw T.length - dn) = nw T.length := by omega
    rw [e] at R
    exact hk v h U R A F
  | succ m ih =>
    intro j v h hj U R A F
    have hl1 : (dn + j) * 512 + 1024 ≤ T.length := by omega
    refine G_ref40_Window_Feed.i0 ?_
    simp only [G_ref40_Window_Feed.t0, G_ref40_Window_Feed.j0]
    refine st_nil (st_fld (st_load R rfl rfl (st_asI64 ?_)))
    refine withI_is (wrap_i64 (by omega) (by omega)) ?_
    refine withI_is (wrap_i64 (by omega) (by omega)) ?_
    refine st_nil (st_fld (st_load R rfl rfl (st_asS ?_)))
    refine bif_t (by simp; omega) ?_
    refine st_nil (st_fld (st_load R rfl rfl (st_asS ?_)))
    refine st_nil (st_fld (st_load R rfl rfl (st_asI64 ?_)))
    refine withI_is (n := (((dn + j) * 512 : Nat) : Int)) (by rw [wrap_i64 (by omega) (by omega)]; omega) ?_
    refine st_nil (st_fld (st_load R rfl rfl (st_asI64 ?_)))
    refine withI_is (n := (((dn + j) * 512 : Nat) : Int)) (by rw [wrap_i64 (by omega) (by omega)]; omega) ?_
    refine withI_is (n := (((dn + j) * 512 + 1024 : Nat) : Int)) (by rw [wrap_i64 (by omega) (by omega)]; omega) ?_
    refine st_subs2 (by omega) hl1 ?_
    have hsub : (T.take ((dn + j) * 512 + 1024)).drop ((dn + j) * 512) = (T.drop ((dn + j) * 512)).take 1024 := by rw [List.drop_take, Nat.add_sub_cancel_left]
    rw [hsub]
    refine Rbuffer_c R (by omega) (by omega) fun h1 U1 R1 => ?_
    have A1 := A.upd U1 fun i hi e => by have := F i hi; omega
    refine st_load R1 rfl rfl (st_asI64 ⟨rfl, ?_⟩)
    refine st_load R1 rfl rfl (st_asI64 ⟨rfl, ?_⟩)
    refine st_load R1 rfl rfl (st_asS ⟨rfl, ?_⟩)
    refine st_build (cs := encB (k, d, ((ix + j : Nat) : Int), (T.drop ((dn + j) * 512)).take 1024)) rfl rfl fun y h2 hl2 U2 Y2 F2 => ?_
    have R2 := R1.upd U2 (fun h => h)
    have A2 := A1.upd U2 (fun _ _ h => h)
    refine st_load R2 rfl rfl (st_asI64 ⟨rfl, ?_⟩)
    refine st_load R2 rfl rfl (st_asI64 ⟨rfl, ?_⟩)
    refine st_load R2 rfl rfl (st_asS ⟨rfl, ?_⟩)
    refine A2.append (by decide) (fun K hK => Y2.news hK) rfl rfl (by omega) (by omega) fun v' h3 U3 A3 F3 => ?_
    have R3 := R2.upd U3 fun h => by have := F _ h; omega
    refine st_load R3 rfl rfl (st_asI64 ⟨rfl, ?_⟩)
    refine st_load R3 rfl rfl (st_asI64 ⟨rfl, ?_⟩)
    refine st_load R3 rfl rfl (st_asS ⟨rfl, ?_⟩)
    refine st_nil (st_fld (st_load R3 rfl rfl (st_asI64 ?_)))
    refine withI_is (n := ((dn + (j + 1) : Nat) : Int)) (by rw [wrap_i64 (by omega) (by omega)]; omega) ?_
    refine st_nil (st_fld ?_)
    have hnew : ∀ i, SlAt v' i → h0.length ≤ i := fun i hi => by
      rcases F3 i hi with h | h
      · exact F i h
      · have := U.1; have := U1.1; omega
    refine st_store R3 rfl (by simp) rfl rfl rfl fun h4 hl4 U4 R4 => ?_
    refine ih (j + 1) v' h4 (by omega) ((((U.trans U1 fun _ _ e => e).trans U2 fun _ _ h => h.elim).trans U3 fun i hi h => absurd (F i h) (by omega)).trans U4 fun _ _ e => e) R4 ?_ hnew
    rw [outsL_succ, encs_app]
    exact A3.upd U4 fun i hi e => by have := hnew i hi; omega

theorem RFeed_c {h : AHeap} {wid : Nat} {k d : Int} {ix : Nat} {S s : List UInt8} {Q : AV → AHeap → Prop} (R : RecAt h wid [.i .i64 k, .i .i64 d, .i .i64 (nw S.length), .i .i64 ix, .s S]) (hix : ix ≤ 1000000000) (hS : S.length + s.length ≤ 100000000)
    (hk : ∀ v h', Upd (· = wid) h h' → RecAt h' wid [.i .i64 k, .i .i64 d, .i .i64 (nw (S ++ s).length), .i .i64 (ix + (nw (S ++ s).length - nw S.length) : Nat), .s (S ++ s)] →
      Arr 4 h' v (encs (outsL k d (S ++ s) (nw S.length) ix (nw (S ++ s).length - nw S.length))) (nw (S ++ s).length - nw S.length) → (∀ i, SlAt v i → h.length ≤ i) → Q v h') :
    C G_ref40_Window_Feed.id [.p (some ⟨wid, 5, 0⟩), .s s] h Q := by
  have hw := R.lt
  refine G_ref40_Window_Feed.call ?_
  simp only [G_ref40_Window_Feed.t, G_ref40_Window_Feed.j0]
  refine st_nil (st_fld (st_load R rfl rfl (st_asS ?_)))
  refine ⟨by omega, ?_⟩
  refine st_nil (st_fld ?_)
  refine st_store R rfl (by simp) rfl rfl rfl fun h1 hl1 U1 R1 => ?_
  exact RFeed_p0 hw (by simp; omega) hix (nw_mono S s) (fun v h' U R A F => .inl (hk v h' U R A F)) (nw (S ++ s).length - nw S.length) 0 _ h1 (by omega) U1 R1 (Arr.nil _ _) fun _ h => h.elim
end

def allL (k d : Int) (s : List UInt8) : List Bf := outsL k d s 0 0 (nw s.length) ++ gapL k d (nw s.length) (nw s.length) (s.drop (nw s.length * 512))

theorem gapL_len (k d : Int) (ix dn : Nat) (l : List UInt8) : (gapL k d ix dn l).length ≤ 1 := by unfold gapL; split <;> simp

theorem All_c {h : AHeap} {k d : Int} {s : List UInt8} {Q : AV → AHeap → Prop} (hs : s.length ≤ 1000000)
    (hk : ∀ v h', Upd (fun _ => False) h h' → Arr 4 h' v (encs (allL k d s)) (allL k d s).length → (∀ i, SlAt v i → h.length ≤ i) → Q v h') : C G_window_All.id [.i .i64 k, .i .i64 d, .s s] h Q := by
  have hn := nw_le' s.length
  refine G_window_All.call ?_
  simp only [G_window_All.t]
  refine New_c fun h1 hl1 U1 R1 => ?_
  have W1 : WIN (fun _ => False) h1 h.length k d 0 (nw ([] : List UInt8).length) (([] : List UInt8).drop (nw ([] : List UInt8).length * 512)) := ⟨_, R1, .inl ⟨rfl, rfl, rfl⟩, fun _ h => h.elim⟩
  refine Feed_c W1 (by omega) (by simp; omega) fun v4 h2 U2 W2 A2 F2 => ?_
  simp only [List.nil_append, List.length_nil, show nw 0 = 0 from rfl, Nat.zero_add, Nat.sub_zero] at W2 A2
  refine Close_c W2 (by omega) (by rw [List.length_drop]; omega) fun v7 h3 U3 R3 A3 F3 => ?_
  have A23 := A2.upd U3 fun i hi e => by have := F2 i hi; omega
  have hg := gapL_len k d (nw s.length) (nw s.length) (s.drop (nw s.length * 512))
  refine A23.append (by decide) (fun K hK => A3.rd.news hK) (encs_len _) (encs_ok _) (by omega) (by omega) fun v' h4 U4 A4 F4 => .inl (hk v' h4 ?_ ?_ fun i hi => ?_)
  · exact ((U1.trans U2 fun i hi e => by omega).trans U3 fun i hi e => by omega).trans U4 fun i hi h => absurd (F2 i h) (by omega)
  · have : allL k d s = outsL k d s 0 0 (nw s.length) ++ gapL k d (nw s.length) (nw s.length) (s.drop (nw s.length * 512)) := rfl
    rw [this, encs_app, List.length_append, outsL_len]
    exact A4
  · rcases F4 i hi with h | h
    · have := F2 i h; omega
    · have := U2.1; have := U3.1; omega

theorem RAll_c [XR] {h : AHeap} {k d : Int} {s : List UInt8} {Q : AV → AHeap → Prop} (hs : s.length ≤ 1000000)
    (hk : ∀ v h', Upd (fun _ => False) h h' → Arr 4 h' v (encs (allL k d s)) (allL k d s).length → (∀ i, SlAt v i → h.length ≤ i) → Q v h') : C G_ref40_All.id [.i .i64 k, .i .i64 d, .s s] h Q := by
  have hn := nw_le' s.length
  refine G_ref40_All.call ?_
  simp only [G_ref40_All.t]
  refine RNew_c fun h1 hl1 U1 R1 => ?_
  refine RFeed_c (ix := 0) (S := []) R1 (by omega) (by simp; omega) fun v4 h2 U2 R2 A2 F2 => ?_
  simp only [List.nil_append, List.length_nil, show nw 0 = 0 from rfl, Nat.zero_add, Nat.sub_zero] at R2 A2
  refine RClose_c R2 (by omega) (by omega) fun v7 h3 U3 R3 A3 F3 => ?_
  have A23 := A2.upd U3 fun i hi e => by have := F2 i hi; omega
  have hg := gapL_len k d (nw s.length) (nw s.length) (s.drop (nw s.length * 512))
  refine A23.append (by decide) (fun K hK => A3.rd.news hK) (encs_len _) (encs_ok _) (by omega) (by omega) fun v' h4 U4 A4 F4 => .inl (hk v' h4 ?_ ?_ fun i hi => ?_)
  · exact ((U1.trans U2 fun i hi e => by omega).trans U3 fun i hi e => by omega).trans U4 fun i hi h => absurd (F2 i h) (by omega)
  · have : allL k d s = outsL k d s 0 0 (nw s.length) ++ gapL k d (nw s.length) (nw s.length) (s.drop (nw s.length * 512)) := rfl
    rw [this, encs_app, List.length_append, outsL_len]
    exact A4
  · rcases F4 i hi with h | h
    · have := F2 i h; omega
    · have := U2.1; have := U3.1; omega

end Go.Proofs.Ytbmmnckklafplaa
