/- Feed, with its rounds, and All. -/
import Derived.Test.YtbmmnckklafplaaTy2
set_option linter.unusedVariables false
set_option linter.unusedSimpArgs false
set_option linter.unusedSectionVars false
namespace Go.Proofs.Ytbmmnckklafplaa
open Go.GAM

/-- m windows from window number dn on. -/
def outsL (k d : Int) (S : List UInt8) (dn ix m : Nat) : List Bf := (List.range m).map fun i => (k, d, ((ix + i : Nat) : Int), (S.drop ((dn + i) * 512)).take 1024)
theorem outsL_len (k d : Int) (S : List UInt8) (dn ix m : Nat) : (outsL k d S dn ix m).length = m := by simp [outsL]
theorem outsL_succ (k d : Int) (S : List UInt8) (dn ix m : Nat) : outsL k d S dn ix (m + 1) = outsL k d S dn ix m ++ [(k, d, ((ix + m : Nat) : Int), (S.drop ((dn + m) * 512)).take 1024)] := by
  simp [outsL, List.range_succ]

/-- The state in the rounds of Feed: j windows are out. -/
structure FInv (M : Nat → Prop) (h0 : AHeap) (wid pw oid : Nat) (k d : Int) (S : List UInt8) (dn ix cn j : Nat) (h : AHeap) : Prop where
  upd : Upd (· = wid) h0 h
  win : ∃ bv, RecAt h wid [.i .i64 k, .i .i64 d, .i .i64 (ix + j : Nat), .i .i64 (dn + cn : Nat), bv] ∧ Byt h bv (S.drop ((dn + cn) * 512)) ∧ ∀ i, SlAt bv i → i < oid ∧ i ≠ pw ∧ i ≠ wid ∧ ¬ M i
  pwr : RecAt h pw [.p (some ⟨wid, 5, 0⟩)]
  out : ∃ ov, RecAt h oid [ov] ∧ Arr 4 h ov (encs (outsL k d S dn ix j)) j ∧ ∀ i, SlAt ov i → oid < i

section
variable [XR]

theorem complete_p0 {M : Nat → Prop} {h0 : AHeap} {wid pw oid : Nat} {k d : Int} {S : List UInt8} {dn ix lY : Nat} {Q : AV → AHeap → Prop} (hwp : wid < pw) (hpo : pw < oid) (hS : S.length ≤ 100000000) (hix : ix ≤ 1000000000) (hdn : dn ≤ nw S.length)
    (hY : ∀ (K : AV → AHeap → Prop) (j : Nat) (h : AHeap) (v9 : AV), FInv M h0 wid pw oid k d S dn ix (j + 1) j h → Byt h v9 ((S.drop ((dn + j) * 512)).take 1024) → (∀ i, SlAt v9 i → i < oid ∧ i ≠ pw ∧ i ≠ wid) → dn + j < nw S.length →
      (∀ h', FInv M h0 wid pw oid k d S dn ix (j + 1) (j + 1) h' → K (.b true) h') → X (yid0 + lY) [v9] h K)
    (hdone : ∀ v h, FInv M h0 wid pw oid k d S dn ix (nw S.length - dn) (nw S.length - dn) h → Q v h) :
    ∀ m j h, j + m = nw S.length - dn → FInv M h0 wid pw oid k d S dn ix j j h → G_window_Window_complete.p0 Q (.p (some ⟨wid, 5, 0⟩)) (.fn (.yield lY) [] []) h := by
  have hnl := nw_le S.length
  have hnw : nw S.length = (S.length - 512) / 512 := rfl
  intro m
  induction m with
  | zero =>
    intro j h hj I
    have hjj : j = nw S.length - dn := by omega
    subst hjj
    obtain ⟨bv, R, B, F⟩ := I.win
    refine G_window_Window_complete.i0 ?_
    simp only [G_window_Window_complete.t0, G_window_Window_complete.j0]
    refine st_nil (st_fld (st_load R rfl rfl (Rd.len B (bif_f ?_ (hdone _ _ I)))))
    rw [List.length_drop]; simp; omega
  | succ m ih =>
    intro j h hj I
    obtain ⟨bv, R, B, F⟩ := I.win
    have hl : 1024 ≤ (S.drop ((dn + j) * 512)).length := by rw [List.length_drop]; omega
    refine G_window_Window_complete.i0 ?_
    simp only [G_window_Window_complete.t0, G_window_Window_complete.j0]
    refine st_nil (st_fld (st_load R rfl rfl (Rd.len B (bif_t (by simp at hl ⊢; omega) ?_))))
    refine st_nil (st_fld (st_load R rfl rfl ?_))
    refine B.slice3 (n := 1024) hl fun v9 B9 F9 _ => ?_
    refine st_nil (st_fld (st_load R rfl rfl ?_))
    refine B.drop (n := 512) (by omega) fun bv' B' F' => ?_
    have hcell : bv'.parts = [bv'] ∧ bv'.sizeOK = true ∧ bv'.cellOK = true := by
      rcases B' with ⟨rfl, _⟩ | ⟨_, _, _, _, _, rfl, _⟩ <;> exact ⟨rfl, rfl, rfl⟩
    refine st_nil (st_fld ?_)
    refine st_store R rfl (by simp) hcell.1 hcell.2.1 hcell.2.2 fun h1 hl1 U1 R1 => ?_
    have B91 := Rd.upd B9 U1 fun i hi => (F i (F9 i hi)).2.2.1
    have B'1 := Rd.upd B' U1 fun i hi => (F i (F' i hi)).2.2.1
    refine st_nil (st_fld (st_load R1 rfl rfl (st_asI64 ?_)))
    refine withI_is (n := ((dn + (j + 1) : Nat) : Int)) (by rw [wrap_i64 (by omega) (by omega)]; omega) ?_
    refine st_nil (st_fld ?_)
    refine st_store R1 rfl (by simp) rfl rfl rfl fun h2 hl2 U2 R2 => ?_
    have B92 : Byt h2 v9 _ := Rd.upd B91 U2 fun i hi => (F i (F9 i hi)).2.2.1
    have B'2 := Rd.upd B'1 U2 fun i hi => (F i (F' i hi)).2.2.1
    have U12 : Upd (· = wid) h h2 := U1.trans U2 fun _ _ e => e
    obtain ⟨ov, O, A, FO⟩ := I.out
    have ho := O.lt
    have I2 : FInv M h0 wid pw oid k d S dn ix (j + 1) j h2 := by
      refine ⟨I.upd.trans U12 fun _ _ e => e, ⟨bv', R2, ?_, fun i hi => F i (F' i hi)⟩, I.pwr.upd U12 (by omega), ov, O.upd U12 (by omega), A.upd U12 fun i hi e => ?_, FO⟩
      · have e : (S.drop ((dn + j) * 512)).drop 512 = S.drop ((dn + (j + 1)) * 512) := by rw [List.drop_drop, show (dn + j) * 512 + 512 = (dn + (j + 1)) * 512 by omega]
        rw [e] at B'2; exact B'2
      · have := FO i hi; omega
    show C (yid0 + lY) [v9] h2 _
    refine acall_x (hY _ j h2 v9 I2 B92 (fun i hi => ⟨(F i (F9 i hi)).1, (F i (F9 i hi)).2.1, (F i (F9 i hi)).2.2.1⟩) (by omega) fun h' I' => ?_)
    exact st_asB (bif_f rfl (ih (j + 1) h' (by omega) I'))
end

/-! ### The rules for calls -/

/-- Below: no rule. -/
@[reducible] def xr0 : XR := ⟨fun _ _ _ _ => False⟩
/-- Here: a call of Feed, by its body. -/
noncomputable instance xr1 : XR := ⟨aFR prog (@C xr0) (acall prog)⟩

theorem compOK : bodyOK prog G_window_Window_complete.id = true := by kernel_rfl
theorem compLt : Nat.blt G_window_Window_complete.id yid0 = true := by kernel_rfl

theorem Feed_c {M : Nat → Prop} {h : AHeap} {wid : Nat} {k d : Int} {ix : Nat} {S s : List UInt8} {Q : AV → AHeap → Prop} (W : WIN M h wid k d ix (nw S.length) (S.drop (nw S.length * 512))) (hix : ix ≤ 1000000000) (hS : S.length + s.length ≤ 100000000)
    (hk : ∀ v h', Upd (· = wid) h h' → WIN (fun i => i < h.length ∧ M i ∨ SlAt v i) h' wid k d (ix + (nw (S ++ s).length - nw S.length)) (nw (S ++ s).length) ((S ++ s).drop (nw (S ++ s).length * 512)) →
      Arr 4 h' v (encs (outsL k d (S ++ s) (nw S.length) ix (nw (S ++ s).length - nw S.length))) (nw (S ++ s).length - nw S.length) → (∀ i, SlAt v i → h.length ≤ i) → Q v h') :
    C G_window_Window_Feed.id [.p (some ⟨wid, 5, 0⟩), .s s] h Q := by
  have hnl := nw_le S.length
  have hnm : nw S.length ≤ nw (S ++ s).length := by unfold nw; rw [List.length_append]; exact Nat.div_le_div_right (by omega)
  have hSs : (S ++ s).length = S.length + s.length := List.length_append
  obtain ⟨bv, R, B, F⟩ := W
  have hw := R.lt
  refine acall_x ?_
  refine @G_window_Window_Feed.callR xr0 _ _ _ _ ?_
  simp only [G_window_Window_Feed.tR]
  refine st_box rfl fun h1 hl1 U1 P1 => ?_
  have P1' : RecAt h1 h.length [.p (some ⟨wid, 5, 0⟩)] := P1
  have R1 := R.upd U1 fun h => h
  have B1 : Byt h1 bv _ := Rd.upd B U1 fun _ _ h => h
  refine st_load P1' rfl rfl (eqNil26 (st_asB (bif_f rfl ?_)))
  refine st_load P1' rfl rfl ?_
  refine st_load P1' rfl rfl (st_nil (st_fld (st_load R1 rfl rfl ?_)))
  refine st_load P1' rfl rfl (st_nil (st_fld (st_load R1 rfl rfl (Rd.len B1 ?_))))
  refine st_load P1' rfl rfl (st_nil (st_fld (st_load R1 rfl rfl (Rd.len B1 ?_))))
  refine B1.slice3 (Nat.le_refl _) fun v24 B24 F24 hv24 => ?_
  rw [List.take_length] at B24
  refine B24.grow hv24 (by rw [List.length_drop]; omega) fun v25 h26 U26 B25 F25 hl26 => ?_
  have P26 := P1'.upd U26 fun h => h
  have R26 := R1.upd U26 fun h => h
  refine st_load R26 rfl rfl ⟨rfl, ?_⟩
  refine st_load P26 rfl rfl ⟨rfl, ?_⟩
  refine st_load R26 rfl rfl ⟨rfl, ?_⟩
  refine st_load P26 rfl rfl ⟨rfl, ?_⟩
  refine st_load R26 rfl rfl ⟨rfl, ?_⟩
  refine st_load P26 rfl rfl ⟨rfl, ?_⟩
  refine st_load P26 rfl rfl ⟨rfl, ?_⟩
  refine st_nil (st_fld ?_)
  have hcell : v25.parts = [v25] ∧ v25.sizeOK = true ∧ v25.cellOK = true := by
    rcases B25 with ⟨rfl, _⟩ | ⟨_, _, _, _, _, rfl, _⟩ <;> exact ⟨rfl, rfl, rfl⟩
  have hF25 : ∀ i, SlAt v25 i → i < h26.length ∧ i ≠ h.length ∧ i ≠ wid ∧ ¬ M i ∨ h1.length ≤ i ∧ i < h26.length := fun i hi => by
    have hlt := Rd.lt B25 hi
    rcases F25 i hi with h2 | h2
    · have h3 := F24 i h2
      have h4 := Rd.lt B h3
      exact .inl ⟨hlt, by omega, (F i h3).1, (F i h3).2⟩
    · exact .inr ⟨h2, hlt⟩
  refine st_store R26 rfl (by simp) hcell.1 hcell.2.1 hcell.2.2 fun h36 hl36 U36 R36 => ?_
  have P36 := P26.upd U36 (by omega)
  have B36 := Rd.upd B25 U36 fun i hi e => by rcases hF25 i hi with h2 | h2 <;> omega
  refine st_alloc fun h39 hl39 U39 O39 => ?_
  have P39 := P36.upd U39 fun h => h
  have R39 := R36.upd U39 fun h => h
  have B39 := Rd.upd B36 U39 fun _ _ h => h
  refine st_load P39 rfl rfl ?_
  -- the range
  refine st_range (by rw [compLt, compOK]; rfl) fun lY => ?_
  have hI0 : FInv (fun i => i < h.length ∧ M i) h wid h.length h36.length k d (S ++ s) (nw S.length) ix 0 0 h39 := by
    refine ⟨(((U1.mono fun _ _ h => h.elim).trans U26 fun _ _ h => h.elim).trans U36 fun _ _ e => e).trans U39 fun _ _ h => h.elim, ⟨v25, R39, ?_, fun i hi => ?_⟩, P39, .sl none 0 none, O39, Arr.nil _ _, fun _ h => h.elim⟩
    · have e : S.drop (nw S.length * 512) ++ s = (S ++ s).drop ((nw S.length + 0) * 512) := by rw [Nat.add_zero, List.drop_append_of_le_length hnl]
      rw [← e]; exact B39
    · rcases hF25 i hi with h2 | h2
      · exact ⟨by omega, h2.2.1, h2.2.2.1, fun hm => h2.2.2.2 hm.2⟩
      · exact ⟨by omega, by omega, by omega, fun hm => by omega⟩
  have hpo : h.length < h36.length := by have := U26.1; omega
  refine @G_window_Window_complete.call ⟨orY (@C xr0) lY _⟩ _ _ _ _ ?_
  simp only [G_window_Window_complete.t, G_window_Window_complete.j0]
  refine @complete_p0 ⟨orY (@C xr0) lY _⟩ (fun i => i < h.length ∧ M i) h wid h.length h36.length k d (S ++ s) (nw S.length) ix lY _ hw hpo (by omega) hix hnm ?_ ?_ (nw (S ++ s).length - nw S.length) 0 h39 (by omega) hI0
  · -- a round
    intro K j h44 v9 I B9 F9 hj hK
    refine .inr ⟨rfl, ?_⟩
    obtain ⟨bv', R', B', F'⟩ := I.win
    obtain ⟨ov, O, A, FO⟩ := I.out
    have ho := O.lt
    refine st_arg1 (st_load O rfl rfl (st_load I.pwr rfl rfl ?_))
    refine @buffer_c xr0 _ _ _ _ _ _ _ _ _ _ R' B9 (fun i hi => (F9 i hi).2.2) (by omega) (by have : nw (S ++ s).length ≤ (S ++ s).length := by { unfold nw; omega }; omega) fun h49 U49 R49 => ?_
    have O49 := O.upd U49 (by omega)
    have P49 := I.pwr.upd U49 (by omega)
    have A49 := A.upd U49 fun i hi e => by have := FO i hi; omega
    have B49 := Rd.upd B' U49 fun i hi e => (F' i hi).2.2.1 e
    refine st_load O49 rfl rfl ⟨rfl, ?_⟩
    refine st_build (cs := encB (k, d, ((ix + j : Nat) : Int), (List.take 1024 (List.drop ((nw S.length + j) * 512) (S ++ s))))) rfl rfl fun y h52 hl52 U52 Y52 F52 => ?_
    have O52 := O49.upd U52 fun h => h
    have P52 := P49.upd U52 fun h => h
    have A52 := A49.upd U52 fun _ _ h => h
    have R52 := R49.upd U52 fun h => h
    have B52 := Rd.upd B49 U52 fun _ _ h => h
    refine st_load P52 rfl rfl ⟨rfl, ?_⟩
    refine st_load O52 rfl rfl ⟨rfl, ?_⟩
    have hmn : nw (S ++ s).length ≤ (S ++ s).length := by unfold nw; omega
    refine A52.append (by decide) (fun K hK => Y52.news hK) rfl rfl (by omega) (by omega) fun v55 h56 U56 A56 F56 => ?_
    have hFO : ∀ i, SlAt ov i → i ≠ h36.length ∧ i ≠ h.length ∧ i ≠ wid := fun i hi => by have := FO i hi; omega
    have O56 := O52.upd U56 fun h => (hFO _ h).1 rfl
    have P56 := P52.upd U56 fun h => (hFO _ h).2.1 rfl
    have R56 := R52.upd U56 fun h => (hFO _ h).2.2 rfl
    have B56 := Rd.upd B52 U56 fun i hi h => by have := FO i h; have := (F' i hi).1; omega
    refine st_load P56 rfl rfl ⟨rfl, ?_⟩
    have hc55 : v55.parts = [v55] ∧ v55.sizeOK = true ∧ v55.cellOK = true := by
      rcases A56 with ⟨rfl, _⟩ | ⟨_, _, rfl, _⟩ <;> exact ⟨rfl, rfl, rfl⟩
    refine st_store O56 rfl (by simp) hc55.1 hc55.2.1 hc55.2.2 fun h58 hl58 U58 O58 => ?_
    refine hK h58 ?_
    have hN : ∀ i, SlAt v55 i → h36.length < i := fun i hi => by
      rcases F56 i hi with h2 | h2
      · exact FO i h2
      · have := U49.1; omega
    refine ⟨((((I.upd.trans U49 fun _ _ e => e).trans U52 fun _ _ h => h.elim).trans U56 fun i hi h => absurd (FO i h) (by omega)).trans U58 fun i hi e => by omega), ⟨bv', ?_, Rd.upd B56 U58 fun i hi e => by have := (F' i hi).1; omega, F'⟩, P56.upd U58 (by omega), v55, O58, ?_, hN⟩
    · have := R56.upd U58 (by omega)
      exact this
    · rw [outsL_succ, encs_app]
      exact A56.upd U58 fun i hi e => by have := hN i hi; omega
  · intro v h59 I
    refine .inl ?_
    obtain ⟨bv', R', B', F'⟩ := I.win
    obtain ⟨ov, O, A, FO⟩ := I.out
    refine st_load O rfl rfl (.inl (hk ov h59 I.upd ?_ A fun i hi => by have := FO i hi; omega))
    have e : nw S.length + (nw (S ++ s).length - nw S.length) = nw (S ++ s).length := by omega
    rw [e] at R' B'
    refine ⟨bv', R', B', fun i hi => ⟨(F' i hi).2.2.1, fun hm => ?_⟩⟩
    rcases hm with hm | hm
    · exact (F' i hi).2.2.2 hm
    · have := FO i hm; have := (F' i hi).1; omega

end Go.Proofs.Ytbmmnckklafplaa
