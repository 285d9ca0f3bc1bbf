/- The functions of window and of its reference, further: sizes, ends, comparisons, rounds. -/
import Derived.Test.YtbmmnckklafplaaTy1
set_option linter.unusedVariables false
set_option linter.unusedSimpArgs false
set_option linter.unusedSectionVars false
namespace Go.Proofs.Ytbmmnckklafplaa
open Go.GAM

abbrev Bf := Int × Int × Int × List UInt8
def encB (b : Bf) : List AV := [.i .i64 b.1, .i .i64 b.2.1, .i .i64 b.2.2.1, .s b.2.2.2]
def encs (l : List Bf) : List AV := l.flatMap encB
theorem encs_nil : encs [] = [] := rfl
theorem encs_app (a b : List Bf) : encs (a ++ b) = encs a ++ encs b := by simp [encs]
theorem encs_len (l : List Bf) : (encs l).length = l.length * 4 := by
  induction l with
  | nil => rfl
  | cons b l ih => simp [encs, encB] at *; omega
theorem encs_ok (l : List Bf) : (encs l).all AV.cellOK = true := by
  induction l with
  | nil => rfl
  | cons b l ih => simp [encs, encB, AV.cellOK] at *
theorem encs_at {l : List Bf} {j : Nat} {b : Bf} (h : l[j]? = some b) : ((encs l).drop (j * 4)).take 4 = encB b := by
  induction l generalizing j with
  | nil => simp at h
  | cons a l ih =>
    cases j with
    | zero => simp at h; subst h; simp [encs, encB]
    | succ j =>
      have e : (j + 1) * 4 = 4 + j * 4 := by omega
      have : encs (a :: l) = encB a ++ encs l := by simp [encs]
      rw [this, e, ← List.drop_drop]
      have h2 : (encB a ++ encs l).drop 4 = encs l := by simp [encB]
      rw [h2]
      exact ih (by simpa using h)

/-- The number of complete windows. -/
def nw (n : Nat) : Nat := (n - 512) / 512

def WIN (M : Nat → Prop) (h : AHeap) (id : Nat) (k d : Int) (ix dn : Nat) (l : List UInt8) : Prop :=
  ∃ bv, RecAt h id [.i .i64 k, .i .i64 d, .i .i64 ix, .i .i64 dn, bv] ∧ Byt h bv l ∧ ∀ j, SlAt bv j → j ≠ id ∧ ¬ M j

theorem WIN.upd {M M' : Nat → Prop} {h h' : AHeap} {id : Nat} {k d : Int} {ix dn : Nat} {l : List UInt8} (W : WIN M h id k d ix dn l) (U : Upd M' h h') (h1 : ¬ M' id) (h2 : ∀ i, i < h.length → M' i → M i) : WIN M h' id k d ix dn l := by
  obtain ⟨bv, R, B, F⟩ := W
  exact ⟨bv, R.upd U h1, Rd.upd B U fun i hi hm => (F i hi).2 (h2 i (Rd.lt B hi) hm), F⟩
theorem WIN.mono {M M' : Nat → Prop} {h : AHeap} {id : Nat} {k d : Int} {ix dn : Nat} {l : List UInt8} (W : WIN M h id k d ix dn l) (h2 : ∀ i, i < h.length → M' i → M i) : WIN M' h id k d ix dn l := by
  obtain ⟨bv, R, B, F⟩ := W
  exact ⟨bv, R, B, fun j hj => ⟨(F j hj).1, fun hm => (F j hj).2 (h2 j (Rd.lt B hj) hm)⟩⟩

def gapL (k d : Int) (ix dn : Nat) (l : List UInt8) : List Bf := if 0 < l.length ∧ (dn = 0 ∨ 512 < l.length) then [(k, d, ix, l)] else []

theorem nw_pos {n : Nat} (h : nw n ≠ 0) : (nw n + 1) * 512 ≤ n := by unfold nw at *; omega
theorem nw_le (n : Nat) : nw n * 512 ≤ n := by unfold nw; omega

section
variable [XR]

theorem Size_c {M : Nat → Prop} {h : AHeap} {wid : Nat} {k d : Int} {ix dn : Nat} {l : List UInt8} {Q : AV → AHeap → Prop} (W : WIN M h wid k d ix dn l) (hk : Q (.i .i64 l.length) h) : C G_window_Window_Size.id [.p (some ⟨wid, 5, 0⟩)] h Q := by
  obtain ⟨bv, R, B, F⟩ := W
  refine G_window_Window_Size.call ?_
  simp only [G_window_Window_Size.t]
  refine eqNil26 (st_asB (bif_f rfl ?_))
  refine st_nil (st_fld (st_load R rfl rfl ?_))
  exact Rd.len B (.inl hk)

theorem RSize_c {h : AHeap} {wid : Nat} {k d : Int} {ix dn : Nat} {S : List UInt8} {Q : AV → AHeap → Prop} (R : RecAt h wid [.i .i64 k, .i .i64 d, .i .i64 dn, .i .i64 ix, .s S]) (hd : dn * 512 ≤ S.length) (hS : S.length ≤ 100000000) (hk : Q (.i .i64 (S.drop (dn * 512)).length) h) : C G_ref40_Window_Size.id [.p (some ⟨wid, 5, 0⟩)] h Q := by
  refine G_ref40_Window_Size.call ?_
  simp only [G_ref40_Window_Size.t]
  refine st_nil (st_fld (st_load R rfl rfl (st_asS ?_)))
  refine st_nil (st_fld (st_load R rfl rfl (st_asI64 ?_)))
  refine withI_is (wrap_i64 (by omega) (by omega)) ?_
  refine withI_is (wrap_i64 (by omega) (by omega)) ?_
  refine .inl ?_
  have e : ((S.length : Nat) : Int) - (dn : Int) * 512 = ((S.drop (dn * 512)).length : Int) := by rw [List.length_drop]; omega
  rw [e]; exact hk

theorem Gap_p1 {h0 h : AHeap} {wid : Nat} {k d : Int} {ix dn : Nat} {bv v : AV} {out : List Bf} {Q : AV → AHeap → Prop} (hw : wid < h0.length) (U : Upd (· = wid) h0 h) (R : RecAt h wid [.i .i64 k, .i .i64 d, .i .i64 ix, .i .i64 dn, bv]) (A : Arr 4 h v (encs out) out.length) (F : ∀ i, SlAt v i → h0.length ≤ i)
    (hk : ∀ h', Upd (· = wid) h0 h' → RecAt h' wid [.i .i64 k, .i .i64 d, .i .i64 ix, .i .i64 0, .sl none 0 none] → Arr 4 h' v (encs out) out.length → Q v h') : G_window_Window_Gap.p1 Q (.p (some ⟨wid, 5, 0⟩)) v h := by
  refine G_window_Window_Gap.i1 ?_
  simp only [G_window_Window_Gap.t1]
  refine st_nil (st_fld ?_)
  refine st_store R rfl (by simp) rfl rfl rfl fun h1 hl1 U1 R1 => ?_
  have A1 := A.upd U1 fun i hi e => by have := F i hi; omega
  refine st_nil (st_fld ?_)
  refine st_store R1 rfl (by simp) rfl rfl rfl fun h2 hl2 U2 R2 => ?_
  have A2 := A1.upd U2 fun i hi e => by have := F i hi; omega
  exact hk h2 ((U.trans U1 fun _ _ e => e).trans U2 fun _ _ e => e) R2 A2

theorem Gap_c {M : Nat → Prop} {h : AHeap} {wid : Nat} {k d : Int} {ix dn : Nat} {l : List UInt8} {Q : AV → AHeap → Prop} (W : WIN M h wid k d ix dn l) (hix : ix ≤ 1000000000) (hl : l.length ≤ 100000000)
    (hk : ∀ v h', Upd (· = wid) h h' → RecAt h' wid [.i .i64 k, .i .i64 d, .i .i64 (ix + (gapL k d ix dn l).length : Nat), .i .i64 0, .sl none 0 none] → Arr 4 h' v (encs (gapL k d ix dn l)) (gapL k d ix dn l).length → (∀ i, SlAt v i → h.length ≤ i) → Q v h') :
    C G_window_Window_Gap.id [.p (some ⟨wid, 5, 0⟩)] h Q := by
  obtain ⟨bv, R, B, F⟩ := W
  have hw := R.lt
  refine G_window_Window_Gap.call ?_
  simp only [G_window_Window_Gap.t, G_window_Window_Gap.j0]
  have hp0 : ∀ b : Bool, b = decide (0 < l.length ∧ (dn = 0 ∨ 512 < l.length)) → G_window_Window_Gap.p0 (kRet h Q) (.p (some ⟨wid, 5, 0⟩)) (.sl none 0 none) b h := by
    intro b hb
    refine G_window_Window_Gap.i0 ?_
    simp only [G_window_Window_Gap.t0, G_window_Window_Gap.j1]
    refine bif_both (fun e => ?_) fun e => ?_
    · have hg : gapL k d ix dn l = [(k, d, (ix : Int), l)] := by unfold gapL; rw [if_pos]; simpa [e] using hb.symm
      rw [hg] at hk
      refine st_nil (st_fld (st_load R rfl rfl ?_))
      refine buffer_c R B (fun i hi => (F i hi).1) (by omega) (by omega) fun h1 U1 R1 => ?_
      refine (Arr.nil 4 h1).push (by decide) rfl rfl rfl (by omega) (by omega) fun v' h2 U2 A2 F2 => ?_
      have hnew : ∀ i, SlAt v' i → h.length ≤ i := fun i hi => by
        rcases F2 i hi with h | h
        · exact h.elim
        · exact Nat.le_trans U1.1 h
      have R2 := R1.upd U2 (fun h => h)
      refine Gap_p1 (ix := ix + 1) (out := [(k, d, ix, l)]) hw (U1.trans U2 fun _ _ h => h.elim) (by simpa using R2) A2 hnew fun h3 U3 R3 A3 => .inl (hk v' h3 U3 R3 A3 hnew)
    · have hg : gapL k d ix dn l = [] := by unfold gapL; rw [if_neg]; simpa [e] using hb.symm
      rw [hg] at hk
      exact Gap_p1 (out := []) hw (Upd.refl _ _) R (Arr.nil _ _) (fun _ h => h.elim) fun h3 U3 R3 A3 => .inl (hk _ h3 U3 R3 A3 fun _ h => h.elim)
  refine eqNil26 (st_asB (bif_f rfl ?_))
  refine st_nil (st_fld (st_load R rfl rfl (Rd.len B ?_)))
  refine bif_both (fun e => ?_) fun e => ?_
  · simp only [decide_eq_true_eq] at e
    refine st_nil (st_fld (st_load R rfl rfl (st_asI64 ?_)))
    refine bif_both (fun e2 => ?_) fun e2 => ?_
    · simp only [decide_eq_true_eq] at e2
      exact hp0 true (by symm; simp; omega)
    · simp only [decide_eq_false_iff_not] at e2
      refine st_nil (st_fld (st_load R rfl rfl (Rd.len B ?_)))
      refine hp0 _ ?_
      rw [decide_eq_decide]
      omega
  · simp only [decide_eq_false_iff_not] at e
    exact hp0 false (by symm; simp; omega)

theorem Close_c {M : Nat → Prop} {h : AHeap} {wid : Nat} {k d : Int} {ix dn : Nat} {l : List UInt8} {Q : AV → AHeap → Prop} (W : WIN M h wid k d ix dn l) (hix : ix ≤ 1000000000) (hl : l.length ≤ 100000000)
    (hk : ∀ v h', Upd (· = wid) h h' → RecAt h' wid [.i .i64 k, .i .i64 d, .i .i64 (ix + (gapL k d ix dn l).length : Nat), .i .i64 0, .sl none 0 none] → Arr 4 h' v (encs (gapL k d ix dn l)) (gapL k d ix dn l).length → (∀ i, SlAt v i → h.length ≤ i) → Q v h') :
    C G_window_Window_Close.id [.p (some ⟨wid, 5, 0⟩)] h Q := by
  refine G_window_Window_Close.call ?_
  simp only [G_window_Window_Close.t]
  exact Gap_c W hix hl fun v h' U R A F => .inl (hk v h' U R A F)

theorem RClose_p1 {h0 h : AHeap} {wid : Nat} {k d : Int} {ix dn : Nat} {bv v : AV} {out : List Bf} {Q : AV → AHeap → Prop} (hw : wid < h0.length) (U : Upd (· = wid) h0 h) (R : RecAt h wid [.i .i64 k, .i .i64 d, .i .i64 dn, .i .i64 ix, bv]) (A : Arr 4 h v (encs out) out.length) (F : ∀ i, SlAt v i → h0.length ≤ i)
    (hk : ∀ h', Upd (· = wid) h0 h' → RecAt h' wid [.i .i64 k, .i .i64 d, .i .i64 0, .i .i64 ix, .s []] → Arr 4 h' v (encs out) out.length → Q v h') : G_ref40_Window_Close.p1 Q (.p (some ⟨wid, 5, 0⟩)) v h := by
  refine G_ref40_Window_Close.i1 ?_
  simp only [G_ref40_Window_Close.t1]
  refine st_nil (st_fld ?_)
  refine st_store R rfl (by simp) rfl rfl rfl fun h1 hl1 U1 R1 => ?_
  have A1 := A.upd U1 fun i hi e => by have := F i hi; omega
  refine st_nil (st_fld ?_)
  refine st_store R1 rfl (by simp) rfl rfl rfl fun h2 hl2 U2 R2 => ?_
  have A2 := A1.upd U2 fun i hi e => by have := F i hi; omega
  exact hk h2 ((U.trans U1 fun _ _ e => e).trans U2 fun _ _ e => e) R2 A2

theorem RClose_c {h : AHeap} {wid : Nat} {k d : Int} {ix : Nat} {S : List UInt8} {Q : AV → AHeap → Prop} (R : RecAt h wid [.i .i64 k, .i .i64 d, .i .i64 (nw S.length), .i .i64 ix, .s S]) (hix : ix ≤ 1000000000) (hl : S.length ≤ 100000000)
    (hk : ∀ v h', Upd (· = wid) h h' → RecAt h' wid [.i .i64 k, .i .i64 d, .i .i64 0, .i .i64 (ix + (gapL k d ix (nw S.length) (S.drop (nw S.length * 512))).length : Nat), .s []] →
      Arr 4 h' v (encs (gapL k d ix (nw S.length) (S.drop (nw S.length * 512)))) (gapL k d ix (nw S.length) (S.drop (nw S.length * 512))).length → (∀ i, SlAt v i → h.length ≤ i) → Q v h') :
    C G_ref40_Window_Close.id [.p (some ⟨wid, 5, 0⟩)] h Q := by
  have hw := R.lt
  have hnl := nw_le S.length
  have hnp := @nw_pos S.length
  refine G_ref40_Window_Close.call ?_
  simp only [G_ref40_Window_Close.t, G_ref40_Window_Close.j0]
  have hp0 : ∀ b : Bool, b = decide (0 < S.length ∧ (nw S.length = 0 ∨ 512 < S.length - nw S.length * 512)) → G_ref40_Window_Close.p0 (kRet h Q) (.p (some ⟨wid, 5, 0⟩)) (.sl none 0 none) b h := by
    intro b hb
    refine G_ref40_Window_Close.i0 ?_
    simp only [G_ref40_Window_Close.t0, G_ref40_Window_Close.j1]
    refine bif_both (fun e => ?_) fun e => ?_
    · have hg : gapL k d ix (nw S.length) (S.drop (nw S.length * 512)) = [(k, d, (ix : Int), S.drop (nw S.length * 512))] := by
        unfold gapL; rw [if_pos]
        rw [List.length_drop]
        have : 0 < S.length ∧ (nw S.length = 0 ∨ 512 < S.length - nw S.length * 512) := by simpa [e] using hb.symm
        omega
      rw [hg] at hk
      refine st_nil (st_fld (st_load R rfl rfl (st_asS ?_)))
      refine st_nil (st_fld (st_load R rfl rfl (st_asI64 ?_)))
      refine withI_is (n := ((nw S.length * 512 : Nat) : Int)) (by rw [wrap_i64 (by omega) (by omega)]; omega) ?_
      refine st_subs hnl ?_
      refine Rbuffer_c R (by omega) (by omega) fun h1 U1 R1 => ?_
      refine st_load R1 rfl rfl (st_asI64 ⟨rfl, ?_⟩)
      refine st_load R1 rfl rfl (st_asS ⟨rfl, ?_⟩)
      refine st_build (cs := encB (k, d, ix, S.drop (nw S.length * 512))) rfl rfl fun y h2 hl2 U2 Y2 F2 => ?_
      have R2 := R1.upd U2 (fun h => h)
      refine st_load R2 rfl rfl (st_asI64 ⟨rfl, ?_⟩)
      refine st_load R2 rfl rfl (st_asS ⟨rfl, ?_⟩)
      refine (Arr.nil 4 h2).append (by decide) (fun K hK => Y2.news hK) rfl rfl (by omega) (by omega) fun v' h3 U3 A3 F3 => ?_
      have R3 := R2.upd U3 (fun h => h)
      refine st_load R3 rfl rfl (st_asI64 ⟨rfl, ?_⟩)
      refine st_load R3 rfl rfl (st_asS ⟨rfl, ?_⟩)
      have hnew : ∀ i, SlAt v' i → h.length ≤ i := fun i hi => by
        rcases F3 i hi with h | h
        · exact h.elim
        · have := U1.1; omega
      refine RClose_p1 (ix := ix + 1) (out := [(k, d, ix, S.drop (nw S.length * 512))]) hw ((U1.trans U2 fun _ _ h => h.elim).trans U3 fun _ _ h => h.elim) (by simpa using R3) A3 hnew fun h4 U4 R4 A4 => .inl (hk v' h4 U4 R4 A4 hnew)
    · have hg : gapL k d ix (nw S.length) (S.drop (nw S.length * 512)) = [] := by
        unfold gapL; rw [if_neg]
        rw [List.length_drop]
        have : ¬ (0 < S.length ∧ (nw S.length = 0 ∨ 512 < S.length - nw S.length * 512)) := by simpa [e] using hb.symm
        omega
      rw [hg] at hk
      exact RClose_p1 (out := []) hw (Upd.refl _ _) R (Arr.nil _ _) (fun _ h => h.elim) fun h3 U3 R3 A3 => .inl (hk _ h3 U3 R3 A3 fun _ h => h.elim)
  refine st_nil (st_fld (st_load R rfl rfl (st_asS ?_)))
  refine bif_both (fun e => ?_) fun e => ?_
  · simp only [decide_eq_true_eq] at e
    refine st_nil (st_fld (st_load R rfl rfl (st_asI64 ?_)))
    refine bif_both (fun e2 => ?_) fun e2 => ?_
    · simp only [decide_eq_true_eq] at e2
      exact hp0 true (by symm; simp; omega)
    · simp only [decide_eq_false_iff_not] at e2
      refine st_nil (st_fld (st_load R rfl rfl (st_asS ?_)))
      refine st_nil (st_fld (st_load R rfl rfl (st_asI64 ?_)))
      refine withI_is (wrap_i64 (by omega) (by omega)) ?_
      refine withI_is (wrap_i64 (by omega) (by omega)) ?_
      refine hp0 _ ?_
      rw [decide_eq_decide]
      omega
  · simp only [decide_eq_false_iff_not] at e
    exact hp0 false (by symm; simp; omega)

theorem RGap_c {h : AHeap} {wid : Nat} {k d : Int} {ix : Nat} {S : List UInt8} {Q : AV → AHeap → Prop} (R : RecAt h wid [.i .i64 k, .i .i64 d, .i .i64 (nw S.length), .i .i64 ix, .s S]) (hix : ix ≤ 1000000000) (hl : S.length ≤ 100000000)
    (hk : ∀ v h', Upd (· = wid) h h' → RecAt h' wid [.i .i64 k, .i .i64 d, .i .i64 0, .i .i64 (ix + (gapL k d ix (nw S.length) (S.drop (nw S.length * 512))).length : Nat), .s []] →
      Arr 4 h' v (encs (gapL k d ix (nw S.length) (S.drop (nw S.length * 512)))) (gapL k d ix (nw S.length) (S.drop (nw S.length * 512))).length → (∀ i, SlAt v i → h.length ≤ i) → Q v h') :
    C G_ref40_Window_Gap.id [.p (some ⟨wid, 5, 0⟩)] h Q := by
  refine G_ref40_Window_Gap.call ?_
  simp only [G_ref40_Window_Gap.t]
  exact RClose_c R hix hl fun v h' U R A F => .inl (hk v h' U R A F)

/-! ### Same -/

theorem guard34 : Program.eqGuardType prog prog.depth 34 = false := by kernel_rfl
theorem aEq34 (a b c a' b' c' : Int) (s s' : List UInt8) : aEq prog 64 34 (.ag [.i .i64 a, .i .i64 b, .i .i64 c, .s s]) (.ag [.i .i64 a', .i .i64 b', .i .i64 c', .s s']) = some ((a == a') && ((b == b') && ((c == c') && ((s == s') && true)))) := by kernel_rfl

theorem neq34 {b : Bf} {K : AV → Prop} (hk : K (.b false)) : pBin prog .neq 34 (.ag (encB b)) (.ag (encB b)) K := by
  obtain ⟨x, y, z, s⟩ := b
  show (bif Program.eqGuardType prog prog.depth 34 then False else match aEq prog 64 34 (.ag [.i .i64 x, .i .i64 y, .i .i64 z, .s s]) (.ag [.i .i64 x, .i .i64 y, .i .i64 z, .s s]) with
    | some r => eqOut .neq r K
    | none => False)
  rw [guard34, aEq34]
  simpa [eqOut] using hk

theorem Same_p0 {h : AHeap} {v w : AV} {l : List Bf} {Q : AV → AHeap → Prop} (Rv : Rd 4 h v (encs l) l.length) (Rw : Rd 4 h w (encs l) l.length) (hl : l.length ≤ 1000000000) (hk : Q (.b true) h) : ∀ m j, j + m = l.length → G_ref40_Same.p0 Q v w j h := by
  intro m
  induction m with
  | zero =>
    intro j hj
    refine G_ref40_Same.i0 ?_
    simp only [G_ref40_Same.t0, G_ref40_Same.j0]
    exact Rv.len (bif_f (by simp; omega) hk)
  | succ m ih =>
    intro j hj
    refine G_ref40_Same.i0 ?_
    simp only [G_ref40_Same.t0, G_ref40_Same.j0]
    have hlt : j < l.length := by omega
    have he := encs_at (List.getElem?_eq_getElem hlt)
    refine Rv.len (bif_t (by simp; omega) ?_)
    refine Rv.elem (by omega) (by omega) ?_
    refine Rw.elem (by omega) (by omega) ?_
    rw [Int.toNat_natCast, he]
    refine neq34 (st_asB (bif_f rfl ?_))
    refine withI_is (wrap_i64 (by omega) (by omega)) ?_
    exact ih (j + 1) (by omega)

theorem Same_c {h : AHeap} {v w : AV} {l : List Bf} {Q : AV → AHeap → Prop} (Rv : Rd 4 h v (encs l) l.length) (Rw : Rd 4 h w (encs l) l.length) (hl : l.length ≤ 1000000000) (hk : Q (.b true) h) : C G_ref40_Same.id [v, w] h Q := by
  refine G_ref40_Same.call ?_
  simp only [G_ref40_Same.t, G_ref40_Same.j0]
  refine Rv.len (Rw.len (bif_f (by simp) ?_))
  exact Same_p0 Rv Rw hl (.inl hk) l.length 0 (by omega)

end
end Go.Proofs.Ytbmmnckklafplaa
