/- The functions of window and of its reference: what each does. -/
import Derived.Test.YtbmmnckklafplaaTx0
import Derived.Test.YtbmmnckklafplaaAm18
set_option linter.unusedVariables false
set_option linter.unusedSimpArgs false
set_option linter.unusedSectionVars false
namespace Go.Proofs.Ytbmmnckklafplaa
open Go.GAM
variable [XR]

theorem isPtr26 : isPtr prog 26 = true := by kernel_rfl

theorem eqNil26 {a : AA} {K : AV → Prop} (hk : K (.b false)) : pBin prog .eql 26 (.p (some a)) (.p none) K := by
  show (bif isPtr prog 26 then eqOut .eql false K else False)
  rw [isPtr26]; exact hk

/-! ### text -/

def nextS (s : Int) : Int := (s * 25173 + 13849).tmod 65536
def textS : Nat → Int → List UInt8
  | 0, _ => []
  | n + 1, s => UInt8.ofNat ((nextS s).tdiv 256).toNat :: textS n (nextS s)

theorem textS_len : ∀ (n : Nat) (s : Int), (textS n s).length = n
  | 0, _ => rfl
  | n + 1, s => by simp [textS, textS_len n]

theorem nextS_bd {s : Int} (h : 0 ≤ s) : 0 ≤ nextS s ∧ nextS s < 65536 := by
  unfold nextS
  rw [Int.tmod_eq_emod_of_nonneg (by omega)]
  omega

theorem text_p0 {Q : AV → AHeap → Prop} {h0 : AHeap} {n : Nat} (hn : n ≤ 100000) : ∀ (m j : Nat) (s : Int) (v : AV) (l : List UInt8) (h : AHeap), j + m = n → 0 ≤ s → s ≤ 1000000000 → Upd (fun _ => False) h0 h → Arr 1 h v (l.map byteAV) j →
    (∀ i, SlAt v i → h0.length ≤ i) → l.length = j → (∀ h', Upd (fun _ => False) h0 h' → Q (.s (l ++ textS m s)) h') → G_law40_text.p0 Q n s v j h := by
  intro m
  induction m with
  | zero =>
    intro j s v l h hj hs0 hs1 U A F hl hk
    refine G_law40_text.i0 ?_
    simp only [G_law40_text.t0, G_law40_text.j0]
    refine bif_f (by simp; omega) ?_
    refine Byt.str (l := l) (by unfold Byt; rw [hl]; exact A.rd) ?_
    have := hk h U
    rwa [textS, List.append_nil] at this
  | succ m ih =>
    intro j s v l h hj hs0 hs1 U A F hl hk
    refine G_law40_text.i0 ?_
    simp only [G_law40_text.t0, G_law40_text.j0]
    refine bif_t (by simp; omega) ?_
    refine withI_is (wrap_i64 (by omega) (by omega)) ?_
    refine withI_is (wrap_i64 (by omega) (by omega)) ?_
    obtain ⟨b1, b2⟩ := nextS_bd hs0
    refine st_rem (n := nextS s) (by decide) rfl ?_
    have ht0 : 0 ≤ (nextS s).tdiv 256 := by rw [Int.tdiv_eq_ediv_of_nonneg b1]; omega
    have ht1 : (nextS s).tdiv 256 < 256 := by rw [Int.tdiv_eq_ediv_of_nonneg b1]; omega
    refine st_quo (by decide) (wrap_i64 (by omega) (by omega)) ?_
    rw [wrap_u8 ht0 ht1, byteAV_wrap ht0 ht1]
    refine A.push (by decide) rfl rfl rfl (by omega) (by omega) fun v' h' U2 A2 F2 => ?_
    refine withI_is (wrap_i64 (by omega) (by omega)) ?_
    have U3 : Upd (fun _ => False) h0 h' := U.trans U2 fun i hi hs => absurd (F i hs) (by omega)
    have h3 : (l.map byteAV ++ (byteAV (UInt8.ofNat ((nextS s).tdiv 256).toNat)).parts) = (l ++ [UInt8.ofNat ((nextS s).tdiv 256).toNat]).map byteAV := by rw [List.map_append]; rfl
    rw [h3] at A2
    refine ih (j + 1) (nextS s) v' _ h' (by omega) b1 (by omega) U3 A2 (fun i hi => ?_) (by simp [hl]) fun h2 U4 => ?_
    · rcases F2 i hi with h | h
      · exact F i h
      · exact Nat.le_trans U.1 h
    · have := hk h2 U4
      rw [textS] at this
      rw [List.append_assoc]; exact this

theorem Upd.ext {h h' : AHeap} (U : Upd (fun _ => False) h h') : Ext h h' := ⟨U.1, fun i hi => U.2 i hi fun h => h⟩

theorem text_c {n : Nat} {s : Int} {h : AHeap} {Q : AV → AHeap → Prop} (hn : n ≤ 100000) (hs0 : 0 ≤ s) (hs1 : s ≤ 1000000000) (hk : Q (.s (textS n s)) h) : C G_law40_text.id [.i .i64 n, .i .i64 s] h Q := by
  refine G_law40_text.call ?_
  simp only [G_law40_text.t, G_law40_text.j0]
  refine text_p0 (h0 := h) hn n 0 s _ [] h (by omega) hs0 hs1 (Upd.refl _ _) (Arr.nil _ _) (fun _ h => h.elim) rfl fun h' U => kRet_pure rfl (Upd.ext U) hk

/-! ### New, buffer -/

theorem New_c {k d : Int} {h : AHeap} {Q : AV → AHeap → Prop} (hk : ∀ h', h'.length = h.length + 1 → Upd (fun _ => False) h h' → RecAt h' h.length [.i .i64 k, .i .i64 d, .i .i64 0, .i .i64 0, .sl none 0 none] → Q (.p (some ⟨h.length, 5, 0⟩)) h') :
    C G_window_New.id [.i .i64 k, .i .i64 d] h Q := by
  refine G_window_New.call ?_
  simp only [G_window_New.t]
  refine st_box rfl fun h' hl U R => .inl (hk h' hl U R)

theorem RNew_c {k d : Int} {h : AHeap} {Q : AV → AHeap → Prop} (hk : ∀ h', h'.length = h.length + 1 → Upd (fun _ => False) h h' → RecAt h' h.length [.i .i64 k, .i .i64 d, .i .i64 0, .i .i64 0, .s []] → Q (.p (some ⟨h.length, 5, 0⟩)) h') :
    C G_ref40_New.id [.i .i64 k, .i .i64 d] h Q := by
  refine G_ref40_New.call ?_
  simp only [G_ref40_New.t]
  refine st_box rfl fun h' hl U R => .inl (hk h' hl U R)

theorem buffer_c {h : AHeap} {wid : Nat} {k d ix c : Int} {bv x1 : AV} {l : List UInt8} {Q : AV → AHeap → Prop} (R : RecAt h wid [.i .i64 k, .i .i64 d, .i .i64 ix, .i .i64 c, bv]) (B : Byt h x1 l) (hx : ∀ i, SlAt x1 i → i ≠ wid)
    (h0 : 0 ≤ ix) (h1 : ix ≤ 1000000000000) (hk : ∀ h', Upd (· = wid) h h' → RecAt h' wid [.i .i64 k, .i .i64 d, .i .i64 (ix + 1), .i .i64 c, bv] → Q (.ag [.i .i64 k, .i .i64 d, .i .i64 ix, .s l]) h') :
    C G_window_Window_buffer.id [.p (some ⟨wid, 5, 0⟩), x1] h Q := by
  have hw := R.lt
  refine G_window_Window_buffer.call ?_
  simp only [G_window_Window_buffer.t]
  refine st_alloc fun h1 hl1 U1 O1 => ?_
  have R1 := R.upd U1 (fun h => h)
  have B1 : Byt h1 x1 l := Rd.upd B U1 fun _ _ h => h
  refine st_nil (st_fld (st_load R1 rfl rfl (st_asI64 ?_)))
  refine st_nil (st_fld (st_load R1 rfl rfl (st_asI64 ?_)))
  refine st_nil (st_fld (st_load R1 rfl rfl (st_asI64 ?_)))
  refine B1.str ?_
  refine st_alloc fun h2 hl2 U2 O2 => ?_
  have R2 := R1.upd U2 (fun h => h)
  have B2 : Byt h2 x1 l := Rd.upd B1 U2 fun _ _ h => h
  have O12 := O1.upd U2 (fun h => h)
  refine B2.str ⟨rfl, ?_⟩
  refine st_load R2 rfl rfl (st_asI64 ⟨rfl, ?_⟩)
  refine st_load R2 rfl rfl (st_asI64 ⟨rfl, ?_⟩)
  refine st_load R2 rfl rfl (st_asI64 ⟨rfl, ?_⟩)
  refine st_storeN O2 rfl rfl rfl fun h3 hl3 U3 O3 => ?_
  have R3 := R2.upd U3 (by omega)
  have O13 := O12.upd U3 (by omega)
  refine st_nil (st_fld (st_load R3 rfl rfl (st_asI64 ?_)))
  refine withI_is (wrap_i64 (by omega) (by omega)) ?_
  refine st_nil (st_fld ?_)
  refine st_store R3 rfl (by simp) rfl rfl rfl fun h4 hl4 U4 R4 => ?_
  have O4 := O3.upd U4 (by omega)
  have O14 := O13.upd U4 (by omega)
  refine st_loadN O4 rfl ?_
  refine st_storeN O14 rfl rfl rfl fun h5 hl5 U5 O5 => ?_
  refine st_loadN O5 rfl ?_
  have R5 := R4.upd U5 (by omega)
  have U : Upd (· = wid) h h5 := (((((U1.mono fun _ _ h => h.elim).trans U2 fun _ _ h => h.elim).trans U3 fun i hi e => by omega).trans U4 fun i hi e => e).trans U5 fun i hi e => by omega)
  exact .inl (hk h5 U R5)

theorem Rbuffer_c {h : AHeap} {wid : Nat} {k d ix c : Int} {bv : AV} {l : List UInt8} {Q : AV → AHeap → Prop} (R : RecAt h wid [.i .i64 k, .i .i64 d, .i .i64 c, .i .i64 ix, bv])
    (h0 : 0 ≤ ix) (h1 : ix ≤ 1000000000000) (hk : ∀ h', Upd (· = wid) h h' → RecAt h' wid [.i .i64 k, .i .i64 d, .i .i64 c, .i .i64 (ix + 1), bv] → Q (.ag [.i .i64 k, .i .i64 d, .i .i64 ix, .s l]) h') :
    C G_ref40_Window_buffer.id [.p (some ⟨wid, 5, 0⟩), .s l] h Q := by
  have hw := R.lt
  refine G_ref40_Window_buffer.call ?_
  simp only [G_ref40_Window_buffer.t]
  refine st_alloc fun h1 hl1 U1 O1 => ?_
  have R1 := R.upd U1 (fun h => h)
  refine st_nil (st_fld (st_load R1 rfl rfl (st_asI64 ?_)))
  refine withI_is (wrap_i64 (by omega) (by omega)) ?_
  refine st_nil (st_fld ?_)
  refine st_store R1 rfl (by simp) rfl rfl rfl fun h2 hl2 U2 R2 => ?_
  have O2 := O1.upd U2 (by omega)
  refine st_nil (st_fld (st_load R2 rfl rfl (st_asI64 ?_)))
  refine st_nil (st_fld (st_load R2 rfl rfl (st_asI64 ?_)))
  refine st_nil (st_fld (st_load R2 rfl rfl (st_asI64 ?_)))
  refine withI_is (n := ix) (by rw [show ix + 1 - 1 = ix by omega]; exact wrap_i64 (by omega) (by omega)) ?_
  refine st_storeN O2 rfl rfl rfl fun h3 hl3 U3 O3 => ?_
  refine st_loadN O3 rfl ?_
  have R3 := R2.upd U3 (by omega)
  have U : Upd (· = wid) h h3 := (((U1.mono fun _ _ h => h.elim).trans U2 fun i hi e => e).trans U3 fun i hi e => by omega)
  exact .inl (hk h3 U R3)

end Go.Proofs.Ytbmmnckklafplaa
