/- awake; WindowPlays. -/
import Derived.Test.YtbmmnckklafplaaTy4
import Derived.Test.YtbmmnckklafplaaAm20
set_option linter.unusedVariables false
set_option linter.unusedSimpArgs false
set_option linter.unusedSectionVars false
set_option maxRecDepth 20000
namespace Go.Proofs.Ytbmmnckklafplaa
open Go.GAM

theorem allL_1025 {s : List UInt8} (h : s.length = 1025) : allL 5 1 s = [(5, 1, 0, s.take 1024), (5, 1, 1, s.drop 512)] := by
  simp [allL, outsL, gapL, nw, h, List.range_succ]
theorem allL_1024 {s : List UInt8} (h : s.length = 1024) : (allL 5 1 s).length = 1 := by
  simp [allL, outsL, gapL, nw, h]

theorem awake_c {h : AHeap} {Q : AV → AHeap → Prop} (hk : Q (.b true) h) : C G_law40_awake.id [] h Q := by
  refine G_law40_awake.call ?_
  simp only [G_law40_awake.t, G_law40_awake.j0]
  have hp : ∀ h', Upd (fun _ => False) h h' → G_law40_awake.p0 (kRet h Q) true h' := fun h' U => G_law40_awake.i0 (kRet_pure rfl (Upd.ext U) hk)
  refine text_c (n := 1025) (s := 7) (by omega) (by omega) (by omega) (st_asS ?_)
  have hl := textS_len 1025 7
  generalize textS 1025 7 = s at hl ⊢
  refine All_c (by omega) fun v5 h6 U6 A6 F6 => ?_
  refine st_subs1 (hi := 1024) (by omega) ?_
  refine st_subs (lo := 512) (by omega) ?_
  refine st_build (cs := encs [(5, 1, 0, s.take 1024), (5, 1, 1, s.drop 512)]) rfl rfl fun v10 h11 hl11 U11 R11 F11 => ?_
  have A11 := A6.upd U11 fun _ _ h => h
  rw [allL_1025 hl] at A11
  refine Same_c (l := [(5, 1, 0, s.take 1024), (5, 1, 1, s.drop 512)]) A11.rd R11 (by simp) (st_asB (bif_t rfl ?_))
  refine st_subs1 (hi := 1024) (by omega) ?_
  refine All_c (by simp; omega) fun v16 h17 U17 A17 F17 => ?_
  rw [allL_1024 (by simp [hl])] at A17
  refine A17.rd.len (bif_t (by simp) ?_)
  refine All_c (by simp) fun v19 h20 U20 A20 F20 => ?_
  refine A20.rd.len (bif_t (by simp [allL, outsL, gapL, nw]) ?_)
  refine All_c (by simp) fun v22 h23 U23 A23 F23 => ?_
  refine A23.rd.len ?_
  exact hp h23 ((((U6.trans U11 fun _ _ h => h).trans U17 fun _ _ h => h).trans U20 fun _ _ h => h).trans U23 fun _ _ h => h)

/-! ### WindowPlays -/

def encStep (p : Int × Int) : List AV := [.i .i64 p.1, .i .i64 p.2]
def encSteps (l : List (Int × Int)) : List AV := l.flatMap encStep
theorem encSteps_at {l : List (Int × Int)} {j : Nat} {p : Int × Int} (h : l[j]? = some p) : (encSteps l)[j * 2 + 0]? = some (.i .i64 p.1) ∧ (encSteps l)[j * 2 + 1]? = some (.i .i64 p.2) := by
  induction l generalizing j with
  | nil => simp at h
  | cons a l ih =>
    have e : encSteps (a :: l) = .i .i64 a.1 :: .i .i64 a.2 :: encSteps l := by simp [encSteps, encStep]
    cases j with
    | zero => simp at h; subst h; simp [e]
    | succ j =>
      have h2 := ih (by simpa using h)
      rw [e, show (j + 1) * 2 + 0 = (j * 2 + 0) + 2 by omega, show (j + 1) * 2 + 1 = (j * 2 + 1) + 2 by omega]
      simpa using h2

section
variable {k d : Int} {cap : Option Nat} {id ver off wid rid : Nat} {b : ABlk} {l : List (Int × Int)} {h0 : AHeap}

structure PInv (k d : Int) (id ver off wid rid : Nat) (b : ABlk) (l : List (Int × Int)) (i : Nat) (h : AHeap) : Prop where
  arg : RdAt 2 h id ver off b (encSteps l) l.length
  st : ∃ (S : List UInt8) (ix : Nat), WIN (· = rid) h wid k d ix (nw S.length) (S.drop (nw S.length * 512)) ∧ RecAt h rid [.i .i64 k, .i .i64 d, .i .i64 (nw S.length), .i .i64 ix, .s S] ∧ S.length ≤ 3000 * i ∧ ix ≤ 10 * i
  ne : wid ≠ rid ∧ id ≠ wid ∧ id ≠ rid

theorem Plays_p4 (hn : l.length ≤ 30) {i : Nat} {h : AHeap} (hi : i < l.length) (hnext : G_law40_WindowPlays.p0 (kRet h0 Yes) k d (.sl (some ⟨id, ver, off⟩) l.length cap) (.p (some ⟨wid, 5, 0⟩)) (.p (some ⟨rid, 5, 0⟩)) (i + 1 : Nat) h) :
    G_law40_WindowPlays.p4 (kRet h0 Yes) k d (.sl (some ⟨id, ver, off⟩) l.length cap) (.p (some ⟨wid, 5, 0⟩)) (.p (some ⟨rid, 5, 0⟩)) i false h := by
  refine G_law40_WindowPlays.i4 ?_
  simp only [G_law40_WindowPlays.t4, G_law40_WindowPlays.j0]
  refine bif_f rfl (withI_is (n := ((i + 1 : Nat) : Int)) (by rw [wrap_i64 (by omega) (by omega)]; omega) hnext)

theorem Plays_p3 (hn : l.length ≤ 30) {i : Nat} {h : AHeap} (hi : i < l.length) (I : PInv k d id ver off wid rid b l (i + 1) h)
    (hnext : ∀ h, PInv k d id ver off wid rid b l (i + 1) h → G_law40_WindowPlays.p0 (kRet h0 Yes) k d (.sl (some ⟨id, ver, off⟩) l.length cap) (.p (some ⟨wid, 5, 0⟩)) (.p (some ⟨rid, 5, 0⟩)) (i + 1 : Nat) h) :
    G_law40_WindowPlays.p3 (kRet h0 Yes) k d (.sl (some ⟨id, ver, off⟩) l.length cap) (.p (some ⟨wid, 5, 0⟩)) (.p (some ⟨rid, 5, 0⟩)) i h := by
  obtain ⟨S, ix, W, R, hS, hix⟩ := I.st
  have hnl := nw_le S.length
  refine G_law40_WindowPlays.i3 ?_
  simp only [G_law40_WindowPlays.t3, G_law40_WindowPlays.j4]
  refine Size_c W (st_asI64 ?_)
  refine RSize_c R hnl (by omega) (st_asI64 ?_)
  refine bif_f (by simp) ?_
  refine Size_c W (st_asI64 ?_)
  have e : decide ((1024 : Int) ≤ ((S.drop (nw S.length * 512)).length : Int)) = false := by
    rw [List.length_drop]; simp; unfold nw; omega
  rw [e]
  exact Plays_p4 hn hi (hnext h I)

theorem Plays_p2 (hn : l.length ≤ 30) {i : Nat} {h : AHeap} (hi : i < l.length) (I : PInv k d id ver off wid rid b l (i + 1) h)
    (hnext : ∀ h, PInv k d id ver off wid rid b l (i + 1) h → G_law40_WindowPlays.p0 (kRet h0 Yes) k d (.sl (some ⟨id, ver, off⟩) l.length cap) (.p (some ⟨wid, 5, 0⟩)) (.p (some ⟨rid, 5, 0⟩)) (i + 1 : Nat) h) :
    G_law40_WindowPlays.p2 (kRet h0 Yes) k d (.sl (some ⟨id, ver, off⟩) l.length cap) (.p (some ⟨wid, 5, 0⟩)) (.p (some ⟨rid, 5, 0⟩)) i false h := by
  refine G_law40_WindowPlays.i2 ?_
  simp only [G_law40_WindowPlays.t2, G_law40_WindowPlays.j3]
  exact bif_f rfl (Plays_p3 hn hi I hnext)

theorem Plays_p1 (hn : l.length ≤ 30) {i : Nat} {h : AHeap} (hi : i < l.length) (hN : 0 ≤ l[i].2 ∧ l[i].2 ≤ 3000) (I : PInv k d id ver off wid rid b l i h)
    (hnext : ∀ h, PInv k d id ver off wid rid b l (i + 1) h → G_law40_WindowPlays.p0 (kRet h0 Yes) k d (.sl (some ⟨id, ver, off⟩) l.length cap) (.p (some ⟨wid, 5, 0⟩)) (.p (some ⟨rid, 5, 0⟩)) (i + 1 : Nat) h) :
    G_law40_WindowPlays.p1 (kRet h0 Yes) k d (.sl (some ⟨id, ver, off⟩) l.length cap) (.p (some ⟨wid, 5, 0⟩)) (.p (some ⟨rid, 5, 0⟩)) i false h := by
  obtain ⟨S, ix, W, R, hS, hix⟩ := I.st
  obtain ⟨n1, n2, n3⟩ := I.ne
  have hal := I.arg.lt
  have hrl := R.lt
  obtain ⟨c0, c1⟩ := encSteps_at (List.getElem?_eq_getElem hi)
  refine G_law40_WindowPlays.i1 ?_
  simp only [G_law40_WindowPlays.t1, G_law40_WindowPlays.j2, G_law40_WindowPlays.j3]
  obtain ⟨N, hNN⟩ : ∃ N : Nat, l[i].2 = (N : Int) := ⟨l[i].2.toNat, by omega⟩
  refine bif_f rfl ?_
  refine st_idx I.arg hi (st_fld (st_elem I.arg hi (by decide) c1 (st_asI64 ?_)))
  refine st_idx I.arg hi (st_fld (st_elem I.arg hi (by decide) c1 (st_asI64 ?_)))
  refine withI_is (wrap_i64 (by omega) (by omega)) ?_
  rw [hNN] at c1 hN ⊢
  refine text_c (n := N) (by omega) (by omega) (by omega) (st_asS ?_)
  refine st_elem I.arg hi (by decide) c1 (st_asI64 ⟨rfl, ?_⟩)
  refine st_idx I.arg hi ⟨rfl, ?_⟩
  refine st_idx I.arg hi ⟨rfl, ?_⟩
  refine st_idx I.arg hi (st_fld (st_elem I.arg hi (by decide) c0 (st_asI64 ?_)))
  have hl := textS_len N (i + N)
  generalize textS N (i + N) = s at hl ⊢
  have hd : nw (S ++ s).length - nw S.length ≤ 8 := by unfold nw; rw [List.length_append]; omega
  refine bif_both (fun e => ?_) fun e => ?_
  · refine Feed_c W (by omega) (by omega) fun v h1 U1 W1 A1 F1 => ?_
    refine RFeed_c (R.upd U1 (fun h => n1 h.symm)) (by omega) (by omega) fun v2 h2 U2 R2 A2 F2 => ?_
    have A12 := A1.upd U2 fun i hi e => by have := F1 i hi; omega
    refine Same_c (l := outsL k d (S ++ s) (nw S.length) ix (nw (S ++ s).length - nw S.length)) (by rw [outsL_len]; exact A12.rd) (by rw [outsL_len]; exact A2.rd) (by rw [outsL_len]; omega) (st_asB (bif_f rfl ?_))
    refine Plays_p3 hn hi ⟨(I.arg.upd U1 (by omega)).upd U2 (by omega), ⟨S ++ s, _, (W1.upd U2 n1 fun i hi e => .inl ⟨by omega, e⟩).mono fun i hi e => .inl ⟨by omega, e⟩, R2, by rw [List.length_append]; omega, by omega⟩, I.ne⟩ hnext
  · refine bif_both (fun e => ?_) fun e => ?_
    · refine Gap_c W (by omega) (by rw [List.length_drop]; omega) fun v h1 U1 R1 A1 F1 => ?_
      refine RGap_c (R.upd U1 (fun h => n1 h.symm)) (by omega) (by omega) fun v2 h2 U2 R2 A2 F2 => ?_
      have A12 := A1.upd U2 fun i hi e => by have := F1 i hi; omega
      have hg := gapL_len k d ix (nw S.length) (S.drop (nw S.length * 512))
      refine Same_c A12.rd A2.rd (by omega) (st_asB (bif_f rfl ?_))
      refine Plays_p3 hn hi ⟨(I.arg.upd U1 (by omega)).upd U2 (by omega), ⟨[], _, ⟨_, R1.upd U2 n1, .inl ⟨rfl, rfl, rfl⟩, fun _ h => h.elim⟩, R2, by simp, by omega⟩, I.ne⟩ hnext
    · refine Close_c W (by omega) (by rw [List.length_drop]; omega) fun v h1 U1 R1 A1 F1 => ?_
      refine RClose_c (R.upd U1 (fun h => n1 h.symm)) (by omega) (by omega) fun v2 h2 U2 R2 A2 F2 => ?_
      have A12 := A1.upd U2 fun i hi e => by have := F1 i hi; omega
      have hg := gapL_len k d ix (nw S.length) (S.drop (nw S.length * 512))
      refine Same_c A12.rd A2.rd (by omega) (st_asB (bif_f rfl ?_))
      refine All_c (by omega) fun v3 h3 U3 A3 F3 => ?_
      refine RAll_c (by omega) fun v4 h4 U4 A4 F4 => ?_
      have A34 := A3.upd U4 fun _ _ h => h
      have hg2 := gapL_len k d (nw s.length) (nw s.length) (s.drop (nw s.length * 512))
      have hn2 := nw_le' s.length
      refine Same_c A34.rd A4.rd (by unfold allL; rw [List.length_append, outsL_len]; omega) (st_asB ?_)
      have R14 := ((R1.upd U2 n1).upd U3 fun h => h).upd U4 fun h => h
      have R24 := (R2.upd U3 fun h => h).upd U4 fun h => h
      refine Plays_p2 hn hi ⟨(((I.arg.upd U1 (by omega)).upd U2 (by omega)).upd U3 fun h => h).upd U4 fun h => h, ⟨[], _, ⟨_, R14, .inl ⟨rfl, rfl, rfl⟩, fun _ h => h.elim⟩, R24, by simp, by omega⟩, I.ne⟩ hnext

theorem Plays_p1t {k d i : Int} {x2 x7 x8 : AV} {h : AHeap} : G_law40_WindowPlays.p1 (kRet h0 Yes) k d x2 x7 x8 i true h := by
  refine G_law40_WindowPlays.i1 ?_
  simp only [G_law40_WindowPlays.t1, G_law40_WindowPlays.j2, G_law40_WindowPlays.j3]
  exact bif_t rfl (awake_c (st_asB kRet_yes))

theorem Plays_p0 (hn : l.length ≤ 30) : ∀ (m i : Nat) (h : AHeap), i + m = l.length → PInv k d id ver off wid rid b l i h →
    G_law40_WindowPlays.p0 (kRet h0 Yes) k d (.sl (some ⟨id, ver, off⟩) l.length cap) (.p (some ⟨wid, 5, 0⟩)) (.p (some ⟨rid, 5, 0⟩)) i h := by
  intro m
  induction m with
  | zero =>
    intro i h hi I
    refine G_law40_WindowPlays.i0 ?_
    simp only [G_law40_WindowPlays.t0, G_law40_WindowPlays.j1]
    exact st_len (bif_f (by simp; omega) (awake_c (st_asB kRet_yes)))
  | succ m ih =>
    intro i h hi I
    have hlt : i < l.length := by omega
    obtain ⟨c0, c1⟩ := encSteps_at (List.getElem?_eq_getElem hlt)
    refine G_law40_WindowPlays.i0 ?_
    simp only [G_law40_WindowPlays.t0, G_law40_WindowPlays.j1]
    refine st_len (bif_t (by simp; omega) ?_)
    refine st_idx I.arg hlt (st_fld (st_elem I.arg hlt (by decide) c1 (st_asI64 ?_)))
    refine bif_both (fun e => Plays_p1t) fun e => ?_
    refine st_idx I.arg hlt (st_fld (st_elem I.arg hlt (by decide) c1 (st_asI64 ?_)))
    by_cases h3 : (3000 : Int) < l[i].2
    · rw [decide_eq_true h3]; exact Plays_p1t
    · rw [decide_eq_false h3]
      simp only [decide_eq_false_iff_not] at e
      exact Plays_p1 hn hlt ⟨by omega, by omega⟩ I fun h I => ih (i + 1) h (by omega) I

end

/-- The law, in the abstract machine. -/
theorem WindowPlays_c {h : AHeap} {k d : Int} {v : AV} {l : List (Int × Int)} (R : SArg 2 h v (encSteps l) l.length) : C G_law40_WindowPlays.id [.i .i64 k, .i .i64 d, v] h Yes := by
  refine G_law40_WindowPlays.call ?_
  simp only [G_law40_WindowPlays.t, G_law40_WindowPlays.j0]
  refine R.len (bif_both (fun e => awake_c (st_asB kRet_yes)) fun e => ?_)
  simp only [decide_eq_false_iff_not] at e
  refine New_c fun h1 hl1 U1 R1 => eqNil26 (st_asB (bif_f rfl ?_))
  refine RNew_c fun h2 hl2 U2 R2 => ?_
  have R12 := R1.upd U2 fun h => h
  rcases R with (⟨rfl, hl, _⟩ | ⟨id, ver, off, cap, b, rfl, g1, g2, g3, g4, g5, g6⟩) | ⟨_, _, a, c, rfl⟩
  rotate_left 2
  · refine G_law40_WindowPlays.i0 ?_
    simp only [G_law40_WindowPlays.t0, G_law40_WindowPlays.j1]
    exact st_len (bif_f (by simp) (awake_c (st_asB kRet_yes)))
  · refine G_law40_WindowPlays.i0 ?_
    simp only [G_law40_WindowPlays.t0, G_law40_WindowPlays.j1]
    exact st_len (bif_f (by simp) (awake_c (st_asB kRet_yes)))
  · have A : RdAt 2 h id ver off b (encSteps l) l.length := ⟨g1, g2, g3, g4, g5, g6⟩
    have hlt := A.lt
    exact Plays_p0 (b := b) (by omega) l.length 0 h2 (by omega) ⟨(A.upd U1 fun h => h).upd U2 fun h => h, ⟨[], 0, ⟨_, R12, .inl ⟨rfl, rfl, rfl⟩, fun _ h => h.elim⟩, R2, by simp, by simp⟩, by omega, by omega, by omega⟩

end Go.Proofs.Ytbmmnckklafplaa
