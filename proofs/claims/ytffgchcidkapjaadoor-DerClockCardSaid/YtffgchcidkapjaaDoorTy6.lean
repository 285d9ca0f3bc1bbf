/- Checking values. -/
import Derived.Test.YtffgchcidkapjaaDoorTy5
set_option linter.unusedVariables false
set_option linter.unusedSimpArgs false
set_option linter.unusedSectionVars false
set_option maxRecDepth 20000
namespace Go.Proofs.YtffgchcidkapjaaDoor
open Go.GAM Go.RowKit

mutual
def chkV : Nat → Nat → Der → Int × Nat
  | lvl, n, .mk c t m s ks => if c < 0 ∨ 3 < c ∨ t < 0 ∨ 30 < t then (4, n + 1) else
    if (m = true ∧ s ≠ []) ∨ (m = false ∧ ks ≠ []) then (13, n + 1) else
    if 24 < lvl then (9, n + 1) else if 256 < n + 1 then (3, n + 1) else chkK (lvl + 1) (n + 1) ks
def chkK : Nat → Nat → List Der → Int × Nat
  | _, n, [] => (0, n)
  | lvl, n, k :: r => if (chkV lvl n k).1 ≠ 0 then chkV lvl n k else chkK lvl (chkV lvl n k).2 r
end

theorem chk_n : ∀ m, (∀ (d : Der) (lvl n : Nat), d.sz ≤ m → (chkV lvl n d).1 = 0 → (chkV lvl n d).2 ≤ 256) ∧ (∀ (ks : List Der) (lvl n : Nat), szs ks ≤ m → (chkK lvl n ks).1 = 0 → (chkK lvl n ks).2 ≤ n ∨ (chkK lvl n ks).2 ≤ 256) := by
  intro m
  induction m with
  | zero =>
    refine ⟨fun d lvl n hd => absurd hd (by have := szs_pos d; omega), fun ks lvl n hk _ => ?_⟩
    cases ks with
    | nil => unfold chkK; exact .inl (Nat.le_refl _)
    | cons k r => have := szs_pos k; unfold szs at hk; omega
  | succ m ih =>
    have hV : ∀ (d : Der) (lvl n : Nat), d.sz ≤ m + 1 → (chkV lvl n d).1 = 0 → (chkV lvl n d).2 ≤ 256 := by
      intro d lvl n hd h
      obtain ⟨c, t, mm, s, ks⟩ := d
      unfold Der.sz at hd
      unfold chkV at h ⊢
      split at h
      · cases h
      rename_i c1
      split at h
      · cases h
      rename_i c2
      split at h
      · cases h
      rename_i c3
      split at h
      · cases h
      rename_i c4
      rw [if_neg c1, if_neg c2, if_neg c3, if_neg c4]
      have := ih.2 ks (lvl + 1) (n + 1) (by omega) h
      omega
    refine ⟨hV, fun ks => ?_⟩
    induction ks with
    | nil => intro lvl n _ _; unfold chkK; exact .inl (Nat.le_refl _)
    | cons k r ihr =>
      intro lvl n hk h
      unfold szs at hk
      unfold chkK at h ⊢
      split at h
      · rename_i h1; exact absurd h h1
      · rename_i h1
        rw [if_neg h1]
        have h1 : (chkV lvl n k).1 = 0 := by simpa using h1
        have := hV k lvl n (by omega) h1
        have := ihr lvl _ (by omega) h
        omega

section
variable {h0 : AHeap}

theorem chk_step {k : Der} {r : List Der} {lvl n : Nat} : chkK lvl n (k :: r) = if (chkV lvl n k).1 ≠ 0 then chkV lvl n k else chkK lvl (chkV lvl n k).2 r := by
  rw [chkK]

/-! ### the reference's -/

theorem Rcheck_n : ∀ m, m ≤ 1000000 → ∀ (d : Der) (cs : List AV) (F : Nat → Prop) (lvl n id0 : Nat) (h : AHeap) (Q : AV → AHeap → Prop), d.sz ≤ m → lvl ≤ 1000 → n ≤ 256 → RecAt h id0 [.i .i64 (n : Int)] → DV h F d cs → (∀ i, F i → i ≠ id0) →
    (∀ h', Upd (· = id0) h h' → RecAt h' id0 [.i .i64 ((chkV lvl n d).2 : Int)] → Q (.i .i64 (chkV lvl n d).1) h') → C G_ref33_Count_check.id [.p (some ⟨id0, 1, 0⟩), .ag cs, .i .i64 (lvl : Int)] h Q := by
  intro m
  induction m with
  | zero => intro _ d cs F lvl n id0 h Q hd; have := szs_pos d; omega
  | succ m ih =>
    intro hm d cs F lvl n id0 h Q hd hlv hn R D hF hq
    cases D with
    | @mk c t mm s ks v rows Dk sv fv ov =>
    refine G_ref33_Count_check.call ?_
    simp only [G_ref33_Count_check.t, G_ref33_Count_check.j0]
    unfold Der.sz at hd
    have hkl := szs_len ks
    have hln := Dk.length
    have id0l := R.lt
    refine st_box rfl fun h1 hl1 U1 B => ?_
    have R1 := R.upd U1 fun h => h
    refine st_nil (st_fld (st_load R1 rfl rfl (st_asI (inc (by omega) (st_nil (st_fld (st_store R1 rfl (by simp) rfl rfl rfl fun h2 hl2 U2 R2 => ?_)))))))
    have R2 : RecAt h2 id0 [.i .i64 ((n + 1 : Nat) : Int)] := R2
    have B := B.upd U2 (by omega)
    have U : Upd (· = id0) h h2 := (U1.mono fun _ _ h => h.elim).trans U2 fun _ _ h => h
    have S2 := sv.upd U fun i hs _ => hF i (fv i hs).1
    have D2 := Dk.upd (F' := F) U fun i hi _ => ⟨hF i hi, hi⟩
    unfold chkV at hq
    have lens : ∀ K : Int → Prop, K (ks.length : Int) → pLenSl v K := fun K hk => S2.len (by rw [← hln]; exact hk)
    have hks : ∀ k ∈ ks, k.sz ≤ m := fun k hk => by have := szs_mem hk; omega
    have goK : 24 < lvl ∨ ∀ (r : List Der) (i n2 : Nat) (h2 : AHeap), ks.drop i = r → i ≤ ks.length → n2 ≤ 256 → Upd (· = id0) h h2 → RecAt h2 h.length [.i .i64 c, .i .i64 t, .b mm, .s s, v] → RecAt h2 id0 [.i .i64 (n2 : Int)] →
        (∀ h', Upd (· = id0) h h' → RecAt h' id0 [.i .i64 ((chkK (lvl + 1) n2 r).2 : Int)] → Q (.i .i64 (chkK (lvl + 1) n2 r).1) h') → G_ref33_Count_check.p2 (kRet h Q) (.p (some ⟨id0, 1, 0⟩)) lvl (.p (some ⟨h.length, 5, 0⟩)) i h2 := by
      by_cases h24 : 24 < lvl
      · exact .inl h24
      refine .inr ?_
      intro r
      induction r with
      | nil =>
        intro i n2 h2 hr hi hn2 U B R hk
        have hle := drop_end hr
        have S2 := sv.upd U fun i hs _ => hF i (fv i hs).1
        refine G_ref33_Count_check.i2 ?_
        simp only [G_ref33_Count_check.t2, G_ref33_Count_check.j2]
        refine st_fld (st_load B rfl rfl (S2.len (bif_f (by simp; omega) (.inl ?_))))
        have := hk h2 U (by unfold chkK; exact R)
        unfold chkK at this
        exact this
      | cons k r ihr =>
        intro i n2 h2 hr hi hn2 U B R hk
        have hlt := drop_lt hr
        have hn' := drop_next hr
        have hki := at_of_drop hr
        have S2 := sv.upd U fun i hs _ => hF i (fv i hs).1
        have D2 := Dk.upd (F' := F) U fun i hi _ => ⟨hF i hi, hi⟩
        obtain ⟨r1, g1, e1⟩ := D2.get hki
        obtain ⟨id1, ver1, off1, cap1, b1, rfl, A1⟩ := S2.at (by omega)
        have q1 := rows_get rows i r1 D2.len5 g1
        have hk0 := List.mem_of_getElem? hki
        refine G_ref33_Count_check.i2 ?_
        simp only [G_ref33_Count_check.t2, G_ref33_Count_check.j2]
        refine st_fld (st_load B rfl rfl (S2.len (bif_t (by simp; omega) ?_)))
        refine st_fld (st_load B rfl rfl (st_idx A1 (by omega) (st_elemN A1 (by omega) q1 (inc (by omega) ?_))))
        refine ih (by omega) k r1 F (lvl + 1) n2 id0 h2 _ (hks k hk0) (by omega) hn2 R e1 hF fun h3 U3 R3 => st_asI ?_
        have UU := U.trans U3 fun _ _ h => h
        have B := B.upd U3 (by omega)
        rw [chk_step] at hk
        by_cases he : (chkV (lvl + 1) n2 k).1 ≠ 0
        · rw [if_pos he] at hk
          exact bif_t (by simp [he]) (.inl (hk h3 UU R3))
        · rw [if_neg he] at hk
          have he0 : (chkV (lvl + 1) n2 k).1 = 0 := by simpa using he
          refine bif_f (by simp [he0]) (inc (by omega) ?_)
          exact ihr (i + 1) _ h3 hn' (by omega) ((chk_n k.sz).1 k _ _ (Nat.le_refl _) he0) UU B R3 hk
    have p1 : ¬ (c < 0 ∨ 3 < c ∨ t < 0 ∨ 30 < t) → ∀ b, b = decide ((mm = true ∧ s ≠ []) ∨ (mm = false ∧ ks ≠ [])) → G_ref33_Count_check.p1 (kRet h Q) (.p (some ⟨id0, 1, 0⟩)) lvl (.p (some ⟨h.length, 5, 0⟩)) b h2 := by
      intro c1 b hb
      rw [if_neg c1] at hq
      refine G_ref33_Count_check.i1 ?_
      simp only [G_ref33_Count_check.t1, G_ref33_Count_check.j2]
      refine bif_both (fun e => ?_) fun e => ?_
      · subst e
        rw [if_pos (by simpa using hb.symm)] at hq
        exact .inl (hq h2 U R2)
      · subst e
        rw [if_neg (of_decide_eq_false hb.symm)] at hq
        by_cases c3 : 24 < lvl
        · rw [if_pos c3] at hq
          exact bif_t (by simp; omega) (.inl (hq h2 U R2))
        rw [if_neg c3] at hq
        refine bif_f (by simp; omega) (st_nil (st_fld (st_load R2 rfl rfl (st_asI ?_))))
        by_cases c4 : 256 < n + 1
        · rw [if_pos c4] at hq
          exact bif_t (by simp; omega) (.inl (hq h2 U R2))
        rw [if_neg c4] at hq
        refine bif_f (by simp; omega) ?_
        exact goK.resolve_left c3 ks 0 (n + 1) h2 rfl (by omega) (by omega) U B R2 hq
    have p0 : ∀ b, b = decide (c < 0 ∨ 3 < c ∨ t < 0 ∨ 30 < t) → G_ref33_Count_check.p0 (kRet h Q) (.p (some ⟨id0, 1, 0⟩)) lvl (.p (some ⟨h.length, 5, 0⟩)) b h2 := by
      intro b hb
      refine G_ref33_Count_check.i0 ?_
      simp only [G_ref33_Count_check.t0, G_ref33_Count_check.j1]
      refine bif_both (fun e => ?_) fun e => ?_
      · subst e
        rw [if_pos (by simpa using hb.symm)] at hq
        exact .inl (hq h2 U R2)
      · subst e
        have p1 := p1 (of_decide_eq_false hb.symm)
        refine st_fld (st_load B rfl rfl (st_asB ?_))
        cases mm with
        | true =>
          refine bif_t rfl (st_fld (st_load B rfl rfl (st_asS ?_)))
          refine bif_both (fun e => p1 _ ?_) fun e => st_fld (st_load B rfl rfl (st_asB (bif_f rfl (p1 _ ?_))))
          · have : s ≠ [] := by simpa using e
            simp [this]
          · have : s = [] := by simpa using e
            simp [this]
        | false =>
          refine bif_f rfl (st_fld (st_load B rfl rfl (st_asB (bif_t rfl (st_fld (st_load B rfl rfl (lens _ (p1 _ ?_))))))))
          rw [decide_eq_decide]
          simp only [Bool.false_eq_true, false_and, true_and, false_or]
          rw [← List.length_pos_iff]; omega
    refine st_fld (st_load B rfl rfl (st_asI ?_))
    refine bif_both (fun e => p0 _ ?_) fun e1 => st_fld (st_load B rfl rfl (st_asI ?_))
    · simp only [decide_eq_true_eq] at e
      simp [e]
    refine bif_both (fun e => p0 _ ?_) fun e2 => st_fld (st_load B rfl rfl (st_asI ?_))
    · simp only [decide_eq_true_eq] at e
      simp [e]
    refine bif_both (fun e => p0 _ ?_) fun e3 => st_fld (st_load B rfl rfl (st_asI (p0 _ ?_)))
    · simp only [decide_eq_true_eq] at e
      simp [e]
    simp only [decide_eq_false_iff_not] at e1 e2 e3
    rw [decide_eq_decide]; omega

/-! ### the program's -/

theorem check_n : ∀ m, m ≤ 1000000 → ∀ (d : Der) (cs : List AV) (F : Nat → Prop) (lvl n id0 : Nat) (h : AHeap) (Q : AV → AHeap → Prop), d.sz ≤ m → lvl ≤ 1000 → n ≤ 256 → RecAt h id0 [.i .i64 (n : Int)] → DV h F d cs → (∀ i, F i → i ≠ id0) →
    (∀ h', Upd (· = id0) h h' → RecAt h' id0 [.i .i64 ((chkV lvl n d).2 : Int)] → Q (.i .i64 (chkV lvl n d).1) h') → C G_der_reader_check.id [.p (some ⟨id0, 1, 0⟩), .ag cs, .i .i64 (lvl : Int)] h Q := by
  intro m
  induction m with
  | zero => intro _ d cs F lvl n id0 h Q hd; have := szs_pos d; omega
  | succ m ih =>
    intro hm d cs F lvl n id0 h Q hd hlv hn R D hF hq
    cases D with
    | @mk c t mm s ks v rows Dk sv fv ov =>
    refine G_der_reader_check.call ?_
    simp only [G_der_reader_check.t, G_der_reader_check.j0]
    unfold Der.sz at hd
    have hkl := szs_len ks
    have hln := Dk.length
    have id0l := R.lt
    refine st_box rfl fun h1 hl1 U1 BP => st_box rfl fun h2 hl2 U2 B => st_box rfl fun h3 hl3 U3 BL => ?_
    have U03 : Upd (fun _ => False) h h3 := (U1.trans U2 fun _ _ h => h).trans U3 fun _ _ h => h
    have R3 := R.upd U03 fun h => h
    have BP := (BP.upd U2 fun h => h).upd U3 fun h => h
    have B := B.upd U3 fun h => h
    refine st_load BP rfl rfl ?_
    refine st_nil (st_fld (st_load R3 rfl rfl (st_asI (inc (by omega) (st_nil (st_fld (st_store R3 rfl (by simp) rfl rfl rfl fun h4 hl4 U4 R4 => ?_)))))))
    have R4 : RecAt h4 id0 [.i .i64 ((n + 1 : Nat) : Int)] := R4
    have BP := BP.upd U4 (by omega)
    have B := B.upd U4 (by omega)
    have BL := BL.upd U4 (by omega)
    have U : Upd (· = id0) h h4 := (U03.mono fun _ _ h => h.elim).trans U4 fun _ _ h => h
    have S4 := sv.upd U fun i hs _ => hF i (fv i hs).1
    unfold chkV at hq
    have lens : ∀ K : Int → Prop, K (ks.length : Int) → pLenSl v K := fun K hk => S4.len (by rw [← hln]; exact hk)
    have hks : ∀ k ∈ ks, k.sz ≤ m := fun k hk => by have := szs_mem hk; omega
    have p1 : ¬ (c < 0 ∨ 3 < c ∨ t < 0 ∨ 30 < t) → ∀ b, b = decide ((mm = true ∧ s ≠ []) ∨ (mm = false ∧ ks ≠ [])) → G_der_reader_check.p1 (kRet h Q) (.p (some ⟨h.length, 1, 0⟩)) (.p (some ⟨h1.length, 5, 0⟩)) (.p (some ⟨h2.length, 1, 0⟩)) b h4 := by
      intro c1 b hb
      rw [if_neg c1] at hq
      refine G_der_reader_check.i1 ?_
      simp only [G_der_reader_check.t1]
      refine bif_both (fun e => ?_) fun e => ?_
      · subst e
        rw [if_pos (by simpa using hb.symm)] at hq
        exact .inl (hq h4 U R4)
      · subst e
        rw [if_neg (of_decide_eq_false hb.symm)] at hq
        refine st_load BL rfl rfl (st_asI ?_)
        by_cases c3 : 24 < lvl
        · rw [if_pos c3] at hq
          exact bif_t (by simp; omega) (.inl (hq h4 U R4))
        rw [if_neg c3] at hq
        refine bif_f (by simp; omega) (st_load BP rfl rfl (st_nil (st_fld (st_load R4 rfl rfl (st_asI ?_)))))
        by_cases c4 : 256 < n + 1
        · rw [if_pos c4] at hq
          exact bif_t (by simp; omega) (.inl (hq h4 U R4))
        rw [if_neg c4] at hq
        refine bif_f (by simp; omega) (st_alloc fun h5 hl5 U5 RE => st_store RE rfl (by simp) rfl rfl rfl fun h6 hl6 U6 RE => ?_)
        have RE : RecAt h6 h4.length [.i .i64 0] := RE
        have BP := (BP.upd U5 fun h => h).upd U6 (by omega)
        have B := (B.upd U5 fun h => h).upd U6 (by omega)
        have BL := (BL.upd U5 fun h => h).upd U6 (by omega)
        have R6 := (R4.upd U5 fun h => h).upd U6 (by omega)
        have U6 : Upd (· = id0) h h6 := (U.trans U5 fun _ _ h => h.elim).trans U6 fun i hi he => absurd he (by omega)
        refine st_fld (st_load B rfl rfl ?_)
        have S6 := sv.upd U6 fun i hs _ => hF i (fv i hs).1
        refine G_der_all_api_Der_.call ?_
        simp only [G_der_all_api_Der_.t, G_der_all_api_Der_.j0]
        refine S6.len ?_
        rw [← hln]
        -- behind the call of all
        generalize hK : (fun (v76 : AV) (h77 : AHeap) => asB v76 fun c78 => pLoad1 (.p (some ⟨h4.length, 1, 0⟩)) h77 fun v80 => asI .i64 v80 fun n81 => kRet h Q (.i .i64 n81) h77) = K
        have hKe : ∀ b (h7 : AHeap) (e : Int) (n' : Nat), Upd (· = id0) h h7 → RecAt h7 h4.length [.i .i64 e] → RecAt h7 id0 [.i .i64 (n' : Int)] → (∀ h', Upd (· = id0) h h' → RecAt h' id0 [.i .i64 (n' : Int)] → Q (.i .i64 e) h') → K (.b b) h7 := by
          intro b h7 e n' U7 RE R7 hq
          rw [← hK]
          exact st_asB (st_load RE rfl rfl (st_asI (.inl (hq h7 U7 R7))))
        clear hK
        have go : ∀ (r : List Der) (i n2 : Nat) (hh : AHeap), ks.drop i = r → i ≤ ks.length → n2 ≤ 256 → Upd (· = id0) h hh → h6.length ≤ hh.length → RecAt hh h.length [.p (some ⟨id0, 1, 0⟩)] → RecAt hh h2.length [.i .i64 (lvl : Int)] → RecAt hh h4.length [.i .i64 0] → RecAt hh id0 [.i .i64 (n2 : Int)] →
            (∀ h', Upd (· = id0) h h' → RecAt h' id0 [.i .i64 ((chkK (lvl + 1) n2 r).2 : Int)] → Q (.i .i64 (chkK (lvl + 1) n2 r).1) h') →
            G_der_all_api_Der_.p0 (kRet h6 K) (.fn (.func G_der_reader_check_1.id) [] [.p (some ⟨h.length, 1, 0⟩), .p (some ⟨h2.length, 1, 0⟩), .p (some ⟨h4.length, 1, 0⟩)]) v ks.length i hh := by
          intro r
          induction r with
          | nil =>
            intro i n2 hh hr hi hn2 U hlh BP BL RE R hk
            have hle := drop_end hr
            refine G_der_all_api_Der_.i0 ?_
            simp only [G_der_all_api_Der_.t0]
            refine bif_f (by simp; omega) (.inl (hKe true hh 0 n2 U RE R ?_))
            unfold chkK at hk
            exact hk
          | cons k r ihr =>
            intro i n2 hh hr hi hn2 U hlh BP BL RE R hk
            have hlt := drop_lt hr
            have hn' := drop_next hr
            have hki := at_of_drop hr
            have S2 := sv.upd U fun i hs _ => hF i (fv i hs).1
            have D2 := Dk.upd (F' := fun i => F i ∧ i < h.length) U fun i hi hl => ⟨hF i hi, hi, hl⟩
            obtain ⟨r1, g1, e1⟩ := D2.get hki
            obtain ⟨id1, ver1, off1, cap1, b1, rfl, A1⟩ := S2.at (by omega)
            have q1 := rows_get rows i r1 D2.len5 g1
            have hk0 := List.mem_of_getElem? hki
            refine G_der_all_api_Der_.i0 ?_
            simp only [G_der_all_api_Der_.t0, G_der_all_api_Der_.j0]
            refine bif_t (by simp; omega) (st_idx A1 (by omega) (st_elemN A1 (by omega) q1 ?_))
            refine st_alloc fun g1 gl1 V1 RK => st_storeN RK rfl e1.len e1.cells fun g2 gl2 V2 RK => st_loadN RK e1.len.symm ?_
            have V12 : Upd (fun _ => False) hh g2 := (V1.mono (M' := fun i => i = hh.length) fun _ _ h => h.elim).trans V2 (fun _ _ h => h) |>.mono fun i hi he => by omega
            refine callV_c rfl ?_
            show C G_der_reader_check_1.id [.ag r1, .p (some ⟨h.length, 1, 0⟩), .p (some ⟨h2.length, 1, 0⟩), .p (some ⟨h4.length, 1, 0⟩)] g2 _
            refine G_der_reader_check_1.call ?_
            simp only [G_der_reader_check_1.t]
            refine st_box rfl fun g3 gl3 V3 RB => ?_
            have V13 : Upd (fun _ => False) hh g3 := V12.trans V3 fun _ _ h => h
            have BP3 := BP.upd V13 fun h => h
            have BL3 := BL.upd V13 fun h => h
            have RE3 := RE.upd V13 fun h => h
            have R3 := R.upd V13 fun h => h
            have e3 := e1.ext V13
            have RB : RecAt g3 g2.length r1 := RB
            refine st_load BP3 rfl rfl ?_
            have eP : (AV.ag r1).parts.length = 5 := e1.len
            rw [eP]
            refine st_loadN RB e1.len.symm (st_load BL3 rfl rfl (st_asI (inc (by omega) ?_)))
            refine ih (by omega) k r1 (fun i => F i ∧ i < h.length) (lvl + 1) n2 id0 g3 _ (hks k hk0) (by omega) hn2 R3 e3 (fun i hi => hF i hi.1) fun g4 V4 R4 => st_asI ?_
            have gg := V4.1
            have RE4 := RE3.upd V4 (by omega)
            refine st_store RE4 rfl (by simp) rfl rfl rfl fun g5 gl5 V5 RE5 => st_load RE5 rfl rfl (st_asI (.inl (st_asB ?_)))
            have RE5 : RecAt g5 h4.length [.i .i64 (chkV (lvl + 1) n2 k).1] := RE5
            have R5 := R4.upd V5 (by omega)
            have BP5 := (BP3.upd V4 (by omega)).upd V5 (by omega)
            have BL5 := (BL3.upd V4 (by omega)).upd V5 (by omega)
            have UU : Upd (· = id0) h g5 := ((U.trans V13 fun _ _ h => h.elim).trans V4 fun _ _ h => h).trans V5 fun i hi he => absurd he (by omega)
            have gg2 := V13.1
            rw [chk_step] at hk
            by_cases he : (chkV (lvl + 1) n2 k).1 ≠ 0
            · rw [if_pos he] at hk
              exact bif_t (by simp [he]) (.inl (hKe false g5 _ _ UU RE5 R5 hk))
            · rw [if_neg he] at hk
              have he0 : (chkV (lvl + 1) n2 k).1 = 0 := by simpa using he
              rw [he0] at RE5
              refine bif_f (by simp [he0]) (inc (by omega) ?_)
              exact ihr (i + 1) _ g5 hn' (by omega) ((chk_n k.sz).1 k _ _ (Nat.le_refl _) he0) UU (by omega) BP5 BL5 RE5 R5 hk
        exact go ks 0 (n + 1) h6 rfl (by omega) (by omega) U6 (Nat.le_refl _) BP BL RE R6 hq
    have p0 : ∀ b, b = decide (c < 0 ∨ 3 < c ∨ t < 0 ∨ 30 < t) → G_der_reader_check.p0 (kRet h Q) (.p (some ⟨h.length, 1, 0⟩)) (.p (some ⟨h1.length, 5, 0⟩)) (.p (some ⟨h2.length, 1, 0⟩)) b h4 := by
      intro b hb
      refine G_der_reader_check.i0 ?_
      simp only [G_der_reader_check.t0, G_der_reader_check.j1]
      refine bif_both (fun e => ?_) fun e => ?_
      · subst e
        rw [if_pos (by simpa using hb.symm)] at hq
        exact .inl (hq h4 U R4)
      · subst e
        have p1 := p1 (of_decide_eq_false hb.symm)
        refine st_fld (st_load B rfl rfl (st_asB ?_))
        cases mm with
        | true =>
          refine bif_t rfl (st_fld (st_load B rfl rfl (st_asS ?_)))
          refine bif_both (fun e => p1 _ ?_) fun e => st_fld (st_load B rfl rfl (st_asB (bif_f rfl (p1 _ ?_))))
          · have : s ≠ [] := by simpa using e
            simp [this]
          · have : s = [] := by simpa using e
            simp [this]
        | false =>
          refine bif_f rfl (st_fld (st_load B rfl rfl (st_asB (bif_t rfl (st_fld (st_load B rfl rfl (lens _ (p1 _ ?_))))))))
          rw [decide_eq_decide]
          simp only [Bool.false_eq_true, false_and, true_and, false_or]
          rw [← List.length_pos_iff]; omega
    refine st_fld (st_load B rfl rfl (st_asI ?_))
    refine bif_both (fun e => p0 _ ?_) fun e1 => st_fld (st_load B rfl rfl (st_asI ?_))
    · simp only [decide_eq_true_eq] at e
      simp [e]
    refine bif_both (fun e => p0 _ ?_) fun e2 => st_fld (st_load B rfl rfl (st_asI ?_))
    · simp only [decide_eq_true_eq] at e
      simp [e]
    refine bif_both (fun e => p0 _ ?_) fun e3 => st_fld (st_load B rfl rfl (st_asI (p0 _ ?_)))
    · simp only [decide_eq_true_eq] at e
      simp [e]
    simp only [decide_eq_false_iff_not] at e1 e2 e3
    rw [decide_eq_decide]; omega

end
end Go.Proofs.YtffgchcidkapjaaDoor
