/- The transforms, further: hex, percent, lower; the reference's strip. -/
import Derived.Test.YtbphaelhhfkdiaaDoorTy1
set_option linter.unusedVariables false
set_option linter.unusedSimpArgs false
set_option linter.unusedSectionVars false
set_option maxRecDepth 20000
namespace Go.Proofs.YtbphaelhhfkdiaaDoor
open Go.GAM

/-- i + 1 -/
theorem inc {i : Nat} {K : Int → Prop} (h : i ≤ 1000000000) (hk : K ((i + 1 : Nat) : Int)) : withI (IntKind.wrap .i64 ((i : Int) + 1)) K :=
  withI_is (n := ((i + 1 : Nat) : Int)) (by rw [wrap_i64 (by omega) (by omega)]; omega) hk
theorem inc2 {i : Nat} {K : Int → Prop} (h : i ≤ 1000000000) (hk : K ((i + 2 : Nat) : Int)) : withI (IntKind.wrap .i64 ((i : Int) + 2)) K :=
  withI_is (n := ((i + 2 : Nat) : Int)) (by rw [wrap_i64 (by omega) (by omega)]; omega) hk
theorem u8_of {n : Int} (h0 : 0 ≤ n) (h1 : n < 256) : n = ((UInt8.ofNat n.toNat).toNat : Int) := by
  rw [UInt8.toNat_ofNat']; omega

theorem digS_nat {a b : UInt8} (ha : 0 ≤ digS a) (hb : 0 ≤ digS b) : 0 ≤ 16 * digS a + digS b ∧ 16 * digS a + digS b < 256 := by
  have := digS_bd a; have := digS_bd b; omega

section
variable [XR] {s : List UInt8} {h0 : AHeap} {Q : AV → AHeap → Prop}

theorem Rstrip_p0 (hs : s.length ≤ 100000) : ∀ (r : List UInt8) (i : Nat) (v : AV) (l : List UInt8) (h : AHeap), s.drop i = r → l.length ≤ i → Tx h0 h v l → Q (.s (l ++ stripS r)) h0 → G_ref26_strip.p0 (kRet h0 Q) s v i h := by
  intro r
  induction r with
  | nil =>
    intro i v l h hr hl T hq
    have := drop_end hr
    refine G_ref26_strip.i0 ?_
    simp only [G_ref26_strip.t0, G_ref26_strip.j1]
    exact bif_f (by simp; omega) (T.ret (by simpa [stripS] using hq))
  | cons c r ih =>
    intro i v l h hr hl T hq
    have hlt := drop_lt hr
    have hn := drop_next hr
    have hc := c.toNat_lt
    have key : ∀ b, b = !white c → G_ref26_strip.p1 (kRet h0 Q) s v i b h := by
      intro b hb
      refine G_ref26_strip.i1 ?_
      simp only [G_ref26_strip.t1, G_ref26_strip.j2]
      refine bif_both (fun e => ?_) fun e => ?_
      · refine st_at hr (T.push (by omega) fun v' h' T' => ?_)
        refine G_ref26_strip.i2 ?_
        simp only [G_ref26_strip.t2, G_ref26_strip.j0]
        refine inc (by omega) (ih (i + 1) v' _ h' hn (by simp; omega) T' ?_)
        rw [e] at hb
        simpa [stripS, ← hb] using hq
      · refine G_ref26_strip.i2 ?_
        simp only [G_ref26_strip.t2, G_ref26_strip.j0]
        refine inc (by omega) (ih (i + 1) v l h hn (by omega) T ?_)
        rw [e] at hb
        simpa [stripS, ← hb] using hq
    have hw : ∀ n : UInt8, (c == n) = decide ((c.toNat : Int) = (n.toNat : Int)) := fun n => by
      rw [Bool.eq_iff_iff]
      simp [UInt8.toNat_inj]
      constructor
      · rintro rfl; rfl
      · intro h; exact UInt8.toNat_inj.1 (by omega)
    have hw' : white c = (decide ((c.toNat : Int) = 9) || decide ((c.toNat : Int) = 10) || decide ((c.toNat : Int) = 13) || decide ((c.toNat : Int) = 32)) := by
      unfold white; rw [hw 9, hw 10, hw 13, hw 32]; rfl
    refine G_ref26_strip.i0 ?_
    simp only [G_ref26_strip.t0, G_ref26_strip.j1]
    refine bif_t (by simp; omega) (st_at hr ?_)
    refine bif_both (fun e => st_at hr ?_) fun e => key _ ?_
    · refine bif_both (fun e2 => st_at hr ?_) fun e2 => key _ ?_
      · refine bif_both (fun e3 => st_at hr (key _ ?_)) fun e3 => key _ ?_
        · rw [hw']; simp only [Bool.not_eq_true'] at e e2 e3; rw [e, e2, e3]; simp
        · rw [hw']; simp only [Bool.not_eq_false'] at e3; rw [e3]; simp
      · rw [hw']; simp only [Bool.not_eq_false'] at e2; rw [e2]; simp
    · rw [hw']; simp only [Bool.not_eq_false'] at e; rw [e]; simp

theorem Rstrip_c {h : AHeap} (hs : s.length ≤ 100000) (hk : Q (.s (stripS s)) h) : C G_ref26_strip.id [.s s] h Q := by
  refine G_ref26_strip.call ?_
  simp only [G_ref26_strip.t, G_ref26_strip.j0]
  exact Tx.empty fun v h' T => Rstrip_p0 hs s 0 _ [] h' rfl (by simp) T hk

/-! ### hex -/

theorem hex_p1 {i : Nat} {hi : Int} {v : AV} {h : AHeap} (hi' : i ≤ 1000000) (hk : G_transform_text_hex.p0 (kRet h0 Q) s v hi s.length (i + 1 : Nat) h) : G_transform_text_hex.p1 (kRet h0 Q) s v hi s.length i h := by
  refine G_transform_text_hex.i1 ?_
  simp only [G_transform_text_hex.t1, G_transform_text_hex.j0]
  exact inc (by omega) hk

theorem hex_p0 (hs : s.length ≤ 100000) : ∀ (r : List UInt8) (i : Nat) (hi : Int) (v : AV) (l : List UInt8) (h : AHeap), s.drop i = r → -1 ≤ hi → hi ≤ 15 → l.length ≤ i → Tx h0 h v l → Q (.s (l ++ hexS hi r)) h0 → G_transform_text_hex.p0 (kRet h0 Q) s v hi s.length i h := by
  intro r
  induction r with
  | nil =>
    intro i hi v l h hr b0 b1 hl T hq
    have := drop_end hr
    refine G_transform_text_hex.i0 ?_
    simp only [G_transform_text_hex.t0, G_transform_text_hex.j1]
    exact bif_f (by simp; omega) (T.ret (by simpa [hexS] using hq))
  | cons c r ih =>
    intro i hi v l h hr b0 b1 hl T hq
    have hlt := drop_lt hr
    have hn := drop_next hr
    have hd := digS_bd c
    refine G_transform_text_hex.i0 ?_
    simp only [G_transform_text_hex.t0, G_transform_text_hex.j1]
    refine bif_t (by simp; omega) (st_at hr (digit_c (st_asI64 ?_)))
    refine bif_both (fun e => ?_) fun e => ?_
    · simp only [decide_eq_true_eq] at e
      exact hex_p1 (by omega) (ih (i + 1) hi v l h hn b0 b1 (by omega) T (by simpa [hexS, e] using hq))
    · simp only [decide_eq_false_iff_not] at e
      refine bif_both (fun e2 => ?_) fun e2 => ?_
      · simp only [decide_eq_true_eq] at e2
        exact hex_p1 (by omega) (ih (i + 1) _ v l h hn hd.1 hd.2 (by omega) T (by simpa [hexS, e, e2] using hq))
      · simp only [decide_eq_false_iff_not] at e2
        refine withI_is (wrap_i64 (by omega) (by omega)) ?_
        refine withI_is (wrap_i64 (by omega) (by omega)) ?_
        rw [wrap_u8 (by omega) (by omega), u8_of (n := 16 * hi + digS c) (by omega) (by omega)]
        refine T.push (by omega) fun v' h' T' => ?_
        exact hex_p1 (by omega) (ih (i + 1) (-1) v' _ h' hn (by omega) (by omega) (by simp; omega) T' (by simpa [hexS, e, e2] using hq))

theorem hex_c {h : AHeap} (hs : s.length ≤ 100000) (hk : Q (.s (hexS (-1) s)) h) : C G_transform_text_hex.id [.s s] h Q := by
  refine G_transform_text_hex.call ?_
  simp only [G_transform_text_hex.t, G_transform_text_hex.j0]
  exact hex_p0 hs s 0 (-1) _ [] h rfl (by omega) (by omega) (by simp) (Tx.start h) hk

theorem Rhex_p1 {i : Nat} {hi : Int} {v : AV} {h : AHeap} (hi' : i ≤ 1000000) (hk : G_ref26_hex.p0 (kRet h0 Q) s v hi (i + 1 : Nat) h) : G_ref26_hex.p1 (kRet h0 Q) s v hi i h := by
  refine G_ref26_hex.i1 ?_
  simp only [G_ref26_hex.t1, G_ref26_hex.j0]
  exact inc (by omega) hk

theorem Rhex_p0 (hs : s.length ≤ 100000) : ∀ (r : List UInt8) (i : Nat) (hi : Int) (v : AV) (l : List UInt8) (h : AHeap), s.drop i = r → -1 ≤ hi → hi ≤ 15 → l.length ≤ i → Tx h0 h v l → Q (.s (l ++ hexS hi r)) h0 → G_ref26_hex.p0 (kRet h0 Q) s v hi i h := by
  intro r
  induction r with
  | nil =>
    intro i hi v l h hr b0 b1 hl T hq
    have := drop_end hr
    refine G_ref26_hex.i0 ?_
    simp only [G_ref26_hex.t0, G_ref26_hex.j1]
    exact bif_f (by simp; omega) (T.ret (by simpa [hexS] using hq))
  | cons c r ih =>
    intro i hi v l h hr b0 b1 hl T hq
    have hlt := drop_lt hr
    have hn := drop_next hr
    have hd := digS_bd c
    refine G_ref26_hex.i0 ?_
    simp only [G_ref26_hex.t0, G_ref26_hex.j1]
    refine bif_t (by simp; omega) (st_at hr (Rdigit_c (st_asI64 ?_)))
    refine bif_both (fun e => ?_) fun e => ?_
    · simp only [decide_eq_true_eq] at e
      exact Rhex_p1 (by omega) (ih (i + 1) hi v l h hn b0 b1 (by omega) T (by simpa [hexS, e] using hq))
    · simp only [decide_eq_false_iff_not] at e
      refine bif_both (fun e2 => ?_) fun e2 => ?_
      · simp only [decide_eq_true_eq] at e2
        exact Rhex_p1 (by omega) (ih (i + 1) _ v l h hn hd.1 hd.2 (by omega) T (by simpa [hexS, e, e2] using hq))
      · simp only [decide_eq_false_iff_not] at e2
        refine withI_is (wrap_i64 (by omega) (by omega)) ?_
        refine withI_is (n := 16 * hi + digS c) (by rw [wrap_i64 (by omega) (by omega)]; omega) ?_
        rw [wrap_u8 (by omega) (by omega), u8_of (n := 16 * hi + digS c) (by omega) (by omega)]
        refine T.push (by omega) fun v' h' T' => ?_
        exact Rhex_p1 (by omega) (ih (i + 1) (-1) v' _ h' hn (by omega) (by omega) (by simp; omega) T' (by simpa [hexS, e, e2] using hq))

theorem Rhex_c {h : AHeap} (hs : s.length ≤ 100000) (hk : Q (.s (hexS (-1) s)) h) : C G_ref26_hex.id [.s s] h Q := by
  refine G_ref26_hex.call ?_
  simp only [G_ref26_hex.t, G_ref26_hex.j0]
  exact Tx.empty fun v h' T => Rhex_p0 hs s 0 (-1) _ [] h' rfl (by omega) (by omega) (by simp) T hk

/-! ### percent -/

theorem pctS_hit {a b : UInt8} {r : List UInt8} (ha : 0 ≤ digS a) (hb : 0 ≤ digS b) : pctS (37 :: a :: b :: r) = UInt8.ofNat (16 * digS a + digS b).toNat :: pctS r := by
  rw [pctS, if_pos ⟨rfl, ha, hb⟩]
theorem pctS_miss {c : UInt8} {r : List UInt8} (h : ∀ a b t, r = a :: b :: t → ¬ (c = 37 ∧ 0 ≤ digS a ∧ 0 ≤ digS b)) : pctS (c :: r) = c :: pctS r := by
  match r with
  | [] => rw [pctS]; simp
  | [a] => rw [pctS]; simp
  | a :: b :: t => rw [pctS, if_neg (h a b t rfl)]
theorem eq37 (c : UInt8) : decide ((c.toNat : Int) = 37) = decide (c = 37) := by
  rw [decide_eq_decide]
  constructor
  · intro h; exact UInt8.toNat_inj.1 (by show c.toNat = 37; omega)
  · rintro rfl; rfl
theorem two {i : Nat} {c : UInt8} {r : List UInt8} (hr : s.drop i = c :: r) (h : i + 2 < s.length) : ∃ a b t, r = a :: b :: t := by
  have hl : (s.drop i).length = r.length + 1 := by rw [hr]; rfl
  rw [List.length_drop] at hl
  match r, hl with
  | [], hl => simp at hl; omega
  | [a], hl => simp at hl; omega
  | a :: b :: t, _ => exact ⟨a, b, t, rfl⟩

theorem pct_p4 {i : Nat} {v : AV} {h : AHeap} (hi' : i ≤ 1000000) (hk : G_transform_text_percent.p0 (kRet h0 Q) s v (i + 1 : Nat) h) : G_transform_text_percent.p4 (kRet h0 Q) s v i h := by
  refine G_transform_text_percent.i4 ?_
  simp only [G_transform_text_percent.t4, G_transform_text_percent.j0]
  exact inc (by omega) hk
theorem pct_p3 {i : Nat} {v : AV} {l r : List UInt8} {c : UInt8} {h : AHeap} (hi' : i ≤ 1000000) (hr : s.drop i = c :: r) (hl : l.length ≤ i) (T : Tx h0 h v l)
    (hk : ∀ v' h', Tx h0 h' v' (l ++ [c]) → G_transform_text_percent.p0 (kRet h0 Q) s v' (i + 1 : Nat) h') : G_transform_text_percent.p3 (kRet h0 Q) s v i h := by
  refine G_transform_text_percent.i3 ?_
  simp only [G_transform_text_percent.t3, G_transform_text_percent.j4]
  exact st_at hr (T.push (by omega) fun v' h' T' => pct_p4 hi' (hk v' h' T'))

theorem pct_p0 (hs : s.length ≤ 100000) : ∀ (n : Nat) (r : List UInt8) (i : Nat) (v : AV) (l : List UInt8) (h : AHeap), r.length ≤ n → s.drop i = r → l.length ≤ i → Tx h0 h v l → Q (.s (l ++ pctS r)) h0 → G_transform_text_percent.p0 (kRet h0 Q) s v i h := by
  intro n
  induction n with
  | zero =>
    intro r i v l h hn hr hl T hq
    have : r = [] := List.eq_nil_of_length_eq_zero (by omega)
    subst this
    have := drop_end hr
    refine G_transform_text_percent.i0 ?_
    simp only [G_transform_text_percent.t0, G_transform_text_percent.j1]
    exact bif_f (by simp; omega) (T.ret (by simpa [pctS] using hq))
  | succ n ih =>
    intro r i v l h hn hr hl T hq
    match r, hn, hr, hq with
    | [], hn, hr, hq => exact ih [] i v l h (by simp) hr hl T hq
    | c :: r, hn, hr, hq =>
      have hlt := drop_lt hr
      have hnx := drop_next hr
      have miss : (∀ a b t, r = a :: b :: t → ¬ (c = 37 ∧ 0 ≤ digS a ∧ 0 ≤ digS b)) → G_transform_text_percent.p3 (kRet h0 Q) s v i h := fun hm =>
        pct_p3 (by omega) hr hl T fun v' h' T' => ih r (i + 1) v' _ h' (by simp at hn; omega) hnx (by simp; omega) T' (by rw [pctS_miss hm] at hq; simpa using hq)
      have hp1f : (∀ a b t, r = a :: b :: t → ¬ (c = 37 ∧ 0 ≤ digS a ∧ 0 ≤ digS b)) → G_transform_text_percent.p1 (kRet h0 Q) s v i false h := fun hm => by
        refine G_transform_text_percent.i1 ?_
        simp only [G_transform_text_percent.t1, G_transform_text_percent.j2, G_transform_text_percent.j3]
        exact bif_f rfl (miss hm)
      refine G_transform_text_percent.i0 ?_
      simp only [G_transform_text_percent.t0, G_transform_text_percent.j1]
      refine bif_t (by simp; omega) (st_at hr ?_)
      rw [eq37]
      refine bif_both (fun e => ?_) fun e => hp1f fun a b t _ hc => by simp [hc.1] at e
      simp only [decide_eq_true_eq] at e
      subst e
      refine withI_is (wrap_i64 (by omega) (by omega)) ?_
      by_cases h2 : i + 2 < s.length
      · obtain ⟨a, b, t, rfl⟩ := two hr h2
        rw [decide_eq_true (by omega)]
        refine G_transform_text_percent.i1 ?_
        simp only [G_transform_text_percent.t1, G_transform_text_percent.j2, G_transform_text_percent.j3]
        refine bif_t rfl ?_
        refine inc (by omega) (st_at hnx ?_)
        refine inc2 (by omega) (st_at (drop_next hnx) ?_)
        refine digit_c (st_asI64 (digit_c (st_asI64 ?_)))
        have hp2 : ∀ bb, bb = (decide (0 ≤ digS a) && decide (0 ≤ digS b)) → G_transform_text_percent.p2 (kRet h0 Q) s v i (digS a) (digS b) bb h := by
          intro bb hbb
          refine G_transform_text_percent.i2 ?_
          simp only [G_transform_text_percent.t2, G_transform_text_percent.j3, G_transform_text_percent.j4]
          refine bif_both (fun e => ?_) fun e => miss fun a' b' t' h1 hc => ?_
          · subst e
            have hab : 0 ≤ digS a ∧ 0 ≤ digS b := by simpa using hbb.symm
            have hd := digS_bd a; have hd' := digS_bd b
            refine withI_is (wrap_i64 (by omega) (by omega)) ?_
            refine withI_is (wrap_i64 (by omega) (by omega)) ?_
            rw [wrap_u8 (by omega) (by omega), u8_of (n := 16 * digS a + digS b) (by omega) (by omega)]
            refine T.push (by omega) fun v' h' T' => inc2 (by omega) (pct_p4 (by omega) ?_)
            exact ih t (i + 2 + 1) v' _ h' (by simp at hn; omega) (drop_next (drop_next hnx)) (by simp; omega) T' (by rw [pctS_hit hab.1 hab.2] at hq; simpa using hq)
          · cases h1
            simp [hc.2.1, hc.2.2, e] at hbb
        refine bif_both (fun e => hp2 _ ?_) fun e => hp2 _ ?_
        · rw [e]; simp
        · rw [e]; simp
      · rw [decide_eq_false (by omega)]
        refine hp1f fun a b t h1 hc => ?_
        subst h1
        have := drop_lt (drop_next hnx)
        omega

theorem pct_c {h : AHeap} (hs : s.length ≤ 100000) (hk : Q (.s (pctS s)) h) : C G_transform_text_percent.id [.s s] h Q := by
  refine G_transform_text_percent.call ?_
  simp only [G_transform_text_percent.t, G_transform_text_percent.j0]
  exact pct_p0 hs s.length s 0 _ [] h (Nat.le_refl _) rfl (by simp) (Tx.start h) hk

theorem Rpct_p2 {i : Nat} {v : AV} {h : AHeap} (hi' : i ≤ 1000000) (hk : G_ref26_percent.p0 (kRet h0 Q) s v (i + 1 : Nat) h) : G_ref26_percent.p2 (kRet h0 Q) s v i h := by
  refine G_ref26_percent.i2 ?_
  simp only [G_ref26_percent.t2, G_ref26_percent.j0]
  exact inc (by omega) hk

theorem Rpct_p0 (hs : s.length ≤ 100000) : ∀ (n : Nat) (r : List UInt8) (i : Nat) (v : AV) (l : List UInt8) (h : AHeap), r.length ≤ n → s.drop i = r → l.length ≤ i → Tx h0 h v l → Q (.s (l ++ pctS r)) h0 → G_ref26_percent.p0 (kRet h0 Q) s v i h := by
  intro n
  induction n with
  | zero =>
    intro r i v l h hn hr hl T hq
    have : r = [] := List.eq_nil_of_length_eq_zero (by omega)
    subst this
    have := drop_end hr
    refine G_ref26_percent.i0 ?_
    simp only [G_ref26_percent.t0, G_ref26_percent.j1]
    exact bif_f (by simp; omega) (T.ret (by simpa [pctS] using hq))
  | succ n ih =>
    intro r i v l h hn hr hl T hq
    match r, hn, hr, hq with
    | [], hn, hr, hq => exact ih [] i v l h (by simp) hr hl T hq
    | c :: r, hn, hr, hq =>
      have hlt := drop_lt hr
      have hnx := drop_next hr
      have miss : (∀ a b t, r = a :: b :: t → ¬ (c = 37 ∧ 0 ≤ digS a ∧ 0 ≤ digS b)) → G_ref26_percent.p1 (kRet h0 Q) s v i false h := fun hm => by
        refine G_ref26_percent.i1 ?_
        simp only [G_ref26_percent.t1, G_ref26_percent.j2]
        refine bif_f rfl (st_at hr (T.push (by omega) fun v' h' T' => Rpct_p2 (by omega) ?_))
        exact ih r (i + 1) v' _ h' (by simp at hn; omega) hnx (by simp; omega) T' (by rw [pctS_miss hm] at hq; simpa using hq)
      refine G_ref26_percent.i0 ?_
      simp only [G_ref26_percent.t0, G_ref26_percent.j1]
      refine bif_t (by simp; omega) (st_at hr ?_)
      rw [eq37]
      refine bif_both (fun e => ?_) fun e => miss fun a b t _ hc => by simp [hc.1] at e
      simp only [decide_eq_true_eq] at e
      subst e
      refine inc2 (by omega) ?_
      by_cases h2 : i + 2 < s.length
      · obtain ⟨a, b, t, rfl⟩ := two hr h2
        refine bif_t (by simp; omega) ?_
        refine inc (by omega) (st_at hnx ?_)
        refine Rdigit_c (st_asI64 ?_)
        refine bif_both (fun e => ?_) fun e => miss fun a' b' t' h1 hc => ?_
        · simp only [decide_eq_true_eq] at e
          refine inc2 (by omega) (st_at (drop_next hnx) (Rdigit_c (st_asI64 ?_)))
          by_cases hb : 0 ≤ digS b
          · rw [decide_eq_true hb]
            have hd := digS_bd a; have hd' := digS_bd b
            refine G_ref26_percent.i1 ?_
            simp only [G_ref26_percent.t1, G_ref26_percent.j2]
            refine bif_t rfl ?_
            refine inc (by omega) (st_at hnx ?_)
            refine inc2 (by omega) (st_at (drop_next hnx) ?_)
            refine Rdigit_c (st_asI64 ?_)
            refine withI_is (wrap_i64 (by omega) (by omega)) ?_
            refine Rdigit_c (st_asI64 ?_)
            refine withI_is (n := 16 * digS a + digS b) (by rw [wrap_i64 (by omega) (by omega)]; omega) ?_
            rw [wrap_u8 (by omega) (by omega), u8_of (n := 16 * digS a + digS b) (by omega) (by omega)]
            refine T.push (by omega) fun v' h' T' => inc2 (by omega) (Rpct_p2 (by omega) ?_)
            exact ih t (i + 2 + 1) v' _ h' (by simp at hn; omega) (drop_next (drop_next hnx)) (by simp; omega) T' (by rw [pctS_hit e hb] at hq; simpa using hq)
          · rw [decide_eq_false hb]
            refine miss fun a' b' t' h1 hc => ?_
            cases h1
            exact hb hc.2.2
        · cases h1
          simp [hc.2.1] at e
      · refine bif_f (by simp; omega) (miss fun a b t h1 hc => ?_)
        subst h1
        have := drop_lt (drop_next hnx)
        omega

theorem Rpct_c {h : AHeap} (hs : s.length ≤ 100000) (hk : Q (.s (pctS s)) h) : C G_ref26_percent.id [.s s] h Q := by
  refine G_ref26_percent.call ?_
  simp only [G_ref26_percent.t, G_ref26_percent.j0]
  exact Tx.empty fun v h' T => Rpct_p0 hs s.length s 0 _ [] h' (Nat.le_refl _) rfl (by simp) T hk

end
end Go.Proofs.YtbphaelhhfkdiaaDoor
