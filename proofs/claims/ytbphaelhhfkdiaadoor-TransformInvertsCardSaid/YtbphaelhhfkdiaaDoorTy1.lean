/- The transforms: digits, strip, hex, percent, lower: what the functions of transform and of its reference compute. -/
import Derived.Test.YtbphaelhhfkdiaaDoorTx0
import Derived.Test.YtbphaelhhfkdiaaDoorAm21
set_option linter.unusedVariables false
set_option linter.unusedSimpArgs false
set_option linter.unusedSectionVars false
set_option maxRecDepth 20000
namespace Go.Proofs.YtbphaelhhfkdiaaDoor
open Go.GAM

/-! ### the functions, in plain words -/

def digS (c : UInt8) : Int :=
  if 48 ≤ c.toNat ∧ c.toNat ≤ 57 then (c.toNat : Int) - 48 else if 97 ≤ c.toNat ∧ c.toNat ≤ 102 then (c.toNat : Int) - 87 else if 65 ≤ c.toNat ∧ c.toNat ≤ 70 then (c.toNat : Int) - 55 else -1
def white (c : UInt8) : Bool := c == 9 || c == 10 || c == 13 || c == 32
def stripS (l : List UInt8) : List UInt8 := l.filter fun c => !white c
def lowC (c : UInt8) : UInt8 := if 65 ≤ c.toNat ∧ c.toNat ≤ 90 then c + 32 else c
def lowS (l : List UInt8) : List UInt8 := l.map lowC
def hexS : Int → List UInt8 → List UInt8
  | _, [] => []
  | hi, c :: r => if digS c < 0 then hexS hi r else if hi < 0 then hexS (digS c) r else UInt8.ofNat (16 * hi + digS c).toNat :: hexS (-1) r
def pctS : List UInt8 → List UInt8
  | c :: a :: b :: r => if c = 37 ∧ 0 ≤ digS a ∧ 0 ≤ digS b then UInt8.ofNat (16 * digS a + digS b).toNat :: pctS r else c :: pctS (a :: b :: r)
  | c :: r => c :: pctS r
  | [] => []

theorem digS_bd (c : UInt8) : -1 ≤ digS c ∧ digS c ≤ 15 := by
  have := c.toNat_lt
  unfold digS
  split
  · omega
  · split
    · omega
    · split <;> omega

section
variable [XR]

theorem digit_c {c : UInt8} {h : AHeap} {Q : AV → AHeap → Prop} (hk : Q (.i .i64 (digS c)) h) : C G_transform_digit.id [.i .u8 (c.toNat : Int)] h Q := by
  have hc := c.toNat_lt
  have h2 : ∀ b, b = decide (65 ≤ c.toNat ∧ c.toNat ≤ 70) → (¬ (48 ≤ c.toNat ∧ c.toNat ≤ 57)) → (¬ (97 ≤ c.toNat ∧ c.toNat ≤ 102)) → G_transform_digit.p2 (kRet h Q) (c.toNat : Int) b h := by
    intro b hb n1 n2
    refine G_transform_digit.i2 ?_
    simp only [G_transform_digit.t2]
    refine bif_both (fun e => ?_) fun e => ?_
    · subst e
      have hr : 65 ≤ c.toNat ∧ c.toNat ≤ 70 := by simpa using hb.symm
      refine withI_is (wrap_u8 (by omega) (by omega)) ?_
      refine withI_is (n := digS c) (by unfold digS; rw [if_neg n1, if_neg n2, if_pos hr, @wrap_i64 ((c.toNat : Int) - 65) (by omega) (by omega), wrap_i64 (by omega) (by omega)]; omega) (.inl hk)
    · subst e
      have hr : ¬ (65 ≤ c.toNat ∧ c.toNat ≤ 70) := by simpa using hb.symm
      have : digS c = -1 := by unfold digS; rw [if_neg n1, if_neg n2, if_neg hr]
      rw [this] at hk
      exact .inl hk
  have h1 : ∀ b, b = decide (97 ≤ c.toNat ∧ c.toNat ≤ 102) → (¬ (48 ≤ c.toNat ∧ c.toNat ≤ 57)) → G_transform_digit.p1 (kRet h Q) (c.toNat : Int) b h := by
    intro b hb n1
    refine G_transform_digit.i1 ?_
    simp only [G_transform_digit.t1, G_transform_digit.j2]
    refine bif_both (fun e => ?_) fun e => ?_
    · subst e
      have hr : 97 ≤ c.toNat ∧ c.toNat ≤ 102 := by simpa using hb.symm
      refine withI_is (wrap_u8 (by omega) (by omega)) ?_
      refine withI_is (n := digS c) (by unfold digS; rw [if_neg n1, if_pos hr, @wrap_i64 ((c.toNat : Int) - 97) (by omega) (by omega), wrap_i64 (by omega) (by omega)]; omega) (.inl hk)
    · subst e
      have hr : ¬ (97 ≤ c.toNat ∧ c.toNat ≤ 102) := by simpa using hb.symm
      refine bif_both (fun e => ?_) fun e => ?_
      · simp only [decide_eq_true_eq] at e
        exact h2 _ (by rw [decide_eq_decide]; omega) n1 hr
      · simp only [decide_eq_false_iff_not] at e
        exact h2 _ (by symm; simp; omega) n1 hr
  have h0 : ∀ b, b = decide (48 ≤ c.toNat ∧ c.toNat ≤ 57) → G_transform_digit.p0 (kRet h Q) (c.toNat : Int) b h := by
    intro b hb
    refine G_transform_digit.i0 ?_
    simp only [G_transform_digit.t0, G_transform_digit.j1]
    refine bif_both (fun e => ?_) fun e => ?_
    · subst e
      have hr : 48 ≤ c.toNat ∧ c.toNat ≤ 57 := by simpa using hb.symm
      refine withI_is (wrap_u8 (by omega) (by omega)) ?_
      rw [wrap_i64 (by omega) (by omega)]
      have : digS c = (c.toNat : Int) - 48 := by unfold digS; rw [if_pos hr]
      rw [this] at hk
      exact .inl hk
    · subst e
      have hr : ¬ (48 ≤ c.toNat ∧ c.toNat ≤ 57) := by simpa using hb.symm
      refine bif_both (fun e => ?_) fun e => ?_
      · simp only [decide_eq_true_eq] at e
        exact h1 _ (by rw [decide_eq_decide]; omega) hr
      · simp only [decide_eq_false_iff_not] at e
        exact h1 _ (by symm; simp; omega) hr
  refine G_transform_digit.call ?_
  simp only [G_transform_digit.t, G_transform_digit.j0]
  refine bif_both (fun e => ?_) fun e => ?_
  · simp only [decide_eq_true_eq] at e
    exact h0 _ (by rw [decide_eq_decide]; omega)
  · simp only [decide_eq_false_iff_not] at e
    exact h0 _ (by symm; simp; omega)

theorem Rdigit_c {c : UInt8} {h : AHeap} {Q : AV → AHeap → Prop} (hk : Q (.i .i64 (digS c)) h) : C G_ref26_digit.id [.i .u8 (c.toNat : Int)] h Q := by
  have hc := c.toNat_lt
  have h2 : ∀ b, b = decide (65 ≤ c.toNat ∧ c.toNat ≤ 70) → (¬ (48 ≤ c.toNat ∧ c.toNat ≤ 57)) → (¬ (97 ≤ c.toNat ∧ c.toNat ≤ 102)) → G_ref26_digit.p2 (kRet h Q) (c.toNat : Int) b h := by
    intro b hb n1 n2
    refine G_ref26_digit.i2 ?_
    simp only [G_ref26_digit.t2]
    refine bif_both (fun e => ?_) fun e => ?_
    · subst e
      have hr : 65 ≤ c.toNat ∧ c.toNat ≤ 70 := by simpa using hb.symm
      refine withI_is (wrap_u8 (by omega) (by omega)) ?_
      refine withI_is (n := digS c) (by unfold digS; rw [if_neg n1, if_neg n2, if_pos hr, @wrap_i64 ((c.toNat : Int) - 65) (by omega) (by omega), wrap_i64 (by omega) (by omega)]; omega) (.inl hk)
    · subst e
      have hr : ¬ (65 ≤ c.toNat ∧ c.toNat ≤ 70) := by simpa using hb.symm
      have : digS c = -1 := by unfold digS; rw [if_neg n1, if_neg n2, if_neg hr]
      rw [this] at hk
      exact .inl hk
  have h1 : ∀ b, b = decide (97 ≤ c.toNat ∧ c.toNat ≤ 102) → (¬ (48 ≤ c.toNat ∧ c.toNat ≤ 57)) → G_ref26_digit.p1 (kRet h Q) (c.toNat : Int) b h := by
    intro b hb n1
    refine G_ref26_digit.i1 ?_
    simp only [G_ref26_digit.t1, G_ref26_digit.j2]
    refine bif_both (fun e => ?_) fun e => ?_
    · subst e
      have hr : 97 ≤ c.toNat ∧ c.toNat ≤ 102 := by simpa using hb.symm
      refine withI_is (wrap_u8 (by omega) (by omega)) ?_
      refine withI_is (n := digS c) (by unfold digS; rw [if_neg n1, if_pos hr, @wrap_i64 ((c.toNat : Int) - 97) (by omega) (by omega), wrap_i64 (by omega) (by omega)]; omega) (.inl hk)
    · subst e
      have hr : ¬ (97 ≤ c.toNat ∧ c.toNat ≤ 102) := by simpa using hb.symm
      refine bif_both (fun e => ?_) fun e => ?_
      · simp only [decide_eq_true_eq] at e
        exact h2 _ (by rw [decide_eq_decide]; omega) n1 hr
      · simp only [decide_eq_false_iff_not] at e
        exact h2 _ (by symm; simp; omega) n1 hr
  have h0 : ∀ b, b = decide (48 ≤ c.toNat ∧ c.toNat ≤ 57) → G_ref26_digit.p0 (kRet h Q) (c.toNat : Int) b h := by
    intro b hb
    refine G_ref26_digit.i0 ?_
    simp only [G_ref26_digit.t0, G_ref26_digit.j1]
    refine bif_both (fun e => ?_) fun e => ?_
    · subst e
      have hr : 48 ≤ c.toNat ∧ c.toNat ≤ 57 := by simpa using hb.symm
      refine withI_is (wrap_u8 (by omega) (by omega)) ?_
      rw [wrap_i64 (by omega) (by omega)]
      have : digS c = (c.toNat : Int) - 48 := by unfold digS; rw [if_pos hr]
      rw [this] at hk
      exact .inl hk
    · subst e
      have hr : ¬ (48 ≤ c.toNat ∧ c.toNat ≤ 57) := by simpa using hb.symm
      refine bif_both (fun e => ?_) fun e => ?_
      · simp only [decide_eq_true_eq] at e
        exact h1 _ (by rw [decide_eq_decide]; omega) hr
      · simp only [decide_eq_false_iff_not] at e
        exact h1 _ (by symm; simp; omega) hr
  refine G_ref26_digit.call ?_
  simp only [G_ref26_digit.t, G_ref26_digit.j0]
  refine bif_both (fun e => ?_) fun e => ?_
  · simp only [decide_eq_true_eq] at e
    exact h0 _ (by rw [decide_eq_decide]; omega)
  · simp only [decide_eq_false_iff_not] at e
    exact h0 _ (by symm; simp; omega)


/-! ### strip -/

theorem strip_p0 {s : List UInt8} {h0 : AHeap} {Q : AV → AHeap → Prop} (hs : s.length ≤ 100000) : ∀ (r : List UInt8) (i : Nat) (v : AV) (l : List UInt8) (h : AHeap), s.drop i = r → l.length ≤ i → Tx h0 h v l → Q (.s (l ++ stripS r)) h0 → G_transform_text_strip.p0 (kRet h0 Q) s v s.length i h := by
  intro r
  induction r with
  | nil =>
    intro i v l h hr hl T hq
    have := drop_end hr
    refine G_transform_text_strip.i0 ?_
    simp only [G_transform_text_strip.t0, G_transform_text_strip.j1]
    exact bif_f (by simp; omega) (T.ret (by simpa [stripS] using hq))
  | cons c r ih =>
    intro i v l h hr hl T hq
    have hlt := drop_lt hr
    have hn := drop_next hr
    have hc := c.toNat_lt
    have key : ∀ b, b = white c → G_transform_text_strip.p1 (kRet h0 Q) s v i s.length i b h := by
      intro b hb
      refine G_transform_text_strip.i1 ?_
      simp only [G_transform_text_strip.t1, G_transform_text_strip.j2]
      refine bif_both (fun e => ?_) fun e => ?_
      · refine G_transform_text_strip.i2 ?_
        simp only [G_transform_text_strip.t2, G_transform_text_strip.j0]
        refine withI_is (n := ((i + 1 : Nat) : Int)) (by rw [wrap_i64 (by omega) (by omega)]; omega) ?_
        refine ih (i + 1) v l h hn (by omega) T ?_
        rw [e] at hb
        simpa [stripS, ← hb] using hq
      · refine st_at hr (T.push (by omega) fun v' h' T' => ?_)
        refine G_transform_text_strip.i2 ?_
        simp only [G_transform_text_strip.t2, G_transform_text_strip.j0]
        refine withI_is (n := ((i + 1 : Nat) : Int)) (by rw [wrap_i64 (by omega) (by omega)]; omega) ?_
        refine ih (i + 1) v' _ h' hn (by simp; omega) T' ?_
        rw [e] at hb
        simpa [stripS, ← hb] using hq
    have hw : ∀ n : UInt8, (c == n) = decide ((c.toNat : Int) = (n.toNat : Int)) := fun n => by
      rw [Bool.eq_iff_iff]
      simp [UInt8.toNat_inj]
      constructor
      · rintro rfl; rfl
      · intro h; exact UInt8.toNat_inj.1 (by omega)
    have hw' : white c = (decide ((c.toNat : Int) = 9) || decide ((c.toNat : Int) = 10) || decide ((c.toNat : Int) = 13) || decide ((c.toNat : Int) = 32)) := by
      unfold white; rw [hw 9, hw 10, hw 13, hw 32]; rfl
    refine G_transform_text_strip.i0 ?_
    simp only [G_transform_text_strip.t0, G_transform_text_strip.j1]
    refine bif_t (by simp; omega) (st_at hr ?_)
    refine bif_both (fun e => key _ ?_) fun e => ?_
    · rw [hw', e]; simp
    refine bif_both (fun e2 => key _ ?_) fun e2 => ?_
    · rw [hw', e, e2]; simp
    refine bif_both (fun e3 => key _ ?_) fun e3 => key _ ?_
    · rw [hw', e, e2, e3]; simp
    · rw [hw', e, e2, e3]; simp

theorem strip_c {s : List UInt8} {h : AHeap} {Q : AV → AHeap → Prop} (hs : s.length ≤ 100000) (hk : Q (.s (stripS s)) h) : C G_transform_text_strip.id [.s s] h Q := by
  refine G_transform_text_strip.call ?_
  simp only [G_transform_text_strip.t, G_transform_text_strip.j0]
  exact strip_p0 hs s 0 _ [] h rfl (by simp) (Tx.start h) hk

end
end Go.Proofs.YtbphaelhhfkdiaaDoor
