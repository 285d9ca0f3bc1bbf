/- The calendar; TimeOf. -/
import Derived.Test.YtffgchcidkapjaaDoorTy9
set_option linter.unusedVariables false
set_option linter.unusedSimpArgs false
set_option linter.unusedSectionVars false
set_option maxRecDepth 20000
namespace Go.Proofs.YtffgchcidkapjaaDoor
open Go.GAM Go.RowKit

def leapN (y : Nat) : Bool := decide (y % 4 = 0) && (!decide (y % 100 = 0) || decide (y % 400 = 0))
def daysN (y m : Nat) : Nat := if m = 2 then (if leapN y = true then 29 else 28) else if m = 4 ∨ m = 6 ∨ m = 9 ∨ m = 11 then 30 else 31
def yearN (y : Nat) : Nat := if leapN y = true then 366 else 365
/-- The days from 1970 on to a year's beginning. -/
def befN (y : Nat) : Nat := 365 * (y - 1970) + ((y - 1) / 4 + (y - 1) / 400) - (y - 1) / 100 - 477
/-- The days from a year's beginning on to a month's. -/
def monN (y : Nat) : Nat → Nat
  | 0 => 0
  | k + 1 => monN y k + if k = 0 then 0 else daysN y k

theorem bef_succ {y : Nat} (h : 1970 ≤ y) : befN (y + 1) = befN y + yearN y := by
  unfold befN yearN leapN
  by_cases h4 : y % 4 = 0
  · by_cases h100 : y % 100 = 0
    · by_cases h400 : y % 400 = 0
      · simp [h4, h100, h400]; omega
      · simp [h4, h100, h400]; omega
    · simp [h4, h100]; omega
  · simp [h4]; omega
theorem bef_0 : befN 1970 = 0 := by decide
theorem yearN_bd (y : Nat) : 365 ≤ yearN y ∧ yearN y ≤ 366 := by unfold yearN; split <;> omega
theorem daysN_bd (y m : Nat) : 28 ≤ daysN y m ∧ daysN y m ≤ 31 := by
  unfold daysN
  repeat' split
  all_goals omega
theorem mon_succ {y m : Nat} (h : 1 ≤ m) : monN y (m + 1) = monN y m + daysN y m := by
  show monN y m + (if m = 0 then 0 else daysN y m) = _
  rw [if_neg (by omega)]
theorem mon_1 (y : Nat) : monN y 1 = 0 := rfl
theorem mon_13 (y : Nat) : monN y 13 = yearN y := by
  simp only [monN, daysN, yearN]
  cases leapN y <;> rfl
theorem mon_mono {y a b : Nat} (h : 1 ≤ a) (hab : a ≤ b) : monN y a ≤ monN y b := by
  obtain ⟨k, rfl⟩ : ∃ k, b = a + k := ⟨b - a, by omega⟩
  clear hab
  induction k with
  | zero => exact Nat.le_refl _
  | succ k ih =>
    have := mon_succ (y := y) (m := a + k) (by omega)
    rw [show a + (k + 1) = a + k + 1 by omega]; omega
theorem bef_mono {a b : Nat} (h : 1970 ≤ a) (hab : a ≤ b) : befN a + 365 * (b - a) ≤ befN b := by
  obtain ⟨k, rfl⟩ : ∃ k, b = a + k := ⟨b - a, by omega⟩
  clear hab
  induction k with
  | zero => simp
  | succ k ih =>
    have := bef_succ (y := a + k) (by omega)
    have := (yearN_bd (a + k)).1
    rw [show a + (k + 1) = a + k + 1 by omega]; omega
theorem bef_up {a b : Nat} (h : 1970 ≤ a) (hab : a ≤ b) : befN b ≤ befN a + 366 * (b - a) := by
  obtain ⟨k, rfl⟩ : ∃ k, b = a + k := ⟨b - a, by omega⟩
  clear hab
  induction k with
  | zero => simp
  | succ k ih =>
    have := bef_succ (y := a + k) (by omega)
    have := (yearN_bd (a + k)).2
    rw [show a + (k + 1) = a + k + 1 by omega]; omega

section
variable {h0 : AHeap} {Q : AV → AHeap → Prop}

theorem rem_n {a b : Nat} {K : Int → Prop} (hb : b ≠ 0) (hk : K ((a % b : Nat) : Int)) : pRem (a : Int) (b : Int) K :=
  st_rem (by omega) (by rw [Int.tmod_eq_emod_of_nonneg (by omega)]; rfl) hk
theorem quo_n {a b : Nat} {K : Int → Prop} (hb : b ≠ 0) (ha : a < 9223372036854775808) (hk : K ((a / b : Nat) : Int)) : pQuo .i64 (a : Int) (b : Int) K := by
  have h := Nat.div_le_self a b
  refine st_quo (by omega) ?_ hk
  rw [Int.tdiv_eq_ediv_of_nonneg (by omega), ← Int.natCast_ediv]
  generalize a / b = y at h
  rw [wrap_i64 (by omega) (by omega)]

theorem leap_c {y : Nat} {h : AHeap} (hq : Q (.b (leapN y)) h) : C G_der_leap.id [.i .i64 (y : Int)] h Q := by
  refine G_der_leap.call ?_
  simp only [G_der_leap.t, G_der_leap.j0]
  have p0 : ∀ b, b = leapN y → G_der_leap.p0 (kRet h Q) b h := by
    intro b hb
    refine G_der_leap.i0 ?_
    simp only [G_der_leap.t0]
    subst hb
    exact .inl hq
  unfold leapN at p0
  refine rem_n (b := 4) (by omega) (bif_both (fun e1 => rem_n (b := 100) (by omega) ?_) fun e1 => p0 _ ?_)
  · simp only [decide_eq_true_eq] at e1
    rw [decide_eq_true (by omega : y % 4 = 0), Bool.true_and] at p0
    refine bif_both (fun e2 => p0 _ ?_) fun e2 => rem_n (b := 400) (by omega) (p0 _ ?_)
    · have e2 : ((y % 100 : Nat) : Int) ≠ 0 := by simpa using e2
      rw [decide_eq_false (by omega : ¬ y % 100 = 0)]; rfl
    · have e2 : ((y % 100 : Nat) : Int) = 0 := by simpa using e2
      rw [decide_eq_true (by omega : y % 100 = 0)]
      show decide _ = decide _
      rw [decide_eq_decide]; omega
  · simp only [decide_eq_false_iff_not] at e1
    rw [decide_eq_false (by omega : ¬ y % 4 = 0)]; rfl
theorem Rleap_c {y : Nat} {h : AHeap} (hq : Q (.b (leapN y)) h) : C G_ref33_leap.id [.i .i64 (y : Int)] h Q := by
  refine G_ref33_leap.call ?_
  simp only [G_ref33_leap.t, G_ref33_leap.j0]
  have p0 : ∀ b, b = leapN y → G_ref33_leap.p0 (kRet h Q) b h := by
    intro b hb
    refine G_ref33_leap.i0 ?_
    simp only [G_ref33_leap.t0]
    subst hb
    exact .inl hq
  unfold leapN at p0
  refine rem_n (b := 4) (by omega) (bif_both (fun e1 => rem_n (b := 100) (by omega) ?_) fun e1 => p0 _ ?_)
  · simp only [decide_eq_true_eq] at e1
    rw [decide_eq_true (by omega : y % 4 = 0), Bool.true_and] at p0
    refine bif_both (fun e2 => p0 _ ?_) fun e2 => rem_n (b := 400) (by omega) (p0 _ ?_)
    · have e2 : ((y % 100 : Nat) : Int) ≠ 0 := by simpa using e2
      rw [decide_eq_false (by omega : ¬ y % 100 = 0)]; rfl
    · have e2 : ((y % 100 : Nat) : Int) = 0 := by simpa using e2
      rw [decide_eq_true (by omega : y % 100 = 0)]
      show decide _ = decide _
      rw [decide_eq_decide]; omega
  · simp only [decide_eq_false_iff_not] at e1
    rw [decide_eq_false (by omega : ¬ y % 4 = 0)]; rfl

theorem days_c {y m : Nat} {h : AHeap} (hq : Q (.i .i64 (daysN y m : Nat)) h) : C G_der_days.id [.i .i64 (y : Int), .i .i64 (m : Int)] h Q := by
  refine G_der_days.call ?_
  simp only [G_der_days.t, G_der_days.j0]
  unfold daysN at hq
  have p0 : m ≠ 2 → ∀ b, b = decide (m = 4 ∨ m = 6 ∨ m = 9 ∨ m = 11) → G_der_days.p0 (kRet h Q) b h := by
    intro h2 b hb
    rw [if_neg h2] at hq
    refine G_der_days.i0 ?_
    simp only [G_der_days.t0]
    refine bif_both (fun e => ?_) fun e => ?_
    · subst e; rw [if_pos (by simpa using hb.symm)] at hq; exact .inl hq
    · subst e; rw [if_neg (of_decide_eq_false hb.symm)] at hq; exact .inl hq
  refine bif_both (fun e => leap_c (st_asB ?_)) fun e => ?_
  · rw [if_pos (by simp only [decide_eq_true_eq] at e; omega)] at hq
    refine bif_both (fun e => ?_) fun e => ?_
    · rw [if_pos e] at hq; exact .inl hq
    · rw [if_neg (by rw [e]; simp)] at hq; exact .inl hq
  have p0 := p0 (by simp only [decide_eq_false_iff_not] at e; omega)
  have fin : ∀ b : Bool, (b = true ↔ (m = 4 ∨ m = 6 ∨ m = 9 ∨ m = 11)) → G_der_days.p0 (kRet h Q) b h := fun b hb => p0 b (by
    cases b with
    | true => rw [decide_eq_true (hb.1 rfl)]
    | false => rw [decide_eq_false (fun hh => by have := hb.2 hh; cases this)])
  refine bif_both (fun e1 => fin _ ?_) fun e1 => bif_both (fun e2 => fin _ ?_) fun e2 => bif_both (fun e3 => fin _ ?_) fun e3 => fin _ ?_
  all_goals (simp only [decide_eq_true_eq, decide_eq_false_iff_not] at *; omega)
theorem Rdays_c {y m : Nat} {h : AHeap} (hq : Q (.i .i64 (daysN y m : Nat)) h) : C G_ref33_days.id [.i .i64 (y : Int), .i .i64 (m : Int)] h Q := by
  refine G_ref33_days.call ?_
  simp only [G_ref33_days.t, G_ref33_days.j0]
  unfold daysN at hq
  have p0 : m ≠ 2 → ∀ b, b = decide (m = 4 ∨ m = 6 ∨ m = 9 ∨ m = 11) → G_ref33_days.p0 (kRet h Q) b h := by
    intro h2 b hb
    rw [if_neg h2] at hq
    refine G_ref33_days.i0 ?_
    simp only [G_ref33_days.t0]
    refine bif_both (fun e => ?_) fun e => ?_
    · subst e; rw [if_pos (by simpa using hb.symm)] at hq; exact .inl hq
    · subst e; rw [if_neg (of_decide_eq_false hb.symm)] at hq; exact .inl hq
  refine bif_both (fun e => Rleap_c (st_asB ?_)) fun e => ?_
  · rw [if_pos (by simp only [decide_eq_true_eq] at e; omega)] at hq
    refine bif_both (fun e => ?_) fun e => ?_
    · rw [if_pos e] at hq; exact .inl hq
    · rw [if_neg (by rw [e]; simp)] at hq; exact .inl hq
  have p0 := p0 (by simp only [decide_eq_false_iff_not] at e; omega)
  have fin : ∀ b : Bool, (b = true ↔ (m = 4 ∨ m = 6 ∨ m = 9 ∨ m = 11)) → G_ref33_days.p0 (kRet h Q) b h := fun b hb => p0 b (by
    cases b with
    | true => rw [decide_eq_true (hb.1 rfl)]
    | false => rw [decide_eq_false (fun hh => by have := hb.2 hh; cases this)])
  refine bif_both (fun e1 => fin _ ?_) fun e1 => bif_both (fun e2 => fin _ ?_) fun e2 => bif_both (fun e3 => fin _ ?_) fun e3 => fin _ ?_
  all_goals (simp only [decide_eq_true_eq, decide_eq_false_iff_not] at *; omega)

theorem past_c {k : Nat} {h : AHeap} (hk : k ≤ 100000) (hq : Q (.i .i64 ((k / 4 + k / 400 - k / 100 : Nat) : Int)) h) : C G_der_before_1.id [.i .i64 (k : Int)] h Q := by
  refine G_der_before_1.call ?_
  simp only [G_der_before_1.t]
  refine quo_n (b := 4) (by omega) (by omega) (quo_n (b := 100) (by omega) (by omega) ?_)
  refine withI_is (n := ((k / 4 - k / 100 : Nat) : Int)) (by rw [wrap_i64 (by omega) (by omega)]; omega) (quo_n (b := 400) (by omega) (by omega) ?_)
  refine withI_is (n := ((k / 4 + k / 400 - k / 100 : Nat) : Int)) (by rw [wrap_i64 (by omega) (by omega)]; omega) (.inl hq)
theorem before_c {y : Nat} {h : AHeap} (h1 : 1970 ≤ y) (h2 : y ≤ 90000) (hq : Q (.i .i64 (befN y : Nat)) h) : C G_der_before.id [.i .i64 (y : Int)] h Q := by
  refine G_der_before.call ?_
  simp only [G_der_before.t]
  unfold befN at hq
  refine withI_is (n := ((y - 1970 : Nat) : Int)) (by rw [wrap_i64 (by omega) (by omega)]; omega) ?_
  refine withI_is (n := ((365 * (y - 1970) : Nat) : Int)) (by rw [wrap_i64 (by omega) (by omega)]; omega) ?_
  refine withI_is (n := ((y - 1 : Nat) : Int)) (by rw [wrap_i64 (by omega) (by omega)]; omega) ?_
  refine callV_c rfl (past_c (by omega) (st_asI ?_))
  refine withI_is (n := ((365 * (y - 1970) + ((y - 1) / 4 + (y - 1) / 400 - (y - 1) / 100) : Nat) : Int)) (by rw [wrap_i64 (by omega) (by omega)]; omega) ?_
  refine callV_c rfl (past_c (k := 1969) (by omega) (st_asI ?_))
  refine withI_is (n := ((365 * (y - 1970) + ((y - 1) / 4 + (y - 1) / 400) - (y - 1) / 100 - 477 : Nat) : Int)) (by rw [wrap_i64 (by omega) (by omega)]; omega) (.inl hq)

def twoS (k : Nat) : List UInt8 := [UInt8.ofNat (48 + k / 10 % 10), UInt8.ofNat (48 + k % 10)]
theorem Tx.two {h0 h : AHeap} (U : Upd (fun _ => False) h0 h) {c d : UInt8} {K : AV → AHeap → Prop} (hk : ∀ v h', Tx h0 h' v [c, d] → K v h') : pBuildSl 1 2 [.i .u8 0, .i .u8 0] [(0, 1, .i .u8 (c.toNat : Int)), (1, 1, .i .u8 (d.toNat : Int))] h K := by
  refine ⟨rfl, hk _ _ ⟨U.trans (Upd.app _ _) fun _ _ h => h, .inr ⟨h.length, newBlk [byteAV c, byteAV d] 1 true, rfl, by simp [byteAV]; rfl, rfl, rfl, rfl, Nat.le_refl _, rfl, rfl⟩, fun i hi => ?_⟩⟩
  cases hi; exact U.1
theorem two_c {k : Nat} {h : AHeap} (hk : k < 100) (hq : Q (.s (twoS k)) h) : C G_der_TimeOf_1.id [.i .i64 (k : Int)] h Q := by
  refine G_der_TimeOf_1.call ?_
  simp only [G_der_TimeOf_1.t]
  refine quo_n (b := 10) (by omega) (by omega) ?_
  refine withI_is (n := ((48 + k / 10 % 10 : Nat) : Int)) (by rw [wrap_i64 (by omega) (by omega)]; omega) (rem_n (b := 10) (by omega) ?_)
  refine withI_is (n := ((48 + k % 10 : Nat) : Int)) (by rw [wrap_i64 (by omega) (by omega)]; omega) ?_
  rw [wrap_u8_nat, wrap_u8_nat, byte_mod, byte_mod]
  exact Tx.two (Upd.refl _ _) fun v h' T => T.ret hq
theorem Rtwo_c {k : Nat} {h : AHeap} (hk : k < 1000000) (hq : Q (.s (twoS k)) h) : C G_ref33_two.id [.i .i64 (k : Int)] h Q := by
  refine G_ref33_two.call ?_
  simp only [G_ref33_two.t]
  refine quo_n (b := 10) (by omega) (by omega) (rem_n (b := 10) (by omega) ?_)
  refine withI_is (n := ((48 + k / 10 % 10 : Nat) : Int)) (by rw [wrap_i64 (by omega) (by omega)]; omega) (rem_n (b := 10) (by omega) ?_)
  refine withI_is (n := ((48 + k % 10 : Nat) : Int)) (by rw [wrap_i64 (by omega) (by omega)]; omega) ?_
  rw [wrap_u8_nat, wrap_u8_nat, byte_mod, byte_mod]
  exact Tx.two (Upd.refl _ _) fun v h' T => T.ret hq
theorem two_mod (y : Nat) : twoS (y % 100) = twoS y := by
  unfold twoS
  rw [show y % 100 / 10 % 10 = y / 10 % 10 by omega, show y % 100 % 10 = y % 10 by omega]

/-! ### TimeOf -/

/-- The date of a day. -/
structure Date (day y m d : Nat) : Prop where
  y0 : 1970 ≤ y
  y1 : befN y ≤ day
  y2 : day < befN (y + 1)
  m0 : 1 ≤ m
  m1 : m ≤ 12
  d0 : day = befN y + monN y m + d
  d1 : d < daysN y m

theorem date_is (day : Nat) : ∃ y m d, Date day y m d := by
  have hy : ∃ y, 1970 ≤ y ∧ befN y ≤ day ∧ day < befN (y + 1) := by
    have go : ∀ k, (∃ y, 1970 ≤ y ∧ befN y ≤ day ∧ day < befN (y + 1)) ∨ befN (1970 + k) ≤ day := by
      intro k
      induction k with
      | zero => right; rw [Nat.add_zero, bef_0]; omega
      | succ k ih =>
        rcases ih with h | h
        · exact .inl h
        · by_cases hd : day < befN (1970 + k + 1)
          · exact .inl ⟨1970 + k, by omega, h, hd⟩
          · exact .inr (by rw [show 1970 + (k + 1) = 1970 + k + 1 by omega]; omega)
    rcases go (day + 1) with h | h
    · exact h
    · have := bef_mono (a := 1970) (b := 1970 + (day + 1)) (by omega) (by omega)
      omega
  obtain ⟨y, h1, h2, h3⟩ := hy
  have hb := bef_succ h1
  have hm : ∃ m, 1 ≤ m ∧ m ≤ 12 ∧ monN y m ≤ day - befN y ∧ day - befN y < monN y (m + 1) := by
    have go : ∀ k, k ≤ 12 → (∃ m, 1 ≤ m ∧ m ≤ 12 ∧ monN y m ≤ day - befN y ∧ day - befN y < monN y (m + 1)) ∨ monN y (1 + k) ≤ day - befN y := by
      intro k
      induction k with
      | zero => intro _; right; rw [Nat.add_zero, mon_1]; omega
      | succ k ih =>
        intro hk
        rcases ih (by omega) with h | h
        · exact .inl h
        · by_cases hd : day - befN y < monN y (1 + k + 1)
          · exact .inl ⟨1 + k, by omega, by omega, h, hd⟩
          · exact .inr (by rw [show 1 + (k + 1) = 1 + k + 1 by omega]; omega)
    rcases go 12 (by omega) with h | h
    · exact h
    · have := mon_13 y
      rw [show 1 + 12 = 13 from rfl] at h
      omega
  obtain ⟨m, m0, m1, m2, m3⟩ := hm
  have := mon_succ (y := y) m0
  exact ⟨y, m, day - befN y - monN y m, h1, h2, h3, m0, m1, by omega, by omega⟩

def clockS (y m d r : Nat) : List UInt8 := twoS y ++ twoS m ++ twoS (d + 1) ++ twoS (r / 3600) ++ twoS (r / 60 % 60) ++ twoS (r % 60) ++ [90]
def timeOfS (y m d r : Nat) : List AV := if y < 2050 then leafC 0 23 false (clockS y m d r) else leafC 0 24 false (twoS (y / 100) ++ clockS y m d r)

theorem twoS_len (k : Nat) : (twoS k).length = 2 := rfl

theorem bef_lt {a b : Nat} (h : 1970 ≤ a) (hb : 1970 ≤ b) (hab : befN a ≤ befN b) : a ≤ b := by
  rcases Nat.lt_or_ge b a with h1 | h1
  · have := bef_mono hb (Nat.le_of_lt h1); omega
  · exact h1

theorem timeOf_zero {n : Int} {h : AHeap} (hn : n < 0 ∨ 253402300799 < n) (hn2 : n < 9223372036854775808) (hn3 : -9223372036854775808 ≤ n) (hq : Q (.ag (leafC 0 0 false [])) h) : C G_der_TimeOf.id [.i .i64 n] h Q := by
  refine G_der_TimeOf.call ?_
  simp only [G_der_TimeOf.t, G_der_TimeOf.j0]
  refine st_alloc fun h1 hl1 U1 R => ?_
  have p0 : G_der_TimeOf.p0 (kRet h Q) n (.p (some ⟨h.length, 5, 0⟩)) true h1 := by
    refine G_der_TimeOf.i0 ?_
    simp only [G_der_TimeOf.t0]
    exact bif_t rfl (ret_leaf (h1 := h1) rfl R (Nat.le_refl _) U1 hq)
  refine bif_both (fun e => p0) fun e => ?_
  simp only [decide_eq_false_iff_not] at e
  obtain ⟨k, rfl⟩ : ∃ k : Nat, n = k := ⟨n.toNat, by omega⟩
  refine quo_n (b := 86400) (by omega) (by omega) (before_c (y := 10000) (by omega) (by omega) (st_asI ?_))
  rw [decide_eq_true (by rw [show befN 10000 = 2932897 by decide]; omega)]
  exact p0

theorem Date.y4 {day y m d : Nat} (D : Date day y m d) (h : day ≤ 2932896) : y ≤ 9999 := by
  have h1 := D.y1
  have h2 : befN 10000 = 2932897 := by decide
  rcases Nat.lt_or_ge y 10000 with h | h
  · omega
  · have := bef_mono (a := 10000) (by omega) h; omega

theorem timeOf_c {n y m d : Nat} {h : AHeap} (hn : n ≤ 253402300799) (D : Date (n / 86400) y m d) (hq : Q (.ag (timeOfS y m d (n % 86400))) h) : C G_der_TimeOf.id [.i .i64 (n : Int)] h Q := by
  have hday : n / 86400 ≤ 2932896 := by omega
  have hy := D.y4 hday
  have hr : n % 86400 < 86400 := Nat.mod_lt _ (by omega)
  refine G_der_TimeOf.call ?_
  simp only [G_der_TimeOf.t, G_der_TimeOf.j0]
  refine st_alloc fun h1 hl1 U1 R => ?_
  refine bif_f (by simp) (quo_n (b := 86400) (by omega) (by omega) (before_c (y := 10000) (by omega) (by omega) (st_asI ?_)))
  rw [decide_eq_false (by rw [show befN 10000 = 2932897 by decide]; omega)]
  refine G_der_TimeOf.i0 ?_
  simp only [G_der_TimeOf.t0, G_der_TimeOf.j1]
  refine bif_f rfl (quo_n (b := 86400) (by omega) (by omega) (rem_n (b := 86400) (by omega) ?_))
  generalize n / 86400 = day at *
  generalize n % 86400 = r at *
  refine quo_n (b := 366) (by omega) (by omega) ?_
  refine withI_is (n := ((1970 + day / 366 : Nat) : Int)) (by rw [wrap_i64 (by omega) (by omega)]; omega) ?_
  obtain ⟨y0, y1, y2, m0, m1, d0, d1⟩ := D
  have p2 : ∀ k m', m' + k = m → 1 ≤ m' → G_der_TimeOf.p2 (kRet h Q) (.p (some ⟨h.length, 5, 0⟩)) ((monN y m + d - monN y m' : Nat) : Int) r y m' h1 := by
    intro k
    induction k with
    | zero =>
      intro m' hm' _
      have : m' = m := by omega
      subst this
      refine G_der_TimeOf.i2 ?_
      simp only [G_der_TimeOf.t2]
      refine days_c (st_asI (bif_f (by rw [decide_eq_false_iff_not]; omega) ?_))
      have hd31 := daysN_bd y m'
      refine rem_n (b := 100) (by omega) (callV_c rfl (two_c (by omega) (st_asS (callV_c rfl (two_c (by omega) (st_asS ⟨by simp [twoS_len], ?_⟩))))))
      refine withI_is (n := ((d + 1 : Nat) : Int)) (by rw [wrap_i64 (by omega) (by omega)]; omega) (callV_c rfl (two_c (by omega) (st_asS ⟨by simp [twoS_len], ?_⟩)))
      refine quo_n (b := 3600) (by omega) (by omega) (callV_c rfl (two_c (by omega) (st_asS ⟨by simp [twoS_len], ?_⟩)))
      refine quo_n (b := 60) (by omega) (by omega) (rem_n (b := 60) (by omega) (callV_c rfl (two_c (by omega) (st_asS ⟨by simp [twoS_len], ?_⟩))))
      refine rem_n (b := 60) (by omega) (callV_c rfl (two_c (by omega) (st_asS ⟨by simp [twoS_len], ⟨by simp [twoS_len], ?_⟩⟩)))
      rw [two_mod]
      unfold timeOfS at hq
      by_cases hy50 : y < 2050
      · rw [if_pos hy50] at hq
        exact bif_t (by rw [decide_eq_true_eq]; omega) (ret_leaf (h1 := h1) rfl R (Nat.le_refl _) U1 hq)
      · rw [if_neg hy50] at hq
        refine bif_f (by rw [decide_eq_false_iff_not]; omega) (quo_n (b := 100) (by omega) (by omega) (callV_c rfl (two_c (by omega) (st_asS ⟨by simp [twoS_len], ?_⟩))))
        exact ret_leaf (h1 := h1) rfl R (Nat.le_refl _) U1 hq
    | succ k ih =>
      intro m' hm' h1m
      have hms := mon_succ (y := y) h1m
      have hmm := mon_mono (y := y) (a := m' + 1) (b := m) (by omega) (by omega)
      refine G_der_TimeOf.i2 ?_
      simp only [G_der_TimeOf.t2, G_der_TimeOf.j2]
      refine days_c (st_asI (bif_t (by rw [decide_eq_true_eq]; omega) (days_c (st_asI ?_))))
      refine withI_is (n := ((monN y m + d - monN y (m' + 1) : Nat) : Int)) (by rw [wrap_i64 (by omega) (by omega)]; omega) (inc (by omega) ?_)
      exact ih (m' + 1) (by omega) (by omega)
  have p1 : ∀ k y', y' + k = y → 1970 ≤ y' → G_der_TimeOf.p1 (kRet h Q) (.p (some ⟨h.length, 5, 0⟩)) day r y' h1 := by
    intro k
    induction k with
    | zero =>
      intro y' hy' _
      have : y' = y := by omega
      subst this
      refine G_der_TimeOf.i1 ?_
      simp only [G_der_TimeOf.t1, G_der_TimeOf.j2]
      refine inc (by omega) (before_c (by omega) (by omega) (st_asI (bif_f (by rw [decide_eq_false_iff_not]; omega) (before_c (by omega) (by omega) (st_asI ?_)))))
      refine withI_is (n := ((monN y' m + d - monN y' 1 : Nat) : Int)) (by rw [wrap_i64 (by omega) (by omega), mon_1]; omega) ?_
      exact p2 (m - 1) 1 (by omega) (by omega)
    | succ k ih =>
      intro y' hy' h1y
      have := bef_mono (a := y' + 1) (b := y) (by omega) (by omega)
      refine G_der_TimeOf.i1 ?_
      simp only [G_der_TimeOf.t1, G_der_TimeOf.j1]
      refine inc (by omega) (before_c (by omega) (by omega) (st_asI (bif_t (by rw [decide_eq_true_eq]; omega) ?_)))
      exact inc (by omega) (ih (y' + 1) (by omega) (by omega))
  have hle : 1970 + day / 366 ≤ y := by
    have h1 := bef_up (a := 1970) (b := 1970 + day / 366) (by omega) (by omega)
    rw [bef_0] at h1
    rcases Nat.lt_or_ge y (1970 + day / 366) with h2 | h2
    · have := bef_mono (a := y + 1) (b := 1970 + day / 366) (by omega) (by omega)
      omega
    · exact h2
  exact p1 (y - (1970 + day / 366)) (1970 + day / 366) (by omega) (by omega)

theorem RtimeOf_zero {n : Int} {h : AHeap} (hn : n < 0 ∨ 253402300799 < n) (hq : Q (.ag (leafC 0 0 false [])) h) : C G_ref33_TimeOf.id [.i .i64 n] h Q := by
  refine G_ref33_TimeOf.call ?_
  simp only [G_ref33_TimeOf.t, G_ref33_TimeOf.j0]
  refine st_alloc fun h1 hl1 U1 R => ?_
  have p0 : G_ref33_TimeOf.p0 (kRet h Q) n (.p (some ⟨h.length, 5, 0⟩)) true h1 := by
    refine G_ref33_TimeOf.i0 ?_
    simp only [G_ref33_TimeOf.t0]
    exact bif_t rfl (ret_leaf (h1 := h1) rfl R (Nat.le_refl _) U1 hq)
  refine bif_both (fun e => p0) fun e => ?_
  simp only [decide_eq_false_iff_not] at e
  rw [decide_eq_true (by omega)]
  exact p0

theorem RtimeOf_c {n y m d : Nat} {h : AHeap} (hn : n ≤ 253402300799) (D : Date (n / 86400) y m d) (hq : Q (.ag (timeOfS y m d (n % 86400))) h) : C G_ref33_TimeOf.id [.i .i64 (n : Int)] h Q := by
  have hday : n / 86400 ≤ 2932896 := by omega
  have hy := D.y4 hday
  have hr : n % 86400 < 86400 := Nat.mod_lt _ (by omega)
  refine G_ref33_TimeOf.call ?_
  simp only [G_ref33_TimeOf.t, G_ref33_TimeOf.j0]
  refine st_alloc fun h1 hl1 U1 R => ?_
  refine bif_f (by simp) ?_
  rw [decide_eq_false (by omega)]
  refine G_ref33_TimeOf.i0 ?_
  simp only [G_ref33_TimeOf.t0, G_ref33_TimeOf.j1]
  refine bif_f rfl (quo_n (b := 86400) (by omega) (by omega) ?_)
  obtain ⟨y0, y1, y2, m0, m1, d0, d1⟩ := D
  generalize hD : n / 86400 = day at *
  have p2 : ∀ k m', m' + k = m → 1 ≤ m' → G_ref33_TimeOf.p3 (kRet h Q) n (.p (some ⟨h.length, 5, 0⟩)) ((monN y m + d - monN y m' : Nat) : Int) y m' h1 := by
    intro k
    induction k with
    | zero =>
      intro m' hm' _
      have : m' = m := by omega
      subst this
      refine G_ref33_TimeOf.i3 ?_
      simp only [G_ref33_TimeOf.t3]
      refine Rdays_c (st_asI (bif_f (by rw [decide_eq_false_iff_not]; omega) ?_))
      have hd31 := daysN_bd y m'
      refine rem_n (b := 86400) (by omega) ?_
      generalize n % 86400 = r at *
      refine Rtwo_c (by omega) (st_asS (Rtwo_c (by omega) (st_asS ⟨by simp [twoS_len], ?_⟩)))
      refine withI_is (n := ((d + 1 : Nat) : Int)) (by rw [wrap_i64 (by omega) (by omega)]; omega) (Rtwo_c (by omega) (st_asS ⟨by simp [twoS_len], ?_⟩))
      refine quo_n (b := 3600) (by omega) (by omega) (Rtwo_c (by omega) (st_asS ⟨by simp [twoS_len], ?_⟩))
      refine quo_n (b := 60) (by omega) (by omega) (rem_n (b := 60) (by omega) (Rtwo_c (by omega) (st_asS ⟨by simp [twoS_len], ?_⟩)))
      refine rem_n (b := 60) (by omega) (Rtwo_c (by omega) (st_asS ⟨by simp [twoS_len], ⟨by simp [twoS_len], ?_⟩⟩))
      unfold timeOfS at hq
      by_cases hy50 : y < 2050
      · rw [if_pos hy50] at hq
        exact bif_f (by rw [decide_eq_false_iff_not]; omega) (ret_leaf (h1 := h1) rfl R (Nat.le_refl _) U1 hq)
      · rw [if_neg hy50] at hq
        refine bif_t (by rw [decide_eq_true_eq]; omega) (quo_n (b := 100) (by omega) (by omega) (Rtwo_c (by omega) (st_asS ⟨by simp [twoS_len], ?_⟩)))
        exact ret_leaf (h1 := h1) rfl R (Nat.le_refl _) U1 hq
    | succ k ih =>
      intro m' hm' h1m
      have hms := mon_succ (y := y) h1m
      have hmm := mon_mono (y := y) (a := m' + 1) (b := m) (by omega) (by omega)
      refine G_ref33_TimeOf.i3 ?_
      simp only [G_ref33_TimeOf.t3, G_ref33_TimeOf.j3]
      refine Rdays_c (st_asI (bif_t (by rw [decide_eq_true_eq]; omega) (Rdays_c (st_asI ?_))))
      refine withI_is (n := ((monN y m + d - monN y (m' + 1) : Nat) : Int)) (by rw [wrap_i64 (by omega) (by omega)]; omega) (inc (by omega) ?_)
      exact ih (m' + 1) (by omega) (by omega)
  have p1 : ∀ k y', y' + k = y → 1970 ≤ y' → G_ref33_TimeOf.p1 (kRet h Q) n (.p (some ⟨h.length, 5, 0⟩)) ((day - befN y' : Nat) : Int) y' h1 := by
    intro k
    induction k with
    | zero =>
      intro y' hy' _
      have : y' = y := by omega
      subst this
      have hb := bef_succ y0
      have go : ∀ x : Nat, x = yearN y' → G_ref33_TimeOf.p2 (kRet h Q) n (.p (some ⟨h.length, 5, 0⟩)) ((day - befN y' : Nat) : Int) y' x h1 := by
        intro x hx
        refine G_ref33_TimeOf.i2 ?_
        simp only [G_ref33_TimeOf.t2, G_ref33_TimeOf.j3]
        refine bif_t (by rw [decide_eq_true_eq]; omega) ?_
        have := p2 (m - 1) 1 (by omega) (by omega)
        rw [mon_1, show monN y' m + d - 0 = day - befN y' by omega] at this
        exact this
      unfold yearN at go
      refine G_ref33_TimeOf.i1 ?_
      simp only [G_ref33_TimeOf.t1, G_ref33_TimeOf.j2]
      refine Rleap_c (st_asB (bif_both (fun e => go 366 ?_) fun e => go 365 ?_))
      · rw [if_pos e]
      · rw [if_neg (by rw [e]; simp)]
    | succ k ih =>
      intro y' hy' h1y
      have hb := bef_succ h1y
      have := bef_mono (a := y' + 1) (b := y) (by omega) (by omega)
      have go : ∀ x : Nat, x = yearN y' → G_ref33_TimeOf.p2 (kRet h Q) n (.p (some ⟨h.length, 5, 0⟩)) ((day - befN y' : Nat) : Int) y' x h1 := by
        intro x hx
        refine G_ref33_TimeOf.i2 ?_
        simp only [G_ref33_TimeOf.t2, G_ref33_TimeOf.j1]
        refine bif_f (by rw [decide_eq_false_iff_not]; omega) ?_
        refine withI_is (n := ((day - befN (y' + 1) : Nat) : Int)) (by rw [wrap_i64 (by omega) (by omega)]; omega) (inc (by omega) (ih (y' + 1) (by omega) (by omega)))
      unfold yearN at go
      refine G_ref33_TimeOf.i1 ?_
      simp only [G_ref33_TimeOf.t1, G_ref33_TimeOf.j2]
      refine Rleap_c (st_asB (bif_both (fun e => go 366 ?_) fun e => go 365 ?_))
      · rw [if_pos e]
      · rw [if_neg (by rw [e]; simp)]
  have := p1 (y - 1970) 1970 (by omega) (by omega)
  rw [bef_0, Nat.sub_zero] at this
  exact this

end
end Go.Proofs.YtffgchcidkapjaaDoor
