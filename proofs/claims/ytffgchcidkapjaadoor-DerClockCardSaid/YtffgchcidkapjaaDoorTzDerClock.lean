/- DerClock. -/
import Derived.Test.YtffgchcidkapjaaDoorTye
import Derived.Test.YtffgchcidkapjaaDoorTlDerClock
set_option linter.unusedVariables false
set_option linter.unusedSimpArgs false
set_option linter.unusedSectionVars false
set_option maxRecDepth 20000
namespace Go.Proofs.YtffgchcidkapjaaDoor
open Go.GAM Go.RowKit

/-! ### texts ascend -/

theorem less_same (p : List UInt8) (x y : List UInt8) : Op.bytesLess (p ++ x) (p ++ y) = Op.bytesLess x y := by
  induction p with
  | nil => rfl
  | cons a p ih =>
    show (decide (a < a) || (a == a && Op.bytesLess (p ++ x) (p ++ y))) = _
    rw [ih]
    simp [UInt8.lt_irrefl]
theorem two_lt {a b : Nat} (h : a < b) (hb : b < 100) (x y : List UInt8) : Op.bytesLess (twoS a ++ x) (twoS b ++ y) = true := by
  have key : ∀ a, a < 100 → ∀ b, b < 100 → a < b → (UInt8.ofNat (48 + a / 10 % 10) < UInt8.ofNat (48 + b / 10 % 10) ∨ (UInt8.ofNat (48 + a / 10 % 10) = UInt8.ofNat (48 + b / 10 % 10) ∧ UInt8.ofNat (48 + a % 10) < UInt8.ofNat (48 + b % 10))) := by decide +kernel
  show (decide (UInt8.ofNat (48 + a / 10 % 10) < UInt8.ofNat (48 + b / 10 % 10)) || (UInt8.ofNat (48 + a / 10 % 10) == UInt8.ofNat (48 + b / 10 % 10) && (decide (UInt8.ofNat (48 + a % 10) < UInt8.ofNat (48 + b % 10)) || (UInt8.ofNat (48 + a % 10) == UInt8.ofNat (48 + b % 10) && Op.bytesLess x y)))) = true
  rcases key a (by omega) b hb h with h1 | ⟨h1, h2⟩
  · rw [decide_eq_true h1]; rfl
  · rw [h1, decide_eq_true h2]; simp

theorem date_lex {day day' y m d y' m' d' : Nat} (D : Date day y m d) (D' : Date day' y' m' d') (h : day ≤ day') : y < y' ∨ y = y' ∧ (m < m' ∨ m = m' ∧ d' = d + (day' - day)) := by
  obtain ⟨a0, a1, a2, a3, a4, a5, a6⟩ := D
  obtain ⟨b0, b1, b2, b3, b4, b5, b6⟩ := D'
  have hy : y ≤ y' := by
    rcases Nat.lt_or_ge y' y with h1 | h1
    · have := bef_mono (a := y' + 1) (b := y) (by omega) (by omega)
      omega
    · exact h1
  rcases Nat.lt_or_ge y y' with h1 | h1
  · exact .inl h1
  have he : y = y' := by omega
  subst he
  refine .inr ⟨rfl, ?_⟩
  have hm : m ≤ m' := by
    rcases Nat.lt_or_ge m' m with h2 | h2
    · have h3 := mon_mono (y := y) (a := m' + 1) (b := m) (by omega) (by omega)
      have h4 := mon_succ (y := y) b3
      omega
    · exact h2
  rcases Nat.lt_or_ge m m' with h2 | h2
  · exact .inl h2
  have he : m = m' := by omega
  subst he
  exact .inr ⟨rfl, by omega⟩

def tg (y : Nat) : Nat := if y < 2050 then 23 else 24
def dt (y m d r : Nat) : List UInt8 := if y < 2050 then clockS y m d r else twoS (y / 100) ++ clockS y m d r
theorem timeOf_is (y m d r : Nat) : timeOfS y m d r = leafC 0 (tg y : Nat) false (dt y m d r) := by
  unfold timeOfS tg dt
  split <;> rfl
theorem clock_len (y m d r : Nat) : (clockS y m d r).length = 13 := rfl
theorem dt_len (y m d r : Nat) : (dt y m d r).length = if y < 2050 then 13 else 15 := by
  unfold dt
  split <;> rfl
theorem dt_end (y m d r : Nat) : ∃ p, dt y m d r = p ++ (twoS (r / 3600) ++ twoS (r / 60 % 60) ++ twoS (r % 60) ++ [90]) := by
  unfold dt clockS
  split
  · exact ⟨twoS y ++ twoS m ++ twoS (d + 1), by simp⟩
  · exact ⟨twoS (y / 100) ++ (twoS y ++ twoS m ++ twoS (d + 1)), by simp⟩

theorem clock_less {n n' y m d y' m' d' : Nat} (D : Date (n / 86400) y m d) (D' : Date (n' / 86400) y' m' d') (h : n < n') (hy : y' ≤ 9999) (x : List UInt8) :
    Op.bytesLess (twoS (y / 100) ++ clockS y m d (n % 86400)) (twoS (y' / 100) ++ clockS y' m' d' (n' % 86400)) = true := by
  have hl := date_lex D D' (by omega)
  have hd1 := D.d1
  have hd2 := D'.d1
  have hb := daysN_bd y m
  have hb' := daysN_bd y' m'
  have hm := D.m1
  have hm' := D'.m1
  unfold clockS
  rw [← two_mod y, ← two_mod y']
  simp only [List.append_assoc]
  rcases hl with h1 | ⟨rfl, h1⟩
  · by_cases h2 : y / 100 < y' / 100
    · exact two_lt h2 (by omega) _ _
    · rw [show y / 100 = y' / 100 by omega, less_same]
      exact two_lt (by omega) (by omega) _ _
  rw [less_same, less_same]
  rcases h1 with h1 | ⟨rfl, h1⟩
  · exact two_lt h1 (by omega) _ _
  rw [less_same]
  by_cases h2 : d < d'
  · exact two_lt (by omega) (by omega) _ _
  have hdd : d' = d := by omega
  subst hdd
  rw [less_same]
  have hr : n % 86400 < n' % 86400 := by omega
  have hr2 : n' % 86400 < 86400 := Nat.mod_lt _ (by omega)
  generalize n % 86400 = r at *
  generalize n' % 86400 = r' at *
  by_cases h3 : r / 3600 < r' / 3600
  · exact two_lt h3 (by omega) _ _
  rw [show r / 3600 = r' / 3600 by omega, less_same]
  by_cases h4 : r / 60 % 60 < r' / 60 % 60
  · exact two_lt h4 (by omega) _ _
  rw [show r / 60 % 60 = r' / 60 % 60 by omega, less_same]
  exact two_lt (by omega) (by omega) _ _

/-! ### the walk -/

section
variable {h h0 : AHeap}

theorem Ck_p3 : G_law33_DerClock.p3 (kRet h0 Yes) true h := by
  refine G_law33_DerClock.i3 ?_
  simp only [G_law33_DerClock.t3]
  exact kRet_yes

theorem Ck_p2 {id : Nat} {y m d r : Nat} (R : RecAt h id (leafC 0 (tg y : Nat) false (dt y m d r))) (x : AV) : G_law33_DerClock.p2 (kRet h0 Yes) (.p (some ⟨id, 5, 0⟩)) false h := by
  obtain ⟨p, hp⟩ := dt_end y m d r
  have hl := dt_len y m d r
  refine G_law33_DerClock.i2 ?_
  simp only [G_law33_DerClock.t2, G_law33_DerClock.j3]
  refine bif_f rfl (st_fld (st_load R rfl rfl (st_asS (st_fld (st_load R rfl rfl (st_asS ?_))))))
  generalize hs : dt y m d r = s at *
  have hsl : 1 ≤ s.length := by rw [hl]; split <;> omega
  refine withI_is (n := ((s.length - 1 : Nat) : Int)) (by rw [wrap_i64 (by omega) (by rw [hl]; split <;> omega)]; omega) ?_
  have hc : s[s.length - 1]? = some 90 := by
    rw [hp, List.getElem?_append_right (by simp; omega)]
    have e : (p ++ (twoS (r / 3600) ++ twoS (r / 60 % 60) ++ twoS (r % 60) ++ [90])).length - 1 - p.length = 6 := by
      rw [List.length_append]
      show p.length + 7 - 1 - p.length = 6
      omega
    rw [e]; rfl
  refine idxStr hc (bif_t rfl (st_fld (st_load R rfl rfl (st_asI ?_))))
  unfold tg
  by_cases hy : y < 2050
  · rw [if_pos hy] at hl
    simp only [if_pos hy]
    exact bif_t rfl (st_fld (st_load R rfl rfl (st_asS (bif_t (by rw [hl]; rfl) Ck_p3))))
  · rw [if_neg hy] at hl
    simp only [if_neg hy]
    refine bif_f rfl (st_fld (st_load R rfl rfl (st_asI ?_)))
    unfold tg
    simp only [if_neg hy]
    refine bif_t rfl (st_fld (st_load R rfl rfl (st_asS ?_)))
    rw [hl]
    exact Ck_p3

theorem Ck_p1 {n n' : Nat} {ia ib y m d y' m' d' : Nat} (hn : n < n') (hn2 : n' ≤ 253402300799) (A : RecAt h ia (leafC 0 (tg y : Nat) false (dt y m d (n % 86400)))) (B : RecAt h ib (leafC 0 (tg y' : Nat) false (dt y' m' d' (n' % 86400)))) :
    G_law33_DerClock.p1 (kRet h0 Yes) ((n' - n : Nat) : Int) (.p (some ⟨ia, 5, 0⟩)) (.p (some ⟨ib, 5, 0⟩)) false h := by
  have hla := dt_len y m d (n % 86400)
  have hlb := dt_len y' m' d' (n' % 86400)
  refine G_law33_DerClock.i1 ?_
  simp only [G_law33_DerClock.t1, G_law33_DerClock.j2]
  refine bif_f rfl (rem_n (b := 86400) (by omega) ?_)
  refine bif_both (fun e => ?_) fun e => Ck_p2 A .u
  simp only [decide_eq_true_eq] at e
  have er : n % 86400 = n' % 86400 := by omega
  refine st_fld (st_load A rfl rfl (st_asS (st_fld (st_load A rfl rfl (st_asS ?_)))))
  have ha : 7 ≤ (dt y m d (n % 86400)).length ∧ (dt y m d (n % 86400)).length ≤ 15 := by rw [hla]; split <;> omega
  have hb : 7 ≤ (dt y' m' d' (n' % 86400)).length ∧ (dt y' m' d' (n' % 86400)).length ≤ 15 := by rw [hlb]; split <;> omega
  refine withI_is (n := (((dt y m d (n % 86400)).length - 7 : Nat) : Int)) (by rw [wrap_i64 (by omega) (by omega)]; omega) (st_subs (by omega) ?_)
  refine st_fld (st_load B rfl rfl (st_asS (st_fld (st_load B rfl rfl (st_asS ?_)))))
  refine withI_is (n := (((dt y' m' d' (n' % 86400)).length - 7 : Nat) : Int)) (by rw [wrap_i64 (by omega) (by omega)]; omega) (st_subs (by omega) ?_)
  have cut : ∀ y m d r, (dt y m d r).drop ((dt y m d r).length - 7) = twoS (r / 3600) ++ twoS (r / 60 % 60) ++ twoS (r % 60) ++ [90] := by
    intro y m d r
    obtain ⟨p, hp⟩ := dt_end y m d r
    rw [hp]
    have e : (p ++ (twoS (r / 3600) ++ twoS (r / 60 % 60) ++ twoS (r % 60) ++ [90])).length - 7 = p.length := by
      rw [List.length_append]
      show p.length + 7 - 7 = p.length
      omega
    rw [e, List.drop_left]
  rw [cut, cut, er]
  have hd : (!decide (twoS (n' % 86400 / 3600) ++ twoS (n' % 86400 / 60 % 60) ++ twoS (n' % 86400 % 60) ++ [90] = twoS (n' % 86400 / 3600) ++ twoS (n' % 86400 / 60 % 60) ++ twoS (n' % 86400 % 60) ++ [90])) = false := by simp
  rw [hd]
  exact Ck_p2 A .u

theorem Ck_p0 {n by' : Int} {b : Bool} (hb : b = true ∨ (0 ≤ n ∧ n ≤ 253402300799 ∧ 1 ≤ by' ∧ by' ≤ 253402300799 - n)) : G_law33_DerClock.p0 (kRet h0 Yes) n by' b h := by
  refine G_law33_DerClock.i0 ?_
  simp only [G_law33_DerClock.t0, G_law33_DerClock.j1]
  refine bif_both (fun e => kRet_yes) fun e => ?_
  obtain ⟨g0, g1, g2, g3⟩ := hb.resolve_left (by rw [e]; simp)
  obtain ⟨k, rfl⟩ : ∃ k : Nat, n = k := ⟨n.toNat, by omega⟩
  obtain ⟨j, rfl⟩ : ∃ j : Nat, by' = j := ⟨by'.toNat, by omega⟩
  obtain ⟨y, m, d, D⟩ := date_is (k / 86400)
  obtain ⟨y', m', d', D'⟩ := date_is ((k + j) / 86400)
  have hy' := D'.y4 (by omega)
  refine timeOf_c (by omega) D ?_
  refine withI_is (n := ((k + j : Nat) : Int)) (by rw [wrap_i64 (by omega) (by omega)]; omega) (timeOf_c (by omega) D' ?_)
  rw [timeOf_is, timeOf_is]
  refine st_alloc fun h1 hl1 U1 A => st_alloc fun h2 hl2 U2 B => ?_
  have A := A.upd U2 fun h => h
  refine st_storeN A rfl rfl rfl fun h3 hl3 U3 A => ?_
  have B := B.upd U3 (by omega)
  refine st_storeN B rfl rfl rfl fun h4 hl4 U4 B => ?_
  have A := A.upd U4 (by omega)
  have hla := dt_len y m d (k % 86400)
  have hlb := dt_len y' m' d' ((k + j) % 86400)
  have hle := date_lex D D' (by omega)
  have fin : G_law33_DerClock.p1 (kRet h0 Yes) j (.p (some ⟨h.length, 5, 0⟩)) (.p (some ⟨h1.length, 5, 0⟩)) false h4 := by
    have := Ck_p1 (h0 := h0) (n := k) (n' := k + j) (by omega) (by omega) A B
    rw [show k + j - k = j by omega] at this
    exact this
  have ltf : ∀ l : List UInt8, 13 ≤ l.length → decide ((l.length : Int) < 13) = false := fun l hl => decide_eq_false (by omega)
  have ea := ltf (dt y m d (k % 86400)) (by rw [hla]; split <;> omega)
  have eb := ltf (dt y' m' d' ((k + j) % 86400)) (by rw [hlb]; split <;> omega)
  have tail : pFieldAddr 3 (.p (some ⟨h.length, 5, 0⟩)) fun v57 => pLoad1 v57 h4 fun v58 => asS v58 fun l59 =>
      (bif decide ((l59.length : Int) < 13) then G_law33_DerClock.p1 (kRet h0 Yes) j (.p (some ⟨h.length, 5, 0⟩)) (.p (some ⟨h1.length, 5, 0⟩)) true h4
      else pFieldAddr 3 (.p (some ⟨h1.length, 5, 0⟩)) fun v61 => pLoad1 v61 h4 fun v62 => asS v62 fun l63 => G_law33_DerClock.p1 (kRet h0 Yes) j (.p (some ⟨h.length, 5, 0⟩)) (.p (some ⟨h1.length, 5, 0⟩)) (decide ((l63.length : Int) < 13)) h4) := by
    refine st_fld (st_load A rfl rfl (st_asS (bif_f ea (st_fld (st_load B rfl rfl (st_asS ?_))))))
    rw [eb]; exact fin
  refine st_fld (st_load A rfl rfl (st_asI (st_fld (st_load B rfl rfl (st_asI ?_)))))
  have htg : tg y ≤ tg y' := by
    unfold tg
    split <;> split <;> omega
  refine bif_f (by rw [decide_eq_false_iff_not]; omega) ?_
  refine st_fld (st_load A rfl rfl (st_asI (st_fld (st_load B rfl rfl (st_asI ?_)))))
  refine bif_both (fun e1 => st_fld (st_load A rfl rfl (st_asI ?_))) fun e1 => tail
  refine bif_both (fun e2 => ?_) fun e2 => tail
  simp only [decide_eq_true_eq] at e1 e2
  have hy50 : ¬ y < 2050 := fun hh => by unfold tg at e2; rw [if_pos hh] at e2; omega
  have hy50' : ¬ y' < 2050 := fun hh => by rw [e2] at e1; unfold tg at e1; rw [if_pos hh] at e1; omega
  have hless := clock_less D D' (by omega) hy' []
  have hdt : dt y m d (k % 86400) = twoS (y / 100) ++ clockS y m d (k % 86400) := by unfold dt; rw [if_neg hy50]
  have hdt' : dt y' m' d' ((k + j) % 86400) = twoS (y' / 100) ++ clockS y' m' d' ((k + j) % 86400) := by unfold dt; rw [if_neg hy50']
  rw [← hdt, ← hdt'] at hless
  refine st_fld (st_load A rfl rfl (st_asS (st_fld (st_load B rfl rfl (st_asS (bif_f (by rw [hless]; rfl) tail))))))

theorem clock_c {n by' : Int} (hn : -9223372036854775808 ≤ n ∧ n < 9223372036854775808) (hb : -9223372036854775808 ≤ by' ∧ by' < 9223372036854775808) : C G_law33_DerClock.id [.i .i64 n, .i .i64 by'] h Yes := by
  refine G_law33_DerClock.call ?_
  simp only [G_law33_DerClock.t, G_law33_DerClock.j0]
  refine lives_c fun h' _ => st_asB (bif_f rfl ?_)
  refine bif_both (fun e => Ck_p0 (.inl rfl)) fun e1 => ?_
  refine bif_both (fun e => Ck_p0 (.inl rfl)) fun e2 => ?_
  refine bif_both (fun e => Ck_p0 (.inl rfl)) fun e3 => ?_
  simp only [decide_eq_false_iff_not] at e1 e2 e3
  refine withI_is (n := 253402300799 - n) (wrap_i64 (by omega) (by omega)) ?_
  by_cases h4 : 253402300799 - n < by'
  · rw [decide_eq_true h4]; exact Ck_p0 (.inl rfl)
  · exact Ck_p0 (.inr ⟨by omega, by omega, by omega, by omega⟩)
end

theorem walk_DerClock {n b : Int} (W : World) (hL : laidMet Tryd.prog Rows.derClockRow.laid W) (w0 : (Lit.int .i64 n).wf = true) (w1 : (Lit.int .i64 b).wf = true) :
    Calls Tryd.prog 8 #[.int .i64 n, .int .i64 b] W fun e w' => e = .returned (.bool true) ∧ Below W.heap.size W w' :=
  law_calls mixedOK sizeOK soundX (by kernel_rfl) (szOf := fun _ => 5) (.cons _ _ _ _ (.i _ _) (.cons _ _ _ _ (.i _ _) .nil)) (clock_c (i64_bd w0) (i64_bd w1))

end Go.Proofs.YtffgchcidkapjaaDoor
