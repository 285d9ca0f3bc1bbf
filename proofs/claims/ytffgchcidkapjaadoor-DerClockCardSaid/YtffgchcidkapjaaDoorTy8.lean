/- plain; numbers; texts. -/
import Derived.Test.YtffgchcidkapjaaDoorTy7
import Derived.Test.YtffgchcidkapjaaDoorAm25
set_option linter.unusedVariables false
set_option linter.unusedSimpArgs false
set_option linter.unusedSectionVars false
set_option maxRecDepth 20000
namespace Go.Proofs.YtffgchcidkapjaaDoor
open Go.GAM Go.RowKit

def Der.data : Der → List UInt8 | .mk _ _ _ s _ => s
def dPlain (tag : Int) : Der → Bool | .mk c t m s ks => decide (c = 0) && (decide (t = tag) && (!m && decide (ks.length = 0)))
/-- The cells of a value without kids. -/
def leafC (c t : Int) (m : Bool) (s : List UInt8) : List AV := [.i .i64 c, .i .i64 t, .b m, .s s, .sl none 0 none]

section
variable {h0 : AHeap} {Q : AV → AHeap → Prop}

theorem plain_c {d : Der} {cs : List AV} {F : Nat → Prop} {tag : Int} {h : AHeap} (D : DV h F d cs) (hq : Q (.b (dPlain tag d)) h) : C G_der_plain.id [.ag cs, .i .i64 tag] h Q := by
  cases D with
  | @mk c t m s ks v rows Dk sv fv ov =>
  refine G_der_plain.call ?_
  simp only [G_der_plain.t, G_der_plain.j0]
  refine st_box rfl fun h1 hl1 U1 B => ?_
  have S1 := sv.upd U1 fun _ _ _ h => h
  have p0 : ∀ b, b = (decide (c = 0) && (decide (t = tag) && (!m && decide (ks.length = 0)))) → G_der_plain.p0 (kRet h Q) b h1 := by
    intro b hb
    refine G_der_plain.i0 ?_
    simp only [G_der_plain.t0]
    subst hb
    exact kRet_pure rfl U1.ext hq
  refine st_fld (st_load B rfl rfl (st_asI ?_))
  refine bif_both (fun e1 => st_fld (st_load B rfl rfl (st_asI ?_))) fun e1 => p0 _ (by rw [e1]; rfl)
  refine bif_both (fun e2 => st_fld (st_load B rfl rfl (st_asB ?_))) fun e2 => p0 _ (by rw [e1, e2]; rfl)
  refine bif_both (fun e3 => st_fld (st_load B rfl rfl (S1.len (p0 _ ?_)))) fun e3 => p0 _ (by rw [e1, e2, e3]; rfl)
  rw [e1, e2, e3, ← Dk.length]
  simp
theorem Rplain_c {d : Der} {cs : List AV} {F : Nat → Prop} {tag : Int} {h : AHeap} (D : DV h F d cs) (hq : Q (.b (dPlain tag d)) h) : C G_ref33_plain.id [.ag cs, .i .i64 tag] h Q := by
  cases D with
  | @mk c t m s ks v rows Dk sv fv ov =>
  refine G_ref33_plain.call ?_
  simp only [G_ref33_plain.t, G_ref33_plain.j0]
  refine st_box rfl fun h1 hl1 U1 B => ?_
  have S1 := sv.upd U1 fun _ _ _ h => h
  have p0 : ∀ b, b = (decide (c = 0) && (decide (t = tag) && (!m && decide (ks.length = 0)))) → G_ref33_plain.p0 (kRet h Q) b h1 := by
    intro b hb
    refine G_ref33_plain.i0 ?_
    simp only [G_ref33_plain.t0]
    subst hb
    exact kRet_pure rfl U1.ext hq
  refine st_fld (st_load B rfl rfl (st_asI ?_))
  refine bif_both (fun e1 => st_fld (st_load B rfl rfl (st_asI ?_))) fun e1 => p0 _ (by rw [e1]; rfl)
  refine bif_both (fun e2 => st_fld (st_load B rfl rfl (st_asB ?_))) fun e2 => p0 _ (by rw [e1, e2]; rfl)
  refine bif_both (fun e3 => st_fld (st_load B rfl rfl (S1.len (p0 _ ?_)))) fun e3 => p0 _ (by rw [e1, e2, e3]; rfl)
  rw [e1, e2, e3, ← Dk.length]
  simp

/-- The value in a box of its own, read. -/
theorem DV.box {d : Der} {cs : List AV} {F : Nat → Prop} {h : AHeap} (D : DV h F d cs) {K : AV → AHeap → Prop} (hk : ∀ h1, h1.length = h.length + 1 → Upd (fun _ => False) h h1 → RecAt h1 h.length cs → DV h1 F d cs → K (.p (some ⟨h.length, 5, 0⟩)) h1) : pBox (.ag cs) h K := by
  refine st_box rfl fun h1 hl1 U1 B => ?_
  have hp : (AV.ag cs).parts.length = 5 := D.len
  rw [hp]
  exact hk h1 hl1 U1 B (D.ext U1)
theorem DV.dat {d : Der} {cs : List AV} {F : Nat → Prop} {h : AHeap} (D : DV h F d cs) : cs[3]? = some (.s d.data) := by cases D; rfl

/-! ### Int -/

def intBad (s : List UInt8) : Bool := match s with
  | [] => true
  | [_] => false
  | a :: b :: r => decide (6 < (a :: b :: r).length) || ((decide (a.toNat = 0) && decide (b.toNat < 128)) || (decide (a.toNat = 255) && decide (128 ≤ b.toNat)))
theorem intBad_2 (a b : UInt8) (r : List UInt8) : intBad (a :: b :: r) = (decide (6 < (a :: b :: r).length) || ((decide (a.toNat = 0) && decide (b.toNat < 128)) || (decide (a.toNat = 255) && decide (128 ≤ b.toNat)))) := rfl
def intF (n : Int) (l : List UInt8) : Int := l.foldl (fun n c => n * 256 + (c.toNat : Int)) n
def intV : List UInt8 → Int
  | [] => 0
  | a :: r => intF (if a.toNat < 128 then (a.toNat : Int) else (a.toNat : Int) - 256) r
def intS (d : Der) : Int × Bool := if dPlain 2 d = true ∧ intBad d.data = false then (intV d.data, true) else (0, false)

theorem intF_bd : ∀ (l : List UInt8) (n : Int) (k : Nat), -(256 ^ k : Nat) ≤ n → n < (256 ^ k : Nat) → -((256 ^ (k + l.length) : Nat) : Int) ≤ intF n l ∧ intF n l < ((256 ^ (k + l.length) : Nat) : Int)
  | [], n, k, h0, h1 => ⟨h0, h1⟩
  | c :: r, n, k, h0, h1 => by
    have hc := c.toNat_lt
    have e : 256 ^ (k + 1) = 256 ^ k * 256 := Nat.pow_succ ..
    have := intF_bd r (n * 256 + (c.toNat : Int)) (k + 1) (by omega) (by omega)
    rw [show k + (c :: r).length = k + 1 + r.length by simp; omega]
    exact this

theorem int_p2 {s : List UInt8} {h : AHeap} {v : Int} (hs : s.length ≤ 6) (hq : Q (.tu [.i .i64 v, .b true]) h) {h1 : AHeap} (E : Ext h h1) : ∀ (r : List UInt8) (i : Nat) (n : Int), s.drop i = r → i ≤ 6 → -((256 ^ i : Nat) : Int) ≤ n → n < ((256 ^ i : Nat) : Int) → intF n r = v → G_der_Int.p2 (kRet h Q) s n i h1 := by
  intro r
  induction r with
  | nil =>
    intro i n hr hi h0 h2 hv
    have := drop_end hr
    refine G_der_Int.i2 ?_
    simp only [G_der_Int.t2]
    have : n = v := hv
    subst this
    exact bif_f (by simp; omega) (kRet_pure rfl E hq)
  | cons c r ih =>
    intro i n hr hi h0 h2 hv
    have hlt := drop_lt hr
    have hn := drop_next hr
    have hc := c.toNat_lt
    have hp : 256 ^ i ≤ 256 ^ 5 := Nat.pow_le_pow_right (by omega) (by omega)
    have e : 256 ^ (i + 1) = 256 ^ i * 256 := Nat.pow_succ ..
    refine G_der_Int.i2 ?_
    simp only [G_der_Int.t2, G_der_Int.j2]
    refine bif_t (by simp; omega) ?_
    refine st_shlI (n := n * 256) (b := 8) (by omega) rfl (by omega) (by omega) (st_at hr ?_)
    refine withI_is (n := n * 256 + (c.toNat : Int)) (by rw [wrap_i64 (by omega) (by omega), or_low (by omega) (by omega) (by omega)]) (inc (by omega) ?_)
    exact ih (i + 1) _ hn (by omega) (by omega) (by omega) hv

def intR (x : Int × Bool) : AV := .tu [.i .i64 x.1, .b x.2]
theorem int_c {d : Der} {cs : List AV} {F : Nat → Prop} {h : AHeap} (D : DV h F d cs) (hs : d.data.length ≤ 100000) (hq : Q (intR (intS d)) h) : C G_der_Int.id [.ag cs] h Q := by
  refine G_der_Int.call ?_
  simp only [G_der_Int.t, G_der_Int.j0]
  refine D.box fun h1 hl1 U1 B D1 => st_fld (st_load B D.len.symm D.dat (st_asS (st_loadN B D.len.symm (plain_c D1 (st_asB ?_)))))
  have E := U1.ext
  unfold intS at hq
  generalize d.data = s at *
  have p1 : ∀ b, b = true → (b = intBad s ∨ dPlain 2 d = false) → G_der_Int.p0 (kRet h Q) s b h1 := by
    intro b hb hp
    subst hb
    refine G_der_Int.i0 ?_
    simp only [G_der_Int.t0]
    rw [if_neg (by rcases hp with h | h <;> simp [h] <;> simp [← h])] at hq
    exact bif_t rfl (kRet_pure rfl E hq)
  have p2 : intBad s = false → dPlain 2 d = true → s.length ≤ 6 → ∀ a r, s = a :: r → G_der_Int.p1 (kRet h Q) s false h1 := by
    intro hb hp hl a r hsr
    have ha := a.toNat_lt
    rw [if_pos ⟨hp, hb⟩] at hq
    refine G_der_Int.i1 ?_
    simp only [G_der_Int.t1, G_der_Int.j2]
    refine bif_f rfl (st_at (i := 0) hsr ?_)
    rw [wrap_i8]
    have hw : -128 ≤ (if a.toNat < 128 then (a.toNat : Int) else (a.toNat : Int) - 256) ∧ (if a.toNat < 128 then (a.toNat : Int) else (a.toNat : Int) - 256) < 128 := by split <;> omega
    refine withI_is (wrap_i64 (by omega) (by omega)) ?_
    refine int_p2 (v := intV s) hl hq E r 1 _ (by rw [hsr]; rfl) (by omega) ?_ ?_ (by rw [hsr]; rfl)
    · rw [Nat.pow_one]; omega
    · rw [Nat.pow_one]; omega
  refine bif_both (fun e => p1 _ rfl (.inr (by simpa using e))) fun e => ?_
  have hp : dPlain 2 d = true := by simpa using e
  obtain hs2 | ⟨a, r, hs2⟩ : s = [] ∨ ∃ a r, s = a :: r := by
    cases s with
    | nil => exact .inl rfl
    | cons a r => exact .inr ⟨a, r, rfl⟩
  · exact bif_t (by rw [hs2]; rfl) (p1 _ rfl (.inl (by rw [hs2]; rfl)))
  ·
    refine bif_f (by rw [hs2]; rfl) ?_
    by_cases hl : 6 < s.length
    · rw [decide_eq_true (show (6 : Int) < s.length by omega)]
      refine p1 _ rfl (.inl ?_)
      rw [hs2] at hl ⊢
      cases r with
      | nil => simp at hl
      | cons b r => rw [intBad_2, decide_eq_true hl]; rfl
    rw [decide_eq_false (show ¬ (6 : Int) < s.length by omega)]
    refine G_der_Int.i0 ?_
    simp only [G_der_Int.t0, G_der_Int.j1]
    refine bif_f rfl ?_
    have q1 : ∀ b, b = intBad s → G_der_Int.p1 (kRet h Q) s b h1 := by
      intro b hb
      cases b with
      | false => exact p2 hb.symm hp (by omega) a r hs2
      | true =>
        refine G_der_Int.i1 ?_
        simp only [G_der_Int.t1]
        rw [if_neg (by simp [← hb])] at hq
        exact bif_t rfl (kRet_pure rfl E hq)
    cases hr2 : r with
    | nil =>
      refine bif_f (by rw [hs2, hr2]; rfl) (q1 _ ?_)
      rw [hs2, hr2]; rfl
    | cons b r' =>
      have hs3 : s = a :: b :: r' := by rw [hs2, hr2]
      have hb : intBad s = ((decide (a.toNat = 0) && decide (b.toNat < 128)) || (decide (a.toNat = 255) && decide (128 ≤ b.toNat))) := by
        rw [hs3] at hl ⊢
        rw [intBad_2, decide_eq_false hl]; rfl
      rw [hb] at q1
      have d0 : s.drop 0 = a :: b :: r' := hs3
      have d1 : s.drop 1 = b :: r' := by rw [hs3]; rfl
      refine bif_t (by rw [hs3]; simp; omega) (st_at (i := 0) d0 ?_)
      refine bif_both (fun e1 => st_at (i := 1) d1 ?_) fun e1 => st_at (i := 0) d0 ?_
      · simp only [decide_eq_true_eq] at e1
        have a0 : a.toNat = 0 := by omega
        refine bif_both (fun e2 => q1 _ ?_) fun e2 => st_at (i := 0) d0 ?_
        · simp only [decide_eq_true_eq] at e2
          have : b.toNat < 128 := by omega
          simp [a0, this]
        · simp only [decide_eq_false_iff_not] at e2
          have : ¬ b.toNat < 128 := by omega
          refine bif_f (by simp; omega) (q1 _ (by simp [a0, this]))
      · simp only [decide_eq_false_iff_not] at e1
        have a0 : a.toNat ≠ 0 := by omega
        refine bif_both (fun e2 => st_at (i := 1) d1 (q1 _ ?_)) fun e2 => q1 _ ?_
        · simp only [decide_eq_true_eq] at e2
          have : a.toNat = 255 := by omega
          simp [this]
          omega
        · simp only [decide_eq_false_iff_not] at e2
          have : a.toNat ≠ 255 := by omega
          simp [a0, this]

theorem Rint_p2 {s : List UInt8} {h : AHeap} {v : Int} (hs : s.length ≤ 6) (hq : Q (.tu [.i .i64 v, .b true]) h) {h1 : AHeap} (E : Ext h h1) : ∀ (r : List UInt8) (i : Nat) (n : Int), s.drop i = r → i ≤ 6 → -((256 ^ i : Nat) : Int) ≤ n → n < ((256 ^ i : Nat) : Int) → intF n r = v → G_ref33_Int.p2 (kRet h Q) s n i h1 := by
  intro r
  induction r with
  | nil =>
    intro i n hr hi h0 h2 hv
    have := drop_end hr
    refine G_ref33_Int.i2 ?_
    simp only [G_ref33_Int.t2]
    have : n = v := hv
    subst this
    exact bif_f (by simp; omega) (kRet_pure rfl E hq)
  | cons c r ih =>
    intro i n hr hi h0 h2 hv
    have hlt := drop_lt hr
    have hn := drop_next hr
    have hc := c.toNat_lt
    have hp : 256 ^ i ≤ 256 ^ 5 := Nat.pow_le_pow_right (by omega) (by omega)
    have e : 256 ^ (i + 1) = 256 ^ i * 256 := Nat.pow_succ ..
    refine G_ref33_Int.i2 ?_
    simp only [G_ref33_Int.t2, G_ref33_Int.j2]
    refine bif_t (by simp; omega) ?_
    refine withI_is (wrap_i64 (by omega) (by omega)) (st_at hr ?_)
    refine withI_is (n := n * 256 + (c.toNat : Int)) (by rw [wrap_i64 (n := (c.toNat : Int)) (by omega) (by omega), wrap_i64 (by omega) (by omega)]) (inc (by omega) ?_)
    exact ih (i + 1) _ hn (by omega) (by omega) (by omega) hv

theorem Rint_c {d : Der} {cs : List AV} {F : Nat → Prop} {h : AHeap} (D : DV h F d cs) (hs : d.data.length ≤ 100000) (hq : Q (intR (intS d)) h) : C G_ref33_Int.id [.ag cs] h Q := by
  refine G_ref33_Int.call ?_
  simp only [G_ref33_Int.t, G_ref33_Int.j0]
  refine D.box fun h1 hl1 U1 B D1 => st_fld (st_load B D.len.symm D.dat (st_asS (st_loadN B D.len.symm (Rplain_c D1 (st_asB ?_)))))
  have E := U1.ext
  unfold intS at hq
  generalize d.data = s at *
  have p1 : ∀ b, b = true → (b = intBad s ∨ dPlain 2 d = false) → G_ref33_Int.p0 (kRet h Q) s b h1 := by
    intro b hb hp
    subst hb
    refine G_ref33_Int.i0 ?_
    simp only [G_ref33_Int.t0]
    rw [if_neg (by rcases hp with h | h <;> simp [h] <;> simp [← h])] at hq
    exact bif_t rfl (kRet_pure rfl E hq)
  have p2 : intBad s = false → dPlain 2 d = true → s.length ≤ 6 → ∀ a r, s = a :: r → G_ref33_Int.p0 (kRet h Q) s false h1 := by
    intro hb hp hl a r hsr
    have ha := a.toNat_lt
    rw [if_pos ⟨hp, hb⟩] at hq
    have q : ∀ n : Int, (n = 0 ∧ a.toNat < 128 ∨ n = -1 ∧ 128 ≤ a.toNat) → G_ref33_Int.p1 (kRet h Q) s n h1 := by
      intro n hn
      refine G_ref33_Int.i1 ?_
      simp only [G_ref33_Int.t1, G_ref33_Int.j2]
      refine Rint_p2 (v := intV s) hl hq E s 0 n rfl (by omega) (by rw [Nat.pow_zero]; omega) ?_ ?_
      · rw [Nat.pow_zero]
        omega
      · rw [hsr]
        show intF (n * 256 + (a.toNat : Int)) r = intF _ r
        congr 1
        split <;> omega
    refine G_ref33_Int.i0 ?_
    simp only [G_ref33_Int.t0, G_ref33_Int.j1]
    refine bif_f rfl (st_at (i := 0) hsr ?_)
    refine bif_both (fun e => q _ (.inr ⟨rfl, ?_⟩)) fun e => q _ (.inl ⟨rfl, ?_⟩)
    · simp only [decide_eq_true_eq] at e; omega
    · simp only [decide_eq_false_iff_not] at e; omega
  have q1 : dPlain 2 d = true → s.length ≤ 6 → ∀ a r, s = a :: r → ∀ b, b = intBad s → G_ref33_Int.p0 (kRet h Q) s b h1 := by
    intro hp hl a r hsr b hb
    cases b with
    | false => exact p2 hb.symm hp hl a r hsr
    | true => exact p1 _ rfl (.inl hb)
  refine bif_both (fun e => p1 _ rfl (.inr (by simpa using e))) fun e => ?_
  have hp : dPlain 2 d = true := by simpa using e
  obtain hs2 | ⟨a, r, hs2⟩ : s = [] ∨ ∃ a r, s = a :: r := by
    cases s with
    | nil => exact .inl rfl
    | cons a r => exact .inr ⟨a, r, rfl⟩
  · exact bif_t (by rw [hs2]; rfl) (p1 _ rfl (.inl (by rw [hs2]; rfl)))
  ·
    refine bif_f (by rw [hs2]; simp; omega) ?_
    by_cases hl : 6 < s.length
    · rw [decide_eq_true (show (6 : Int) < s.length by omega)]
      refine bif_t rfl (p1 _ rfl (.inl ?_))
      rw [hs2] at hl ⊢
      cases r with
      | nil => simp at hl
      | cons b r => rw [intBad_2, decide_eq_true hl]; rfl
    rw [decide_eq_false (show ¬ (6 : Int) < s.length by omega)]
    refine bif_f rfl ?_
    have q1 := q1 hp (by omega) a r hs2
    cases hr2 : r with
    | nil =>
      refine bif_f (by rw [hs2, hr2]; rfl) (q1 _ ?_)
      rw [hs2, hr2]; rfl
    | cons b r' =>
      have hs3 : s = a :: b :: r' := by rw [hs2, hr2]
      have hb : intBad s = ((decide (a.toNat = 0) && decide (b.toNat < 128)) || (decide (a.toNat = 255) && decide (128 ≤ b.toNat))) := by
        rw [hs3] at hl ⊢
        rw [intBad_2, decide_eq_false hl]; rfl
      rw [hb] at q1
      have d0 : s.drop 0 = a :: b :: r' := hs3
      have d1 : s.drop 1 = b :: r' := by rw [hs3]; rfl
      refine bif_t (by rw [hs3]; simp; omega) (st_at (i := 0) d0 ?_)
      refine bif_both (fun e1 => st_at (i := 1) d1 ?_) fun e1 => st_at (i := 0) d0 ?_
      · simp only [decide_eq_true_eq] at e1
        have a0 : a.toNat = 0 := by omega
        refine bif_both (fun e2 => q1 _ ?_) fun e2 => st_at (i := 0) d0 ?_
        · simp only [decide_eq_true_eq] at e2
          have : b.toNat < 128 := by omega
          simp [a0, this]
        · simp only [decide_eq_false_iff_not] at e2
          have : ¬ b.toNat < 128 := by omega
          refine bif_f (by simp; omega) (q1 _ (by simp [a0, this]))
      · simp only [decide_eq_false_iff_not] at e1
        have a0 : a.toNat ≠ 0 := by omega
        refine bif_both (fun e2 => st_at (i := 1) d1 (q1 _ ?_)) fun e2 => q1 _ ?_
        · simp only [decide_eq_true_eq] at e2
          have : a.toNat = 255 := by omega
          simp [this]
          omega
        · simp only [decide_eq_false_iff_not] at e2
          have : a.toNat ≠ 255 := by omega
          simp [a0, this]

end
end Go.Proofs.YtffgchcidkapjaaDoor
