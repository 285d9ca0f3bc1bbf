/- IntOf; texts. -/
import Derived.Test.YtffgchcidkapjaaDoorTy8
set_option linter.unusedVariables false
set_option linter.unusedSimpArgs false
set_option linter.unusedSectionVars false
set_option maxRecDepth 20000
namespace Go.Proofs.YtffgchcidkapjaaDoor
open Go.GAM Go.RowKit

def beI : Nat → Int → List UInt8
  | 0, _ => []
  | k + 1, n => UInt8.ofNat ((n / ((2 ^ (8 * k) : Nat) : Int)) % 256).toNat :: beI k n
def fitI (k : Nat) (n : Int) : Prop := -((2 ^ (8 * k - 1) : Nat) : Int) ≤ n ∧ n < ((2 ^ (8 * k - 1) : Nat) : Int)
instance (k : Nat) (n : Int) : Decidable (fitI k n) := by unfold fitI; infer_instance
def kI (n : Int) : Nat := if fitI 1 n then 1 else if fitI 2 n then 2 else if fitI 3 n then 3 else if fitI 4 n then 4 else if fitI 5 n then 5 else 6
def intBig (n : Int) : Prop := n < -140737488355328 ∨ 140737488355328 ≤ n
instance (n : Int) : Decidable (intBig n) := by unfold intBig; infer_instance
def intOfS (n : Int) : List AV := if intBig n then leafC 0 0 false [] else leafC 0 2 false (beI (kI n) n)

theorem beI_len : ∀ k n, (beI k n).length = k
  | 0, n => rfl
  | k + 1, n => by simp [beI, beI_len k n]
theorem kI_bd (n : Int) : 1 ≤ kI n ∧ kI n ≤ 6 := by
  unfold kI
  repeat' split
  all_goals omega
theorem kI_fit {n : Int} (h : ¬ intBig n) : fitI (kI n) n := by
  unfold kI
  repeat' split
  all_goals first | assumption | skip
  unfold intBig at h
  unfold fitI
  omega
theorem kI_least {n : Int} {j : Nat} (h1 : 1 ≤ j) (h2 : j < kI n) : ¬ fitI j n := by
  unfold kI at h2
  split at h2
  · omega
  rename_i f1
  by_cases e1 : j = 1
  · subst e1; exact f1
  split at h2
  · omega
  rename_i f2
  by_cases e2 : j = 2
  · subst e2; exact f2
  split at h2
  · omega
  rename_i f3
  by_cases e3 : j = 3
  · subst e3; exact f3
  split at h2
  · omega
  rename_i f4
  by_cases e4 : j = 4
  · subst e4; exact f4
  split at h2
  · omega
  rename_i f5
  have : j = 5 := by omega
  subst this; exact f5

section
variable {h0 : AHeap} {Q : AV → AHeap → Prop}

theorem pw47 {k : Nat} (h : k ≤ 6) : 2 ^ (8 * k - 1) ≤ 140737488355328 ∧ 0 < 2 ^ (8 * k - 1) := by
  have : (2 : Nat) ^ (8 * k - 1) ≤ 2 ^ 47 := Nat.pow_le_pow_right (by omega) (by omega)
  exact ⟨by simpa using this, Nat.two_pow_pos _⟩

/-- The record is written and read: a value without kids is handed back. -/
theorem ret_leaf {h h1 hx : AHeap} {id : Nat} {z : List AV} {c t : Int} {s : List UInt8} (hz : z.length = 5) (R : RecAt hx id z) (hid : h.length ≤ id) (U : Upd (fun _ => False) h hx) (hq : Q (.ag (leafC c t false s)) h) :
    pStore 5 (.p (some ⟨id, 5, 0⟩)) (.ag [.i .i64 c, .i .i64 t, .b false, .s s, .sl none 0 none]) hx fun h5 => pLoadN 5 (.p (some ⟨id, 5, 0⟩)) h5 fun v7 => kRet h Q v7 h5 := by
  refine st_storeN R hz.symm rfl rfl fun h5 hl5 U5 R5 => st_loadN R5 rfl (kRet_pure rfl ?_ hq)
  exact ((U.trans U5 fun i hi he => absurd he (by omega)) : Upd (fun _ => False) h h5).ext

theorem intOf_p3 {n : Int} {h h1 : AHeap} {id : Nat} (hid : h.length ≤ id) (U1 : Upd (fun _ => False) h h1) (R : RecAt h1 id z5) : ∀ (m : Nat) (v : AV) (l : List UInt8) (hx : AHeap), m ≤ 6 → l.length + m ≤ 10 → Tx h1 hx v l → Q (.ag (leafC 0 2 false (l ++ beI m n))) h →
    G_der_IntOf.p3 (kRet h Q) n (.p (some ⟨id, 5, 0⟩)) v ((m : Int) - 1) hx := by
  intro m
  induction m with
  | zero =>
    intro v l hx hm hl T hq
    refine G_der_IntOf.i3 ?_
    simp only [G_der_IntOf.t3]
    refine bif_f (by simp) (T.str ?_)
    exact ret_leaf (h1 := h1) rfl (R.upd T.upd fun h => h) hid (U1.trans T.upd fun _ _ h => h) (by simpa [beI] using hq)
  | succ m ih =>
    intro v l hx hm hl T hq
    refine G_der_IntOf.i3 ?_
    simp only [G_der_IntOf.t3, G_der_IntOf.j3]
    have e1 : ((m + 1 : Nat) : Int) - 1 = (m : Int) := by omega
    rw [e1]
    refine bif_t (by simp) (withI_is (n := ((8 * m : Nat) : Int)) (by rw [wrap_i64 (by omega) (by omega)]; omega) (st_shrI (by omega) rfl ?_))
    rw [wrap_u8_mod]
    refine T.push (by omega) fun v' h' T' => withI_is (wrap_i64 (by omega) (by omega)) (ih v' _ h' (by omega) (by simp; omega) T' ?_)
    simpa [beI] using hq

theorem intOf_c {n : Int} {h : AHeap} (hq : Q (.ag (intOfS n)) h) : C G_der_IntOf.id [.i .i64 n] h Q := by
  refine G_der_IntOf.call ?_
  simp only [G_der_IntOf.t, G_der_IntOf.j0]
  refine st_alloc fun h1 hl1 U1 R => ?_
  unfold intOfS at hq
  have p1 : ¬ intBig n → ∀ m k, k + m = kI n → 1 ≤ k → G_der_IntOf.p1 (kRet h Q) n (.p (some ⟨h.length, 5, 0⟩)) k h1 := by
    intro hb m
    rw [if_neg hb] at hq
    have hkb := kI_bd n
    induction m with
    | zero =>
      intro k hk h1k
      have hk : k = kI n := by omega
      have hf := kI_fit hb
      rw [← hk] at hf hq hkb
      unfold fitI at hf
      have hp := pw47 hkb.2
      generalize hy : 2 ^ (8 * k - 1) = y at hf hp
      refine G_der_IntOf.i1 ?_
      simp only [G_der_IntOf.t1, G_der_IntOf.j2]
      refine withI_is (n := ((8 * k : Nat) : Int)) (by rw [wrap_i64 (by omega) (by omega)]; omega) ?_
      refine withI_is (n := ((8 * k - 1 : Nat) : Int)) (by rw [wrap_i64 (by omega) (by omega)]; omega) ?_
      refine st_shlI (n := -(y : Int)) (by omega) (by rw [← hy]; simp) (by omega) (by omega) ?_
      refine bif_f (by simp; omega) ?_
      refine withI_is (n := ((8 * k : Nat) : Int)) (by rw [wrap_i64 (by omega) (by omega)]; omega) ?_
      refine withI_is (n := ((8 * k - 1 : Nat) : Int)) (by rw [wrap_i64 (by omega) (by omega)]; omega) ?_
      refine st_shlI (n := (y : Int)) (by omega) (by rw [← hy]; simp) (by omega) (by omega) ?_
      rw [decide_eq_false (by omega)]
      refine G_der_IntOf.i2 ?_
      simp only [G_der_IntOf.t2, G_der_IntOf.j3]
      refine bif_f rfl (withI_is (wrap_i64 (by omega) (by omega)) ?_)
      exact intOf_p3 (h1 := h1) (Nat.le_refl _) U1 R k _ [] h1 (by omega) (by simp; omega) (Tx.start h1) hq
    | succ m ih =>
      intro k hk h1k
      have hf := kI_least (n := n) (j := k) h1k (by omega)
      unfold fitI at hf
      have hp := pw47 (k := k) (by omega)
      generalize hy : 2 ^ (8 * k - 1) = y at hf hp
      have next : G_der_IntOf.p2 (kRet h Q) n (.p (some ⟨h.length, 5, 0⟩)) k true h1 := by
        refine G_der_IntOf.i2 ?_
        simp only [G_der_IntOf.t2, G_der_IntOf.j1]
        exact bif_t rfl (inc (by omega) (ih (k + 1) (by omega) (by omega)))
      refine G_der_IntOf.i1 ?_
      simp only [G_der_IntOf.t1, G_der_IntOf.j2]
      refine withI_is (n := ((8 * k : Nat) : Int)) (by rw [wrap_i64 (by omega) (by omega)]; omega) ?_
      refine withI_is (n := ((8 * k - 1 : Nat) : Int)) (by rw [wrap_i64 (by omega) (by omega)]; omega) ?_
      refine st_shlI (n := -(y : Int)) (by omega) (by rw [← hy]; simp) (by omega) (by omega) ?_
      refine bif_both (fun e => next) fun e => ?_
      simp only [decide_eq_false_iff_not] at e
      refine withI_is (n := ((8 * k : Nat) : Int)) (by rw [wrap_i64 (by omega) (by omega)]; omega) ?_
      refine withI_is (n := ((8 * k - 1 : Nat) : Int)) (by rw [wrap_i64 (by omega) (by omega)]; omega) ?_
      refine st_shlI (n := (y : Int)) (by omega) (by rw [← hy]; simp) (by omega) (by omega) ?_
      rw [decide_eq_true (by omega)]
      exact next
  have p0 : ∀ b, b = decide (intBig n) → G_der_IntOf.p0 (kRet h Q) n (.p (some ⟨h.length, 5, 0⟩)) b h1 := by
    intro b hb
    refine G_der_IntOf.i0 ?_
    simp only [G_der_IntOf.t0, G_der_IntOf.j1]
    refine bif_both (fun e => ?_) fun e => ?_
    · subst e
      rw [if_pos (by simpa using hb.symm)] at hq
      exact ret_leaf (h1 := h1) rfl R (Nat.le_refl _) U1 hq
    · subst e
      exact p1 (of_decide_eq_false hb.symm) (kI n - 1) 1 (by have := kI_bd n; omega) (by omega)
  refine bif_both (fun e => p0 _ ?_) fun e => p0 _ ?_
  · simp only [decide_eq_true_eq] at e
    symm; rw [decide_eq_true_eq]; exact .inl e
  · simp only [decide_eq_false_iff_not] at e
    rw [decide_eq_decide]; unfold intBig; omega

theorem RintOf_p3 {n : Int} {h h1 : AHeap} {id : Nat} (hid : h.length ≤ id) (U1 : Upd (fun _ => False) h h1) (R : RecAt h1 id z5) : ∀ (m : Nat) (v : AV) (l : List UInt8) (hx : AHeap), m ≤ 6 → l.length + m ≤ 10 → Tx h1 hx v l → Q (.ag (leafC 0 2 false (l ++ beI m n))) h →
    G_ref33_IntOf.p3 (kRet h Q) n (.p (some ⟨id, 5, 0⟩)) v ((m : Int) - 1) hx := by
  intro m
  induction m with
  | zero =>
    intro v l hx hm hl T hq
    refine G_ref33_IntOf.i3 ?_
    simp only [G_ref33_IntOf.t3]
    refine bif_f (by simp) (T.str ?_)
    exact ret_leaf (h1 := h1) rfl (R.upd T.upd fun h => h) hid (U1.trans T.upd fun _ _ h => h) (by simpa [beI] using hq)
  | succ m ih =>
    intro v l hx hm hl T hq
    refine G_ref33_IntOf.i3 ?_
    simp only [G_ref33_IntOf.t3, G_ref33_IntOf.j3]
    have e1 : ((m + 1 : Nat) : Int) - 1 = (m : Int) := by omega
    rw [e1]
    refine bif_t (by simp) (withI_is (n := ((8 * m : Nat) : Int)) (by rw [wrap_i64 (by omega) (by omega)]; omega) ?_)
    rw [wrap_u64 (by omega) (by omega)]
    refine st_shrI (by omega) rfl ?_
    rw [wrap_u8_mod]
    refine T.push (by omega) fun v' h' T' => withI_is (wrap_i64 (by omega) (by omega)) (ih v' _ h' (by omega) (by simp; omega) T' ?_)
    simpa [beI] using hq

theorem RintOf_c {n : Int} {h : AHeap} (hq : Q (.ag (intOfS n)) h) : C G_ref33_IntOf.id [.i .i64 n] h Q := by
  refine G_ref33_IntOf.call ?_
  simp only [G_ref33_IntOf.t, G_ref33_IntOf.j0]
  refine st_alloc fun h1 hl1 U1 R => ?_
  unfold intOfS at hq
  have p1 : ¬ intBig n → ∀ m k, k + m = kI n → 1 ≤ k → G_ref33_IntOf.p1 (kRet h Q) n (.p (some ⟨h.length, 5, 0⟩)) k h1 := by
    intro hb m
    rw [if_neg hb] at hq
    have hkb := kI_bd n
    induction m with
    | zero =>
      intro k hk h1k
      have hk : k = kI n := by omega
      have hf := kI_fit hb
      rw [← hk] at hf hq hkb
      unfold fitI at hf
      have hp := pw47 hkb.2
      generalize hy : 2 ^ (8 * k - 1) = y at hf hp
      refine G_ref33_IntOf.i1 ?_
      simp only [G_ref33_IntOf.t1, G_ref33_IntOf.j2]
      refine bif_t (by simp; omega) (withI_is (n := ((8 * k : Nat) : Int)) (by rw [wrap_i64 (by omega) (by omega)]; omega) ?_)
      refine withI_is (n := ((8 * k - 1 : Nat) : Int)) (by rw [wrap_i64 (by omega) (by omega)]; omega) ?_
      rw [wrap_u64 (by omega) (by omega)]
      refine st_shlI (n := (y : Int)) (by omega) (by rw [← hy]; simp) (by omega) (by omega) ?_
      refine withI_is (n := -(y : Int)) (by rw [wrap_i64 (by omega) (by omega)]; omega) ?_
      refine bif_f (by simp; omega) ?_
      rw [decide_eq_false (by omega)]
      refine G_ref33_IntOf.i2 ?_
      simp only [G_ref33_IntOf.t2, G_ref33_IntOf.j3]
      refine bif_f rfl (withI_is (wrap_i64 (by omega) (by omega)) ?_)
      exact RintOf_p3 (h1 := h1) (Nat.le_refl _) U1 R k _ [] h1 (by omega) (by simp; omega) (Tx.start h1) hq
    | succ m ih =>
      intro k hk h1k
      have hf := kI_least (n := n) (j := k) h1k (by omega)
      unfold fitI at hf
      have hp := pw47 (k := k) (by omega)
      generalize hy : 2 ^ (8 * k - 1) = y at hf hp
      have next : G_ref33_IntOf.p2 (kRet h Q) n (.p (some ⟨h.length, 5, 0⟩)) k true h1 := by
        refine G_ref33_IntOf.i2 ?_
        simp only [G_ref33_IntOf.t2, G_ref33_IntOf.j1]
        exact bif_t rfl (inc (by omega) (ih (k + 1) (by omega) (by omega)))
      refine G_ref33_IntOf.i1 ?_
      simp only [G_ref33_IntOf.t1, G_ref33_IntOf.j2]
      refine bif_t (by simp; omega) (withI_is (n := ((8 * k : Nat) : Int)) (by rw [wrap_i64 (by omega) (by omega)]; omega) ?_)
      refine withI_is (n := ((8 * k - 1 : Nat) : Int)) (by rw [wrap_i64 (by omega) (by omega)]; omega) ?_
      rw [wrap_u64 (by omega) (by omega)]
      refine st_shlI (n := (y : Int)) (by omega) (by rw [← hy]; simp) (by omega) (by omega) ?_
      refine withI_is (n := -(y : Int)) (by rw [wrap_i64 (by omega) (by omega)]; omega) ?_
      refine bif_both (fun e => next) fun e => ?_
      simp only [decide_eq_false_iff_not] at e
      rw [decide_eq_true (by omega)]
      exact next
  have p0 : ∀ b, b = decide (intBig n) → G_ref33_IntOf.p0 (kRet h Q) n (.p (some ⟨h.length, 5, 0⟩)) b h1 := by
    intro b hb
    refine G_ref33_IntOf.i0 ?_
    simp only [G_ref33_IntOf.t0, G_ref33_IntOf.j1]
    refine bif_both (fun e => ?_) fun e => ?_
    · subst e
      rw [if_pos (by simpa using hb.symm)] at hq
      exact ret_leaf (h1 := h1) rfl R (Nat.le_refl _) U1 hq
    · subst e
      exact p1 (of_decide_eq_false hb.symm) (kI n - 1) 1 (by have := kI_bd n; omega) (by omega)
  refine bif_both (fun e => p0 _ ?_) fun e => p0 _ ?_
  · simp only [decide_eq_true_eq] at e
    symm; rw [decide_eq_true_eq]; exact .inl e
  · simp only [decide_eq_false_iff_not] at e
    rw [decide_eq_decide]; unfold intBig; omega

/-! ### texts -/

theorem all_byte_c {f : Nat} {p : UInt8 → Bool} {v : AV} {l : List UInt8} {h : AHeap} (hf : Nat.blt f yid0 = true) (hc : ∀ (c : UInt8) (h : AHeap) (K : AV → AHeap → Prop), K (.b (p c)) h → C f [.i .u8 (c.toNat : Int)] h K) (B : Byt h v l) (hl : l.length ≤ 100000) (hq : Q (.b (l.all p)) h) :
    C G_der_all_byte_.id [v, .fn (.func f) [] []] h Q := by
  refine G_der_all_byte_.call ?_
  simp only [G_der_all_byte_.t, G_der_all_byte_.j0]
  refine Rd.len B ?_
  have go : ∀ (r : List UInt8) (i : Nat), l.drop i = r → i ≤ l.length → (l.all p = r.all p) → G_der_all_byte_.p0 (kRet h Q) (.fn (.func f) [] []) v l.length i h := by
    intro r
    induction r with
    | nil =>
      intro i hr hi he
      have := drop_end hr
      refine G_der_all_byte_.i0 ?_
      simp only [G_der_all_byte_.t0]
      rw [he] at hq
      exact bif_f (by simp; omega) (.inl hq)
    | cons c r ih =>
      intro i hr hi he
      have hlt := drop_lt hr
      have hn := drop_next hr
      refine G_der_all_byte_.i0 ?_
      simp only [G_der_all_byte_.t0, G_der_all_byte_.j0]
      refine bif_t (by simp; omega) (Rd.byte B (at_of_drop hr) (callV_c hf (hc c h _ (st_asB ?_))))
      rw [List.all_cons] at he
      cases hp : p c with
      | false =>
        rw [hp] at he
        rw [he] at hq
        exact bif_t rfl (.inl hq)
      | true =>
        rw [hp, Bool.true_and] at he
        exact bif_f rfl (inc (by omega) (ih (i + 1) hn (by omega) he))
  exact go l 0 rfl (by omega) rfl

def textB (c : UInt8) : Bool := decide (32 ≤ c.toNat) && decide (c.toNat ≤ 126)
def textS (d : Der) : List UInt8 × Bool := if (dPlain 12 d || (dPlain 19 d || dPlain 22 d)) = true ∧ d.data.all textB = true then (d.data, true) else ([], false)
def textR (x : List UInt8 × Bool) : AV := .tu [.s x.1, .b x.2]
theorem text1_c (c : UInt8) (h : AHeap) (K : AV → AHeap → Prop) (hk : K (.b (textB c)) h) : C G_der_Text_1.id [.i .u8 (c.toNat : Int)] h K := by
  refine G_der_Text_1.call ?_
  simp only [G_der_Text_1.t, G_der_Text_1.j0]
  have p0 : ∀ b, b = textB c → G_der_Text_1.p0 (kRet h K) b h := by
    intro b hb
    refine G_der_Text_1.i0 ?_
    simp only [G_der_Text_1.t0]
    subst hb
    exact .inl hk
  unfold textB at p0
  refine bif_both (fun e => p0 _ ?_) fun e => p0 _ ?_
  · simp only [decide_eq_true_eq] at e
    rw [decide_eq_true (by omega : 32 ≤ c.toNat), Bool.true_and, decide_eq_decide]; omega
  · simp only [decide_eq_false_iff_not] at e
    rw [decide_eq_false (by omega : ¬ 32 ≤ c.toNat)]; rfl

theorem text_c {d : Der} {cs : List AV} {F : Nat → Prop} {h : AHeap} (D : DV h F d cs) (hs : d.data.length ≤ 100000) (hq : Q (textR (textS d)) h) : C G_der_Text.id [.ag cs] h Q := by
  refine G_der_Text.call ?_
  simp only [G_der_Text.t, G_der_Text.j0]
  refine D.box fun h1 hl1 U1 B D1 => ?_
  unfold textS at hq
  have p0 : ∀ b, b = !(dPlain 12 d || (dPlain 19 d || dPlain 22 d)) → G_der_Text.p0 (kRet h Q) (.p (some ⟨h.length, 5, 0⟩)) b h1 := by
    intro b hb
    refine G_der_Text.i0 ?_
    simp only [G_der_Text.t0]
    refine bif_both (fun e => ?_) fun e => ?_
    · subst e
      rw [if_neg (fun hh => by rw [hh.1] at hb; cases hb)] at hq
      exact kRet_pure rfl U1.ext hq
    · subst e
      have hp : (dPlain 12 d || (dPlain 19 d || dPlain 22 d)) = true := by
        revert hb
        generalize (dPlain 12 d || (dPlain 19 d || dPlain 22 d)) = x
        cases x <;> simp
      refine st_fld (st_load B D.len.symm D.dat (st_asS (Tx.ofStr fun v h2 T => ?_)))
      refine all_byte_c (p := textB) rfl text1_c T.byt hs (st_asB ?_)
      have E := (U1.trans T.upd fun _ _ h => h).ext
      have B2 := B.upd T.upd fun h => h
      cases ha : d.data.all textB with
      | false =>
        rw [if_neg (fun hh => by rw [ha] at hh; cases hh.2)] at hq
        exact bif_t rfl (kRet_pure rfl E hq)
      | true =>
        rw [if_pos ⟨hp, ha⟩] at hq
        exact bif_f rfl (st_fld (st_load B2 D.len.symm D.dat (st_asS (kRet_pure rfl E hq))))
  refine st_loadN B D.len.symm (plain_c D1 (st_asB ?_))
  refine bif_both (fun e => st_loadN B D.len.symm (plain_c D1 (st_asB ?_))) fun e => p0 _ ?_
  · have e : dPlain 12 d = false := by simpa using e
    rw [e, Bool.false_or] at p0
    refine bif_both (fun e => st_loadN B D.len.symm (plain_c D1 (st_asB (p0 _ ?_)))) fun e => p0 _ ?_
    · have e : dPlain 19 d = false := by simpa using e
      rw [e]; rfl
    · have e : dPlain 19 d = true := by simpa using e
      rw [e]; rfl
  · have e : dPlain 12 d = true := by simpa using e
    rw [e]; rfl

theorem Rtext_c {d : Der} {cs : List AV} {F : Nat → Prop} {h : AHeap} (D : DV h F d cs) (hs : d.data.length ≤ 100000) (hq : Q (textR (textS d)) h) : C G_ref33_Text.id [.ag cs] h Q := by
  refine G_ref33_Text.call ?_
  simp only [G_ref33_Text.t, G_ref33_Text.j0]
  refine D.box fun h1 hl1 U1 B D1 => ?_
  unfold textS at hq
  have E := U1.ext
  have p0 : ∀ b, b = !(dPlain 12 d || (dPlain 19 d || dPlain 22 d)) → G_ref33_Text.p0 (kRet h Q) (.p (some ⟨h.length, 5, 0⟩)) b h1 := by
    intro b hb
    refine G_ref33_Text.i0 ?_
    simp only [G_ref33_Text.t0, G_ref33_Text.j1]
    refine bif_both (fun e => ?_) fun e => ?_
    · subst e
      rw [if_neg (fun hh => by rw [hh.1] at hb; cases hb)] at hq
      exact kRet_pure rfl E hq
    · subst e
      have hp : (dPlain 12 d || (dPlain 19 d || dPlain 22 d)) = true := by
        revert hb
        generalize (dPlain 12 d || (dPlain 19 d || dPlain 22 d)) = x
        cases x <;> simp
      have go : ∀ (r : List UInt8) (i : Nat), d.data.drop i = r → i ≤ d.data.length → (d.data.all textB = r.all textB) → G_ref33_Text.p1 (kRet h Q) (.p (some ⟨h.length, 5, 0⟩)) i h1 := by
        intro r
        induction r with
        | nil =>
          intro i hr hi he
          have := drop_end hr
          refine G_ref33_Text.i1 ?_
          simp only [G_ref33_Text.t1]
          rw [if_pos ⟨hp, by rw [he]; rfl⟩] at hq
          refine st_fld (st_load B D.len.symm D.dat (st_asS (bif_f (by simp; omega) (st_fld (st_load B D.len.symm D.dat (st_asS (kRet_pure rfl E hq)))))))
        | cons c r ih =>
          intro i hr hi he
          have hlt := drop_lt hr
          have hn := drop_next hr
          rw [List.all_cons] at he
          have p2 : ∀ b, b = !textB c → G_ref33_Text.p2 (kRet h Q) (.p (some ⟨h.length, 5, 0⟩)) i b h1 := by
            intro b hb
            refine G_ref33_Text.i2 ?_
            simp only [G_ref33_Text.t2, G_ref33_Text.j1]
            cases hp : textB c with
            | false =>
              rw [hp] at he hb
              rw [if_neg (fun hh => by rw [he] at hh; cases hh.2)] at hq
              exact bif_t hb (kRet_pure rfl E hq)
            | true =>
              rw [hp] at hb
              rw [hp, Bool.true_and] at he
              exact bif_f hb (inc (by omega) (ih (i + 1) hn (by omega) he))
          unfold textB at p2
          refine G_ref33_Text.i1 ?_
          simp only [G_ref33_Text.t1, G_ref33_Text.j2]
          refine st_fld (st_load B D.len.symm D.dat (st_asS (bif_t (by simp; omega) (st_fld (st_load B D.len.symm D.dat (st_asS (st_at hr ?_)))))))
          refine bif_both (fun e => p2 _ ?_) fun e => st_fld (st_load B D.len.symm D.dat (st_asS (st_at hr (p2 _ ?_))))
          · simp only [decide_eq_true_eq] at e
            rw [decide_eq_false (by omega : ¬ 32 ≤ c.toNat)]; rfl
          · simp only [decide_eq_false_iff_not] at e
            rw [decide_eq_true (by omega : 32 ≤ c.toNat), Bool.true_and, ← decide_not, decide_eq_decide]; omega
      exact go d.data 0 rfl (by omega) rfl
  refine st_loadN B D.len.symm (Rplain_c D1 (st_asB ?_))
  refine bif_both (fun e => st_loadN B D.len.symm (Rplain_c D1 (st_asB ?_))) fun e => p0 _ ?_
  · have e : dPlain 12 d = false := by simpa using e
    rw [e, Bool.false_or] at p0
    refine bif_both (fun e => st_loadN B D.len.symm (Rplain_c D1 (st_asB (p0 _ ?_)))) fun e => p0 _ ?_
    · have e : dPlain 19 d = false := by simpa using e
      rw [e]; rfl
    · have e : dPlain 19 d = true := by simpa using e
      rw [e]; rfl
  · have e : dPlain 12 d = true := by simpa using e
    rw [e]; rfl

end
end Go.Proofs.YtffgchcidkapjaaDoor
