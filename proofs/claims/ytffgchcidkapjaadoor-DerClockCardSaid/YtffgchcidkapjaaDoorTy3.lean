/- Lengths: the program's and the reference's. -/
import Derived.Test.YtffgchcidkapjaaDoorTy2
set_option linter.unusedVariables false
set_option linter.unusedSimpArgs false
set_option linter.unusedSectionVars false
set_option maxRecDepth 20000
namespace Go.Proofs.YtffgchcidkapjaaDoor
open Go.GAM Go.RowKit

def numS (l : List UInt8) : Nat := l.foldl (fun n c => n * 256 + c.toNat) 0
theorem numS_snoc (l : List UInt8) (c : UInt8) : numS (l ++ [c]) = numS l * 256 + c.toNat := by simp [numS]
theorem numS_bd (l : List UInt8) : numS l < 256 ^ l.length := by
  have : ∀ n (l : List UInt8), l.length = n → numS l < 256 ^ n := by
    intro n
    induction n with
    | zero => intro l hl; rw [List.eq_nil_of_length_eq_zero hl]; decide
    | succ n ih =>
      intro l hl
      have hne : l ≠ [] := fun h => by rw [h] at hl; simp at hl
      rw [← List.dropLast_concat_getLast hne, numS_snoc]
      have h1 := ih l.dropLast (by rw [List.length_dropLast]; omega)
      have h2 := (l.getLast hne).toNat_lt
      rw [Nat.pow_succ]
      omega
  exact this _ l rfl
theorem numS_bd3 {l : List UInt8} (h : l.length ≤ 3) : numS l < 16777216 := by
  have h1 := numS_bd l
  have h2 : 256 ^ l.length ≤ 256 ^ 3 := Nat.pow_le_pow_right (by omega) h
  omega

def lenS : List UInt8 → Except Int (Nat × List UInt8)
  | [] => .error 1
  | c :: r => if c.toNat < 128 then .ok (c.toNat, r) else
    if c.toNat - 128 < 1 ∨ 3 < c.toNat - 128 then .error 2 else
    if r.length < c.toNat - 128 then .error 1 else
    if numS (r.take (c.toNat - 128)) < 128 ∨ numS (r.take (c.toNat - 128)) < 2 ^ (8 * (c.toNat - 128 - 1)) then .error 2 else .ok (numS (r.take (c.toNat - 128)), r.drop (c.toNat - 128))

theorem lenS_short {s r : List UInt8} {n : Nat} (h : lenS s = .ok (n, r)) : r.length < s.length ∧ n < 16777216 := by
  cases s with
  | nil => cases h
  | cons c s =>
    have hc := c.toNat_lt
    rw [lenS] at h
    split at h
    · cases h; exact ⟨by simp, by omega⟩
    · split at h
      · cases h
      · split at h
        · cases h
        · split at h
          · cases h
          · cases h
            exact ⟨by simp only [List.length_drop, List.length_cons]; omega, numS_bd3 (by rw [List.length_take]; omega)⟩

/-- What the reader of a length hands back. -/
def lenR : Except Int (Nat × List UInt8) → AV
  | .error e => .tu [.i .i64 0, .s [], .i .i64 e]
  | .ok (n, r) => .tu [.i .i64 (n : Int), .s r, .i .i64 0]

section
variable {s : List UInt8} {h0 : AHeap} {Q : AV → AHeap → Prop}

theorem length_p1 {k : Nat} {h : AHeap} (hk1 : 1 ≤ k) (hk3 : k ≤ 3) (hkl : k ≤ s.length) (hs : s.length ≤ 100000)
    (hq : Q (lenR (if numS (s.take k) < 128 ∨ numS (s.take k) < 2 ^ (8 * (k - 1)) then .error 2 else .ok (numS (s.take k), s.drop k))) h) :
    ∀ m i, i + m = k → G_der_length.p1 (kRet h Q) s (numS (s.take i) : Nat) k k i h := by
  intro m
  induction m with
  | zero =>
    intro i hi
    have : i = k := by omega
    subst this
    have hb := numS_bd3 (l := s.take i) (by simp; omega)
    refine G_der_length.i1 ?_
    simp only [G_der_length.t1, G_der_length.j2]
    refine bif_f (by simp) ?_
    have fin : ∀ b, b = decide (numS (s.take i) < 128 ∨ numS (s.take i) < 2 ^ (8 * (i - 1))) → G_der_length.p2 (kRet h Q) s (numS (s.take i) : Nat) i b h := by
      intro b hb2
      refine G_der_length.i2 ?_
      simp only [G_der_length.t2]
      refine bif_both (fun e => ?_) fun e => st_subs (by omega) ?_
      · subst e
        rw [if_pos (by simpa using hb2.symm)] at hq
        exact .inl hq
      · subst e
        rw [if_neg (by simpa using hb2.symm)] at hq
        exact .inl hq
    refine bif_both (fun e => fin _ ?_) fun e => ?_
    · have : numS (s.take i) < 128 := by simp only [decide_eq_true_eq] at e; omega
      simp [this]
    · have h128 : ¬ numS (s.take i) < 128 := by simp only [decide_eq_false_iff_not] at e; omega
      refine withI_is (n := ((i - 1 : Nat) : Int)) (by rw [wrap_i64 (by omega) (by omega)]; omega) ?_
      refine withI_is (n := ((8 * (i - 1) : Nat) : Int)) (by rw [wrap_i64 (by omega) (by omega)]; omega) ?_
      refine st_shr (k := .i64) (by show 8 * (i - 1) ≤ 64; omega) (fin _ ?_)
      rw [decide_eq_decide]
      have hp : 0 < 2 ^ (8 * (i - 1)) := Nat.two_pow_pos _
      constructor
      · intro h
        have h' : numS (s.take i) / 2 ^ (8 * (i - 1)) = 0 := by
          generalize numS (s.take i) / 2 ^ (8 * (i - 1)) = y at h
          omega
        rcases Nat.div_eq_zero_iff.1 h' with h | h
        · omega
        · exact .inr h
      · intro h
        rw [Nat.div_eq_of_lt (h.resolve_left h128)]; rfl
  | succ m ih =>
    intro i hi
    obtain ⟨c, hc⟩ : ∃ c, s[i]? = some c := ⟨_, List.getElem?_eq_getElem (by omega)⟩
    have hcl := c.toNat_lt
    have hb := numS_bd (s.take i)
    rw [List.length_take, Nat.min_eq_left (by omega)] at hb
    have hb2 : 256 ^ i ≤ 256 ^ 2 := Nat.pow_le_pow_right (by omega) (by omega)
    refine G_der_length.i1 ?_
    simp only [G_der_length.t1, G_der_length.j1]
    refine bif_t (by simp; omega) ?_
    refine st_shl (b := 8) (by omega) (by omega) (idxStr hc ?_)
    refine withI_is (n := ((numS (s.take (i + 1)) : Nat) : Int)) ?_ (inc (by omega) (ih (i + 1) (by omega)))
    rw [take_snoc hc, numS_snoc, wrap_i64 (by omega) (by omega), bits_or (by omega) (by omega), Nat.mul_comm (numS _) (2 ^ 8), ← Nat.two_pow_add_eq_or_of_lt (show c.toNat < 2 ^ 8 by omega), Nat.mul_comm]

theorem length_c {h : AHeap} (hs : s.length ≤ 100000) (hq : Q (lenR (lenS s)) h) : C G_der_length.id [.s s] h Q := by
  refine G_der_length.call ?_
  simp only [G_der_length.t, G_der_length.j0]
  cases s with
  | nil => exact bif_t rfl (.inl hq)
  | cons c r =>
    have hc := c.toNat_lt
    rw [lenS] at hq
    refine bif_f (by simp) (st_at (i := 0) rfl (st_subs (lo := 1) (by simp) ?_))
    rw [wrap_i64 (by omega) (by omega)]
    refine bif_both (fun e => ?_) fun e => ?_
    · rw [if_pos (by simp only [decide_eq_true_eq] at e; omega)] at hq
      exact .inl hq
    · have h128 : ¬ c.toNat < 128 := by simp only [decide_eq_false_iff_not] at e; omega
      rw [if_neg h128] at hq
      refine withI_is (n := ((c.toNat - 128 : Nat) : Int)) (by rw [wrap_i64 (by omega) (by omega)]; omega) ?_
      generalize hk : c.toNat - 128 = k at hq
      have p0 : ∀ b, b = decide (k < 1 ∨ 3 < k) → G_der_length.p0 (kRet h Q) r k b h := by
        intro b hb
        refine G_der_length.i0 ?_
        simp only [G_der_length.t0, G_der_length.j1]
        refine bif_both (fun e => ?_) fun e => ?_
        · subst e
          rw [if_pos (by simpa using hb.symm)] at hq
          exact .inl hq
        · subst e
          have hk13 : ¬ (k < 1 ∨ 3 < k) := by simpa using hb.symm
          rw [if_neg hk13] at hq
          refine bif_both (fun e => ?_) fun e => ?_
          · rw [if_pos (by simp only [decide_eq_true_eq] at e; omega)] at hq
            exact .inl hq
          · have hkr : ¬ r.length < k := by simp only [decide_eq_false_iff_not] at e; omega
            rw [if_neg hkr] at hq
            exact length_p1 (by omega) (by omega) (by omega) (by simp at hs; omega) hq k 0 (by omega)
      refine bif_both (fun e => p0 _ ?_) fun e => p0 _ ?_
      · have : k < 1 := by simp only [decide_eq_true_eq] at e; omega
        simp [this]
      · have : ¬ k < 1 := by simp only [decide_eq_false_iff_not] at e; omega
        rw [decide_eq_decide]; omega

/-! ### the reference's -/

theorem sub_at {S : List UInt8} {e a : Nat} {c : UInt8} {r : List UInt8} (h : (S.take e).drop a = c :: r) : S[a]? = some c ∧ a < e ∧ (S.take e).drop (a + 1) = r := by
  have h1 := drop_lt h
  rw [List.length_take] at h1
  have h2 := at_of_drop h
  rw [List.getElem?_take_of_lt (by omega)] at h2
  exact ⟨h2, by omega, drop_next h⟩

theorem size_p1 {S : List UInt8} {id at' N k : Nat} {h : AHeap} {K : AV → AHeap → Prop} (hS : S.length ≤ 100000) (hk1 : 1 ≤ k) (hk3 : k ≤ 3) (hkl : at' + k ≤ S.length) (R : RecAt h id [.s S, .i .i64 (at' : Int), .i .i64 (N : Int)])
    (hq : ∀ h', Upd (· = id) h h' → h'.length = h.length → RecAt h' id [.s S, .i .i64 ((at' + k : Nat) : Int), .i .i64 (N : Int)] →
      K (if numS ((S.drop at').take k) < 128 ∨ numS ((S.drop at').take k) < 2 ^ (8 * (k - 1)) then .tu [.i .i64 0, .i .i64 2] else .tu [.i .i64 (numS ((S.drop at').take k) : Nat), .i .i64 0]) h') :
    ∀ m i, i + m = k → G_ref33_Scan_size.p1 (kRet h0 K) (.p (some ⟨id, 3, 0⟩)) k (numS ((S.drop at').take i) : Nat) i h := by
  intro m
  induction m with
  | zero =>
    intro i hi
    have : i = k := by omega
    subst this
    have hb := numS_bd3 (l := (S.drop at').take i) (by simp; omega)
    refine G_ref33_Scan_size.i1 ?_
    simp only [G_ref33_Scan_size.t1, G_ref33_Scan_size.j2]
    refine bif_f (by simp) (st_nil (st_fld (st_load R rfl rfl (st_asI ?_))))
    refine withI_is (n := ((at' + i : Nat) : Int)) (by rw [wrap_i64 (by omega) (by omega)]; omega) (st_nil (st_fld (st_store R rfl (by simp) rfl rfl rfl fun h' hl U R' => ?_)))
    have hq := hq h' U hl R'
    have fin : ∀ b, b = decide (numS ((S.drop at').take i) < 128 ∨ numS ((S.drop at').take i) < 2 ^ (8 * (i - 1))) → G_ref33_Scan_size.p2 (kRet h0 K) (numS ((S.drop at').take i) : Nat) b h' := by
      intro b hb2
      refine G_ref33_Scan_size.i2 ?_
      simp only [G_ref33_Scan_size.t2]
      refine bif_both (fun e => ?_) fun e => ?_
      · subst e
        rw [if_pos (by simpa using hb2.symm)] at hq
        exact .inl hq
      · subst e
        rw [if_neg (by simpa using hb2.symm)] at hq
        exact .inl hq
    refine bif_both (fun e => fin _ ?_) fun e => ?_
    · have : numS ((S.drop at').take i) < 128 := by simp only [decide_eq_true_eq] at e; omega
      simp [this]
    · have h128 : ¬ numS ((S.drop at').take i) < 128 := by simp only [decide_eq_false_iff_not] at e; omega
      refine bif_both (fun e => ?_) fun e => fin _ ?_
      · refine withI_is (n := ((i - 1 : Nat) : Int)) (by rw [wrap_i64 (by omega) (by omega)]; omega) ?_
        refine withI_is (n := ((8 * (i - 1) : Nat) : Int)) (by rw [wrap_i64 (by omega) (by omega)]; omega) ?_
        rw [show IntKind.wrap .u64 ((8 * (i - 1) : Nat) : Int) = ((8 * (i - 1) : Nat) : Int) from wrap_u64 (by omega) (by omega)]
        have hp : 2 ^ (8 * (i - 1)) ≤ 2 ^ 16 := Nat.pow_le_pow_right (by omega) (by omega)
        refine st_shl (a := 1) (b := 8 * (i - 1)) (by omega) (by omega) (fin _ ?_)
        rw [decide_eq_decide, Nat.one_mul]
        generalize 2 ^ (8 * (i - 1)) = y
        omega
      · have : i = 1 := by simp only [decide_eq_false_iff_not] at e; omega
        subst this
        simp; omega
  | succ m ih =>
    intro i hi
    obtain ⟨c, hc⟩ : ∃ c, S[at' + i]? = some c := ⟨_, List.getElem?_eq_getElem (by omega)⟩
    have hc' : (S.drop at')[i]? = some c := by rw [List.getElem?_drop]; exact hc
    have hcl := c.toNat_lt
    have hb := numS_bd ((S.drop at').take i)
    rw [List.length_take, List.length_drop, Nat.min_eq_left (by omega)] at hb
    have hb2 : 256 ^ i ≤ 256 ^ 2 := Nat.pow_le_pow_right (by omega) (by omega)
    refine G_ref33_Scan_size.i1 ?_
    simp only [G_ref33_Scan_size.t1, G_ref33_Scan_size.j1]
    refine bif_t (by simp; omega) ?_
    refine st_shl (b := 8) (by omega) (by omega) (st_nil (st_fld (st_load R rfl rfl (st_asS (st_nil (st_fld (st_load R rfl rfl (st_asI ?_))))))))
    refine withI_is (n := ((at' + i : Nat) : Int)) (by rw [wrap_i64 (by omega) (by omega)]; omega) (idxStr hc ?_)
    refine withI_is (n := ((numS ((S.drop at').take (i + 1)) : Nat) : Int)) ?_ (inc (by omega) (ih (i + 1) (by omega)))
    rw [take_snoc hc', numS_snoc, wrap_i64 (by omega) (by omega), bits_or (by omega) (by omega), Nat.mul_comm (numS _) (2 ^ 8), ← Nat.two_pow_add_eq_or_of_lt (show c.toNat < 2 ^ 8 by omega), Nat.mul_comm]

/-- size: the reader's place moves behind the length. -/
theorem size_c {S : List UInt8} {id a N e : Nat} {h : AHeap} {K : AV → AHeap → Prop} (hS : S.length ≤ 100000) (he : e ≤ S.length) (hae : a ≤ e) (R : RecAt h id [.s S, .i .i64 (a : Int), .i .i64 (N : Int)])
    (hq : match lenS ((S.take e).drop a) with
      | .error x => ∀ h', Upd (· = id) h h' → h'.length = h.length → K (.tu [.i .i64 0, .i .i64 x]) h'
      | .ok (n, r) => ∀ h', Upd (· = id) h h' → h'.length = h.length → RecAt h' id [.s S, .i .i64 ((e - r.length : Nat) : Int), .i .i64 (N : Int)] → K (.tu [.i .i64 (n : Int), .i .i64 0]) h') :
    C G_ref33_Scan_size.id [.p (some ⟨id, 3, 0⟩), .i .i64 (e : Int)] h K := by
  refine G_ref33_Scan_size.call ?_
  simp only [G_ref33_Scan_size.t, G_ref33_Scan_size.j0]
  refine st_nil (st_fld (st_load R rfl rfl (st_asI ?_)))
  have hlen : ((S.take e).drop a).length = e - a := by simp; omega
  cases hs : (S.take e).drop a with
  | nil =>
    rw [hs] at hq hlen
    simp at hlen
    exact bif_t (by simp; omega) (.inl (hq h (Upd.refl _ _) rfl))
  | cons c r =>
    rw [hs] at hq hlen
    obtain ⟨g1, g2, g3⟩ := sub_at hs
    have hc := c.toNat_lt
    simp only [List.length_cons] at hlen
    rw [lenS] at hq
    refine bif_f (by simp; omega) (st_nil (st_fld (st_load R rfl rfl (st_asS (st_nil (st_fld (st_load R rfl rfl (st_asI (idxStr g1 ?_)))))))))
    refine st_nil (st_fld (st_load R rfl rfl (st_asI (inc (by omega) (st_nil (st_fld (st_store R rfl (by simp) rfl rfl rfl fun h1 hl1 U1 R1 => ?_)))))))
    have R1 : RecAt h1 id [.s S, .i .i64 ((a + 1 : Nat) : Int), .i .i64 (N : Int)] := R1
    rw [wrap_i64 (by omega) (by omega)]
    refine bif_both (fun e1 => ?_) fun e1 => ?_
    · rw [if_pos (by simp only [decide_eq_true_eq] at e1; omega)] at hq
      refine .inl (hq h1 U1 hl1 ?_)
      rw [show e - r.length = a + 1 by omega]; exact R1
    · have h128 : ¬ c.toNat < 128 := by simp only [decide_eq_false_iff_not] at e1; omega
      rw [if_neg h128] at hq
      refine withI_is (n := ((c.toNat - 128 : Nat) : Int)) (by rw [wrap_i64 (by omega) (by omega)]; omega) ?_
      generalize hk : c.toNat - 128 = k at hq
      have p0 : ∀ b, b = decide (k < 1 ∨ 3 < k) → G_ref33_Scan_size.p0 (kRet h K) (.p (some ⟨id, 3, 0⟩)) e k b h1 := by
        intro b hb
        refine G_ref33_Scan_size.i0 ?_
        simp only [G_ref33_Scan_size.t0, G_ref33_Scan_size.j1]
        refine bif_both (fun e2 => ?_) fun e2 => ?_
        · subst e2
          rw [if_pos (by simpa using hb.symm)] at hq
          exact .inl (hq h1 U1 hl1)
        · subst e2
          have hk13 : ¬ (k < 1 ∨ 3 < k) := by simpa using hb.symm
          rw [if_neg hk13] at hq
          refine st_nil (st_fld (st_load R1 rfl rfl (st_asI ?_)))
          refine withI_is (n := ((e - (a + 1) : Nat) : Int)) (by rw [wrap_i64 (by omega) (by omega)]; omega) ?_
          refine bif_both (fun e2 => ?_) fun e2 => ?_
          · rw [if_pos (by simp only [decide_eq_true_eq] at e2; omega)] at hq
            exact .inl (hq h1 U1 hl1)
          · have hkr : ¬ r.length < k := by simp only [decide_eq_false_iff_not] at e2; omega
            rw [if_neg hkr] at hq
            have er : r.take k = (S.drop (a + 1)).take k := by
              rw [← g3, List.drop_take, List.take_take, Nat.min_eq_left (by omega)]
            have := size_p1 (h0 := h) (K := K) (id := id) (at' := a + 1) (N := N) (k := k) hS (by omega) (by omega) (by omega) R1 (fun h2 U2 hl2 R2 => by
              rw [er] at hq
              split
              · rename_i hc; rw [if_pos hc] at hq; exact hq h2 (U1.trans U2 fun _ _ h => h) (by omega)
              · rename_i hc; rw [if_neg hc] at hq
                refine hq h2 (U1.trans U2 fun _ _ h => h) (by omega) ?_
                rw [List.length_drop, show e - (r.length - k) = a + 1 + k by omega]; exact R2) k 0 (by omega)
            exact this
      refine bif_both (fun e => p0 _ ?_) fun e => p0 _ ?_
      · have : k < 1 := by simp only [decide_eq_true_eq] at e; omega
        simp [this]
      · have : ¬ k < 1 := by simp only [decide_eq_false_iff_not] at e; omega
        rw [decide_eq_decide]; omega

end
end Go.Proofs.YtffgchcidkapjaaDoor
