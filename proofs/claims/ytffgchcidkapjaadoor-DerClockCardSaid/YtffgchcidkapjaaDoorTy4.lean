/- Reading values: Decode, the program's and the reference's. -/
import Derived.Test.YtffgchcidkapjaaDoorTy3
set_option linter.unusedVariables false
set_option linter.unusedSimpArgs false
set_option linter.unusedSectionVars false
set_option maxRecDepth 20000
namespace Go.Proofs.YtffgchcidkapjaaDoor
open Go.GAM Go.RowKit

mutual
/-- A value at a level, n values read so far; f bounds the calls. -/
def decV : Nat → Nat → Nat → List UInt8 → Except Int (Der × List UInt8 × Nat)
  | 0, _, _, _ => .error 0
  | f + 1, lvl, n, s => match s with
    | [] => .error 1
    | c :: r => if c.toNat % 32 = 31 then .error 2 else if 24 < lvl then .error 9 else if 256 < n + 1 then .error 3 else
      match lenS r with
      | .error e => .error e
      | .ok (k, t) => if t.length < k then .error 1 else
        if c.toNat / 32 % 2 = 0 then .ok (.mk (c.toNat / 64 : Nat) (c.toNat % 32 : Nat) false (t.take k) [], t.drop k, n + 1) else
        match decK f lvl (n + 1) (t.take k) with
        | .error e => .error e
        | .ok (ks, n') => .ok (.mk (c.toNat / 64 : Nat) (c.toNat % 32 : Nat) true [] ks, t.drop k, n')
def decK : Nat → Nat → Nat → List UInt8 → Except Int (List Der × Nat)
  | 0, _, _, _ => .error 0
  | f + 1, lvl, n, s => match s with
    | [] => .ok ([], n)
    | c :: r => match decV f (lvl + 1) n (c :: r) with
      | .error e => .error e
      | .ok (d, t, n') => match decK f lvl n' t with
        | .error e => .error e
        | .ok (ks, n'') => .ok (d :: ks, n'')
end
def decS (s : List UInt8) : Except Int Der :=
  if 65535 < s.length then .error 3 else match decV (2 * s.length + 1) 1 0 s with
    | .error e => .error e
    | .ok (d, r, _) => if r = [] then .ok d else .error 2

theorem dec_short : ∀ f, (∀ lvl n s d r n', decV f lvl n s = .ok (d, r, n') → r.length < s.length ∧ n' ≤ 256 ∧ d.sz + r.length ≤ s.length) ∧ (∀ lvl n s ks n', decK f lvl n s = .ok (ks, n') → (n' ≤ n ∨ n' ≤ 256) ∧ szs ks ≤ s.length) := by
  intro f
  induction f with
  | zero =>
    refine ⟨fun lvl n s d r n' h => ?_, fun lvl n s ks n' h => ?_⟩
    · unfold decV at h; cases h
    · unfold decK at h; cases h
  | succ f ih =>
    refine ⟨fun lvl n s d r n' h => ?_, fun lvl n s ks n' h => ?_⟩
    · unfold decV at h
      cases s with
      | nil => cases h
      | cons c s =>
        simp only at h
        split at h
        · cases h
        split at h
        · cases h
        split at h
        · cases h
        split at h
        · cases h
        · rename_i k t hl
          have hl := lenS_short hl
          split at h
          · cases h
          · split at h
            · cases h
              refine ⟨by simp only [List.length_drop, List.length_cons]; omega, by omega, ?_⟩
              simp only [Der.sz, szs, List.length_drop, List.length_cons]; omega
            · split at h
              · cases h
              · rename_i ks n2 hk
                cases h
                have := ih.2 _ _ _ _ _ hk
                have h2 : (t.take k).length = k := by rw [List.length_take]; omega
                refine ⟨by simp only [List.length_drop, List.length_cons]; omega, by omega, ?_⟩
                simp only [Der.sz, List.length_cons, List.length_drop]; omega
    · unfold decK at h
      cases s with
      | nil => cases h; simp [szs]
      | cons c s =>
        simp only at h
        split at h
        · cases h
        · rename_i d t n2 hv
          have hv := ih.1 _ _ _ _ _ _ hv
          split at h
          · cases h
          · rename_i ks2 n3 hk
            cases h
            have hk := ih.2 _ _ _ _ _ hk
            refine ⟨by omega, ?_⟩
            simp only [szs]; omega

theorem lenS_err {s : List UInt8} {e : Int} (h : lenS s = .error e) : e ≠ 0 := by
  cases s with
  | nil => cases h; decide
  | cons c r =>
    rw [lenS] at h
    split at h
    · cases h
    · split at h
      · cases h; decide
      · split at h
        · cases h; decide
        · split at h
          · cases h; decide
          · cases h
theorem dec_err : ∀ f, (∀ lvl n s e, 2 * s.length + 1 ≤ f → decV f lvl n s = .error e → e ≠ 0) ∧ (∀ lvl n s e, 2 * s.length + 2 ≤ f → decK f lvl n s = .error e → e ≠ 0) := by
  intro f
  induction f with
  | zero => exact ⟨fun lvl n s e h => by omega, fun lvl n s e h => by omega⟩
  | succ f ih =>
    refine ⟨fun lvl n s e hf h => ?_, fun lvl n s e hf h => ?_⟩
    · unfold decV at h
      cases s with
      | nil => cases h; decide
      | cons c s =>
        simp only at h
        split at h
        · cases h; decide
        split at h
        · cases h; decide
        split at h
        · cases h; decide
        split at h
        · rename_i hl; cases h; exact lenS_err hl
        · rename_i k t hl
          have hl := lenS_short hl
          split at h
          · cases h; decide
          · split at h
            · cases h
            · split at h
              · rename_i hk; cases h
                exact ih.2 _ _ _ _ (by rw [List.length_take]; simp only [List.length_cons] at hf; omega) hk
              · cases h
    · unfold decK at h
      cases s with
      | nil => cases h
      | cons c s =>
        simp only at h
        split at h
        · rename_i hv; cases h
          exact ih.1 _ _ _ _ (by omega) hv
        · rename_i d t n2 hv
          have hv := (dec_short f).1 _ _ _ _ _ _ hv
          split at h
          · rename_i hk; cases h
            exact ih.2 _ _ _ _ (by omega) hk
          · cases h

theorem DV.fill {h : AHeap} {F : Nat → Prop} {d : Der} {cs : List AV} (D : DV h F d cs) : fillA z5 [(0, 5, .ag cs)] = some cs := by cases D; rfl
theorem DV.cells {h : AHeap} {F : Nat → Prop} {d : Der} {cs : List AV} (D : DV h F d cs) : cs.all AV.cellOK = true := by
  cases D with
  | mk _ _ _ hc => simp [AV.cellOK] at hc ⊢; exact hc
theorem Arr.cellOK {sz : Nat} {h : AHeap} {v : AV} {cs : List AV} {n : Nat} (A : Arr sz h v cs n) : v.cellOK = true := by
  rcases A with ⟨rfl, _⟩ | ⟨id, b, rfl, _⟩ <;> rfl

theorem and31 (c : UInt8) : bitsOp .and .i64 (c.toNat : Int) 31 = ((c.toNat % 32 : Nat) : Int) := by
  have hc := c.toNat_lt
  have := bits_and_mod (x := c.toNat) (n := 5) (by omega) (by omega)
  exact this
theorem and32 (c : UInt8) : decide (bitsOp .and .i64 (c.toNat : Int) 32 = 0) = decide (c.toNat / 32 % 2 = 0) := by
  have h : ∀ n : Nat, n < 256 → decide (bitsOp .and .i64 (n : Int) 32 = 0) = decide (n / 32 % 2 = 0) := by decide +kernel
  exact h c.toNat c.toNat_lt

section
variable {h0 : AHeap}

/-- What value hands back. -/
def VOut (id0 : Nat) (h : AHeap) (Q : AV → AHeap → Prop) : Except Int (Der × List UInt8 × Nat) → Prop
  | .error e => ∀ h', Upd (· = id0) h h' → Q (.tu [.ag z5, .s [], .i .i64 e]) h'
  | .ok (d, r, n) => ∀ cs h', Upd (· = id0) h h' → RecAt h' id0 [.i .i64 (n : Int)] → DV h' (fun i => h.length ≤ i) d cs → Q (.tu [.ag cs, .s r, .i .i64 0]) h'
def KOut (id0 i6 i10 base : Nat) (h : AHeap) (c t : Int) (ks : List Der) (rest : List UInt8) (Q : AV → AHeap → Prop) : Except Int (List Der × Nat) → Prop
  | .error e => ∀ h', Upd (fun i => i = id0 ∨ i = i6 ∨ i = i10 ∨ base ≤ i) h h' → Q (.tu [.ag z5, .s [], .i .i64 e]) h'
  | .ok (ks', n) => ∀ cs h', Upd (fun i => i = id0 ∨ i = i6 ∨ i = i10 ∨ base ≤ i) h h' → RecAt h' id0 [.i .i64 (n : Int)] → DV h' (fun i => base ≤ i) (.mk c t true [] (ks ++ ks')) cs → Q (.tu [.ag cs, .s rest, .i .i64 0]) h'

theorem value_n : ∀ f,
    (∀ (lvl n : Nat) (s : List UInt8) (id0 : Nat) (h : AHeap) (Q : AV → AHeap → Prop), 2 * s.length + 1 ≤ f → s.length ≤ 100000 → lvl ≤ 1000 → n ≤ 256 → RecAt h id0 [.i .i64 (n : Int)] → VOut id0 h Q (decV f lvl n s) →
      C G_der_reader_value.id [.p (some ⟨id0, 1, 0⟩), .s s, .i .i64 (lvl : Int)] h Q) ∧
    (∀ (lvl n : Nat) (s rest : List UInt8) (ks : List Der) (rows : List (List AV)) (v : AV) (base id0 i6 i10 : Nat) (c t : Int) (z : List AV) (h0 h : AHeap) (Q : AV → AHeap → Prop), 2 * s.length + 2 ≤ f → rows.length + s.length ≤ 100000 → lvl ≤ 24 → n ≤ 256 → id0 < base → i6 < base → i10 < base → id0 ≠ i6 → id0 ≠ i10 → i6 ≠ i10 → base ≤ h.length →
      RecAt h id0 [.i .i64 (n : Int)] → RecAt h i6 z → z.length = 5 → RecAt h i10 [.i .i64 c, .i .i64 t, .b true, .s [], v] → Arr 5 h v rows.flatten rows.length → (∀ i, SlAt v i → base ≤ i) → DVs h (fun i => base ≤ i ∧ ¬ SlAt v i) ks rows →
      KOut id0 i6 i10 base h c t ks rest Q (decK f lvl n s) →
      G_der_reader_value.p0 (kRet h0 Q) (.p (some ⟨id0, 1, 0⟩)) lvl (.p (some ⟨i6, 5, 0⟩)) (.p (some ⟨i10, 5, 0⟩)) s rest h) := by
  intro f
  induction f with
  | zero => exact ⟨fun lvl n s id0 h Q hf => by omega, fun lvl n s rest ks rows v base id0 i6 i10 c t z h0 h Q hf => by omega⟩
  | succ f ih =>
    refine ⟨?_, ?_⟩
    · intro lvl n s id0 h Q hf hs hlv hn R hq
      refine G_der_reader_value.call ?_
      simp only [G_der_reader_value.t, G_der_reader_value.j0]
      refine st_alloc fun h1 hl1 U1 R6 => ?_
      have R0 := R.upd U1 fun h => h
      have id0l := R.lt
      -- the ways out with an error
      have err : ∀ (e : Int) (hx : AHeap), VOut id0 h Q (.error e) → Upd (· = id0) h hx → RecAt hx h.length z5 →
          pStore 5 (.p (some ⟨h.length, 5, 0⟩)) (.ag z5) hx fun h4 => pLoadN 5 (.p (some ⟨h.length, 5, 0⟩)) h4 fun v6 => kRet h Q (.tu [v6, .s [], .i .i64 e]) h4 := by
        intro e hx hv U Rx
        refine st_storeN Rx rfl rfl rfl fun h4 hl4 U4 R4 => st_loadN R4 rfl (.inl (hv h4 (U.trans U4 fun i hi he => absurd he (by omega))))
      unfold decV at hq
      cases s with
      | nil => exact bif_t rfl (err 1 h1 hq (U1.mono fun _ _ h => h.elim) R6)
      | cons c s =>
        have hc := c.toNat_lt
        simp only [List.length_cons] at hf hs
        refine bif_f (by simp) (st_at (i := 0) rfl ?_)
        rw [wrap_i64 (by omega) (by omega)]
        refine st_shr (k := .i64) (b := 6) (by decide) ?_
        refine withI_is (and31 c) (withI_is rfl ?_)
        refine st_alloc fun h2 hl2 U2 R10 => ?_
        refine st_storeN R10 rfl rfl rfl fun h3 hl3 U3 R10' => ?_
        have R0 := (R0.upd U2 fun h => h).upd U3 (by omega)
        have R6 := (R6.upd U2 fun h => h).upd U3 (by omega)
        refine st_nil (st_fld (st_load R0 rfl rfl (st_asI (inc (by omega) (st_nil (st_fld (st_store R0 rfl (by simp) rfl rfl rfl fun h4 hl4 U4 R0 => ?_)))))))
        have R0 : RecAt h4 id0 [.i .i64 ((n + 1 : Nat) : Int)] := R0
        have R6 := R6.upd U4 (by omega)
        have R10 := R10'.upd U4 (by omega)
        have U : Upd (· = id0) h h4 := (((U1.mono fun _ _ h => h.elim).trans U2 fun _ _ h => h.elim).trans U3 fun i hi he => absurd he (by omega)).trans U4 fun _ _ h => h
        refine st_fld (st_load R10 rfl rfl (st_asI ?_))
        simp only at hq
        by_cases e31 : c.toNat % 32 = 31
        · rw [if_pos e31] at hq
          exact bif_t (by simp; omega) (err 2 h4 hq U R6)
        rw [if_neg e31] at hq
        refine bif_f (by simp; omega) ?_
        by_cases e24 : 24 < lvl
        · rw [if_pos e24] at hq
          exact bif_t (by simp; omega) (err 9 h4 hq U R6)
        rw [if_neg e24] at hq
        refine bif_f (by simp; omega) (st_nil (st_fld (st_load R0 rfl rfl (st_asI ?_))))
        by_cases e256 : 256 < n + 1
        · rw [if_pos e256] at hq
          exact bif_t (by simp; omega) (err 3 h4 hq U R6)
        rw [if_neg e256] at hq
        refine bif_f (by simp; omega) (st_subs (lo := 1) (by simp) (length_c (by simp; omega) ?_))
        rw [show (c :: s).drop 1 = s from rfl]
        cases hl : lenS s with
        | error e =>
          rw [hl] at hq
          refine st_ext0 (st_asI (st_ext1 (st_asS (st_ext2 (st_asI ?_)))))
          exact bif_t (by simp [lenS_err hl]) (err e h4 hq U R6)
        | ok x =>
          obtain ⟨k, t⟩ := x
          rw [hl] at hq
          simp only at hq
          have hsh := lenS_short hl
          refine st_ext0 (st_asI (st_ext1 (st_asS (st_ext2 (st_asI (bif_f (by simp) ?_))))))
          by_cases hk : t.length < k
          · rw [if_pos hk] at hq
            exact bif_t (by simp; omega) (err 1 h4 hq U R6)
          rw [if_neg hk] at hq
          refine bif_f (by simp; omega) (st_subs1 (by omega) (st_subs (by omega) (st_fld (st_load R10 rfl rfl (st_asB ?_)))))
          have e32 := and32 c
          by_cases hm : c.toNat / 32 % 2 = 0
          · rw [if_pos hm] at hq
            rw [decide_eq_true hm] at e32
            refine bif_t (by rw [e32]; rfl) ?_
            refine st_fld (st_store R10 rfl (by simp) rfl rfl rfl fun h5 hl5 U5 R10 => st_loadN R10 rfl ?_)
            have R6 := R6.upd U5 (by omega)
            have R0 := R0.upd U5 (by omega)
            refine st_storeN R6 rfl rfl (by simp [AV.cellOK]) fun h6 hl6 U6 R6 => st_loadN R6 rfl (.inl ?_)
            have R0 := R0.upd U6 (by omega)
            refine hq _ h6 ((U.trans U5 fun i hi he => absurd he (by omega)).trans U6 fun i hi he => absurd he (by omega)) R0 ?_
            rw [e32]
            exact DV.leaf h6 _ _ _ _ _
          · rw [if_neg hm] at hq
            rw [decide_eq_false hm] at e32
            refine bif_f (by rw [e32]; rfl) ?_
            rw [e32] at R10
            have := ih.2 lvl (n + 1) (t.take k) (t.drop k) [] [] (.sl none 0 none) (h.length + 2) id0 h.length (h.length + 1) (c.toNat / 64 : Nat) (c.toNat % 32 : Nat) z5 h h4 Q
              (by rw [List.length_take]; omega) (by rw [List.length_take]; simp; omega) (by omega) (by omega) (by omega) (by omega) (by omega) (by omega) (by omega) (by omega) (by omega) R0 R6 rfl (by rw [← hl1]; exact R10) (Arr.nil 5 h4) (fun i hi => hi.elim) .nil ?_
            · rw [← hl1] at this; exact this
            · cases hd : decK f lvl (n + 1) (t.take k) with
              | error e =>
                rw [hd] at hq
                exact fun h' U' => hq h' (U.trans U' fun i hi he => by omega)
              | ok y =>
                obtain ⟨ks, n'⟩ := y
                rw [hd] at hq
                exact fun cs h' U' R' D' => hq cs h' (U.trans U' fun i hi he => by omega) R' (D'.upd (Upd.refl (fun _ => False) h') fun i hi _ => ⟨fun h => h, by omega⟩)
    · intro lvl n s rest ks rows v base id0 i6 i10 c t z h0 h Q hf hs hlv hn b0 b6 b10 n06 n010 n610 hbl R0 R6 hz R10 A hvb D hq
      refine G_der_reader_value.i0 ?_
      simp only [G_der_reader_value.t0, G_der_reader_value.j0]
      unfold decK at hq
      cases s with
      | nil =>
        refine bif_f (by simp) (st_loadN R10 rfl (st_storeN R6 hz.symm rfl (by simp [AV.cellOK]; exact Arr.cellOK A) fun h1 hl1 U1 R6 => ?_))
        refine st_loadN R6 rfl (.inl (hq _ h1 (U1.mono fun i _ h => .inr (.inl h)) (R0.upd U1 n06) ?_))
        rw [List.append_nil]
        have A1 := A.upd U1 fun i hi he => by have := hvb i hi; omega
        exact .mk (D.upd U1 fun i hi hl => ⟨by omega, hi.1⟩) (.inl A1.rd) (fun i hi => ⟨hvb i hi, A1.rd.lt hi⟩) (Arr.cellOK A)
      | cons x s =>
        simp only [List.length_cons] at hf hs
        simp only at hq
        refine bif_t (by simp) (st_alloc fun h1 hl1 U1 R84 => ?_)
        refine inc (by omega) ?_
        have R0 := R0.upd U1 fun h => h
        have R6 := R6.upd U1 fun h => h
        have R10 := R10.upd U1 fun h => h
        refine ih.1 (lvl + 1) n (x :: s) id0 h1 _ (by simp only [List.length_cons]; omega) (by simp only [List.length_cons]; omega) (by omega) hn R0 ?_
        cases hv : decV f (lvl + 1) n (x :: s) with
        | error e =>
          rw [hv] at hq
          have he := (dec_err f).1 _ _ _ _ (by simp only [List.length_cons]; omega) hv
          intro h2 U2
          refine st_ext0 (st_ext1 (st_asS (st_ext2 (st_asI ?_))))
          have R84 := R84.upd U2 (by omega)
          have R6 := R6.upd U2 (by omega)
          refine st_storeN R84 rfl rfl rfl fun h3 hl3 U3 _ => ?_
          have R6 := R6.upd U3 (by omega)
          refine bif_t (by simp [he]) (st_storeN R6 hz.symm rfl rfl fun h4 hl4 U4 R6 => st_loadN R6 rfl (.inl (hq h4 ?_)))
          refine (((U1.mono fun _ _ h => h.elim).trans U2 fun i hi he => .inl he).trans U3 fun i hi he => absurd he (by omega)).trans U4 fun i hi he => .inr (.inl he)
        | ok y =>
          obtain ⟨d, t', n'⟩ := y
          rw [hv] at hq
          simp only at hq
          have hsh := (dec_short f).1 _ _ _ _ _ _ hv
          simp only [List.length_cons] at hsh
          intro cs h2 U2 R0 Dd
          refine st_ext0 (st_ext1 (st_asS (st_ext2 (st_asI ?_))))
          have R84 := R84.upd U2 (by omega)
          have R6 := R6.upd U2 (by omega)
          have R10 := R10.upd U2 (by omega)
          have hvl : ∀ i, SlAt v i → i < h.length := fun i hi => A.rd.lt hi
          have A2 := (A.upd U1 fun _ _ h => h).upd U2 fun i hi he => by have := hvb i hi; omega
          have D2 := (D.upd (F' := fun i => (base ≤ i ∧ ¬ SlAt v i) ∧ i < h.length) U1 fun i hi hl => ⟨fun h => h, hi, hl⟩).upd (F' := fun i => (base ≤ i ∧ ¬ SlAt v i) ∧ i < h.length) U2 fun i hi _ => ⟨by omega, hi⟩
          refine st_storeN R84 rfl Dd.len Dd.cells fun h3 hl3 U3 R84 => ?_
          have R0 := R0.upd U3 (by omega)
          have R6 := R6.upd U3 (by omega)
          have R10 := R10.upd U3 (by omega)
          have A3 := A2.upd U3 fun i hi he => by have := hvl i hi; omega
          have D3 := D2.upd (F' := fun i => base ≤ i ∧ ¬ SlAt v i) U3 fun i hi hl => ⟨by omega, hi.1⟩
          · have Dd3 := Dd.upd (F' := fun i => h1.length ≤ i) U3 fun i hi _ => ⟨by omega, hi⟩
            refine bif_f (by simp) (st_fld (st_load R10 rfl rfl (st_loadN R84 Dd.len.symm ?_)))
            refine A3.push (x := .ag cs) (by decide) Dd.fill Dd.len Dd.cells (by omega) (by omega) fun v' h4 U4 A4 F4 => ?_
            have R10 := R10.upd U4 fun hs => by have := hvb i10 hs; omega
            have R0 := R0.upd U4 fun hs => by have := hvb id0 hs; omega
            have R6 := R6.upd U4 fun hs => by have := hvb i6 hs; omega
            have D4 := D3.upd (F' := fun i => base ≤ i ∧ ¬ SlAt v' i) U4 fun i hi hl => ⟨hi.2, hi.1, fun hs => by
              rcases F4 i hs with h | h
              · exact hi.2 h
              · omega⟩
            have Dd4 := Dd3.upd (F' := fun i => base ≤ i ∧ ¬ SlAt v' i) U4 fun i hi hl => ⟨fun hs => by have := hvl i hs; omega, by omega, fun hs => by
              rcases F4 i hs with h | h
              · have := hvl i h; omega
              · omega⟩
            refine st_fld (st_store R10 rfl (by simp) (by rcases A4 with ⟨rfl, _⟩ | ⟨_, _, rfl, _⟩ <;> rfl) (by rcases A4 with ⟨rfl, _⟩ | ⟨_, _, rfl, _⟩ <;> rfl) (Arr.cellOK A4) fun h5 hl5 U5 R10 => ?_)
            have hv'b : ∀ i, SlAt v' i → base ≤ i := fun i hs => by
              rcases F4 i hs with h | h
              · exact hvb i h
              · have := U1.1; have := U2.1; have := U3.1; omega
            have A5 := A4.upd U5 fun i hi he => by have := hv'b i hi; omega
            have D5 := (D4.app Dd4).upd (F' := fun i => base ≤ i ∧ ¬ SlAt v' i) U5 fun i hi hl => ⟨by omega, hi⟩
            have UU : Upd (fun i => i = id0 ∨ i = i6 ∨ i = i10 ∨ base ≤ i) h h5 := ((((U1.mono fun _ _ h => h.elim).trans U2 fun i hi he => .inl he).trans U3 fun i hi he => absurd he (by omega)).trans U4 fun i hi he => .inr (.inr (.inr (hvb i he)))).trans U5 fun i hi he => .inr (.inr (.inl he))
            refine ih.2 lvl n' t' rest (ks ++ [d]) (rows ++ [cs]) v' base id0 i6 i10 c t z h0 h5 Q (by omega) (by simp; omega) hlv (by omega) b0 b6 b10 n06 n010 n610 (by have := UU.1; omega) (R0.upd U5 n010) (R6.upd U5 n610) hz R10 ?_ hv'b D5 ?_
            · have A5 : Arr 5 h5 v' (rows.flatten ++ cs) (rows.length + 1) := A5
              simpa using A5
            · cases hk : decK f lvl n' t' with
              | error e =>
                rw [hk] at hq
                exact fun h' U' => hq h' (UU.trans U' fun _ _ h => h)
              | ok y =>
                obtain ⟨ks', n''⟩ := y
                rw [hk] at hq
                exact fun cs' h' U' R' D' => hq cs' h' (UU.trans U' fun _ _ h => h) R' (by simpa using D')
end

end Go.Proofs.YtffgchcidkapjaaDoor
