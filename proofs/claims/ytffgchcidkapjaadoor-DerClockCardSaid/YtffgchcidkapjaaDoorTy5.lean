/- Reading values: the reference's; Decode. -/
import Derived.Test.YtffgchcidkapjaaDoorTy4
set_option linter.unusedVariables false
set_option linter.unusedSimpArgs false
set_option linter.unusedSectionVars false
set_option maxRecDepth 20000
namespace Go.Proofs.YtffgchcidkapjaaDoor
open Go.GAM Go.RowKit

section
variable {h0 : AHeap}

def VOutR (id0 e : Nat) (S : List UInt8) (h : AHeap) (Q : AV → AHeap → Prop) : Except Int (Der × List UInt8 × Nat) → Prop
  | .error x => ∀ h', Upd (· = id0) h h' → Q (.tu [.ag z5, .i .i64 x]) h'
  | .ok (d, r, n) => ∀ cs h', Upd (· = id0) h h' → RecAt h' id0 [.s S, .i .i64 ((e - r.length : Nat) : Int), .i .i64 (n : Int)] → DV h' (fun i => h.length ≤ i) d cs → Q (.tu [.ag cs, .i .i64 0]) h'
def KOutR (id0 i6 i10 base last : Nat) (S : List UInt8) (h : AHeap) (c t : Int) (ks : List Der) (Q : AV → AHeap → Prop) : Except Int (List Der × Nat) → Prop
  | .error x => ∀ h', Upd (fun i => i = id0 ∨ i = i6 ∨ i = i10 ∨ base ≤ i) h h' → Q (.tu [.ag z5, .i .i64 x]) h'
  | .ok (ks', n) => ∀ cs h', Upd (fun i => i = id0 ∨ i = i6 ∨ i = i10 ∨ base ≤ i) h h' → RecAt h' id0 [.s S, .i .i64 (last : Int), .i .i64 (n : Int)] → DV h' (fun i => base ≤ i) (.mk c t true [] (ks ++ ks')) cs → Q (.tu [.ag cs, .i .i64 0]) h'

/-- What is left behind a reading is the end of what there was. -/
theorem lenS_rest {s r : List UInt8} {n : Nat} (h : lenS s = .ok (n, r)) : r = s.drop (s.length - r.length) := by
  cases s with
  | nil => cases h
  | cons c s =>
    rw [lenS] at h
    split at h
    · cases h
      rw [show (c :: r).length - r.length = 1 by simp]; rfl
    · split at h
      · cases h
      · split at h
        · cases h
        · split at h
          · cases h
          · rename_i h2 h3
            cases h
            rw [show (c :: s).length - (s.drop (c.toNat - 128)).length = (c.toNat - 128) + 1 by simp only [List.length_cons, List.length_drop]; omega]
            rfl
theorem decV_rest {f lvl n : Nat} {s r : List UInt8} {d : Der} {n' : Nat} (h : decV f lvl n s = .ok (d, r, n')) : r = s.drop (s.length - r.length) := by
  cases f with
  | zero => unfold decV at h; cases h
  | succ f =>
    unfold decV at h
    cases s with
    | nil => cases h
    | cons c s =>
      simp only at h
      split at h
      · cases h
      split at h
      · cases h
      split at h
      · cases h
      split at h
      · cases h
      · rename_i k t hl
        have h1 := lenS_rest hl
        have h2 := lenS_short hl
        have key : ∀ k, k ≤ t.length → t.drop k = (c :: s).drop ((c :: s).length - (t.drop k).length) := by
          intro k hk
          rw [show (c :: s).length - (t.drop k).length = (s.length - t.length + k) + 1 by simp only [List.length_cons, List.length_drop]; omega]
          rw [List.drop_succ_cons, ← List.drop_drop, ← h1]
        split at h
        · cases h
        · split at h
          · cases h; exact key k (by omega)
          · split at h
            · cases h
            · cases h; exact key k (by omega)

theorem valueR_n : ∀ f,
    (∀ (lvl n a e : Nat) (S : List UInt8) (id0 : Nat) (h : AHeap) (Q : AV → AHeap → Prop), a ≤ e → e ≤ S.length → 2 * (e - a) + 1 ≤ f → S.length ≤ 100000 → lvl ≤ 1000 → n ≤ 256 → RecAt h id0 [.s S, .i .i64 (a : Int), .i .i64 (n : Int)] → VOutR id0 e S h Q (decV f lvl n ((S.take e).drop a)) →
      C G_ref33_Scan_value.id [.p (some ⟨id0, 3, 0⟩), .i .i64 (e : Int), .i .i64 (lvl : Int)] h Q) ∧
    (∀ (lvl n a last : Nat) (S : List UInt8) (ks : List Der) (rows : List (List AV)) (v : AV) (base id0 i6 i10 : Nat) (c t : Int) (z : List AV) (h0 h : AHeap) (Q : AV → AHeap → Prop), a ≤ last → last ≤ S.length → 2 * (last - a) + 2 ≤ f → S.length ≤ 100000 → rows.length + (last - a) ≤ 100000 → lvl ≤ 24 → n ≤ 256 → id0 < base → i6 < base → i10 < base → id0 ≠ i6 → id0 ≠ i10 → i6 ≠ i10 → base ≤ h.length →
      RecAt h id0 [.s S, .i .i64 (a : Int), .i .i64 (n : Int)] → RecAt h i6 z → z.length = 5 → RecAt h i10 [.i .i64 c, .i .i64 t, .b true, .s [], v] → Arr 5 h v rows.flatten rows.length → (∀ i, SlAt v i → base ≤ i) → DVs h (fun i => base ≤ i ∧ ¬ SlAt v i) ks rows →
      KOutR id0 i6 i10 base last S h c t ks Q (decK f lvl n ((S.take last).drop a)) →
      G_ref33_Scan_value.p0 (kRet h0 Q) (.p (some ⟨id0, 3, 0⟩)) lvl (.p (some ⟨i6, 5, 0⟩)) (.p (some ⟨i10, 5, 0⟩)) last h) := by
  intro f
  induction f with
  | zero => exact ⟨fun lvl n a e S id0 h Q _ _ hf => by omega, fun lvl n a last S ks rows v base id0 i6 i10 c t z h0 h Q _ _ hf => by omega⟩
  | succ f ih =>
    refine ⟨?_, ?_⟩
    · intro lvl n a e S id0 h Q hae he hf hS hlv hn R hq
      have hlen : ((S.take e).drop a).length = e - a := by rw [List.length_drop, List.length_take]; omega
      refine G_ref33_Scan_value.call ?_
      simp only [G_ref33_Scan_value.t, G_ref33_Scan_value.j0]
      refine st_alloc fun h1 hl1 U1 R6 => ?_
      have R0 := R.upd U1 fun h => h
      have id0l := R.lt
      have err : ∀ (x : Int) (hx : AHeap), VOutR id0 e S h Q (.error x) → Upd (· = id0) h hx → RecAt hx h.length z5 →
          pStore 5 (.p (some ⟨h.length, 5, 0⟩)) (.ag z5) hx fun h4 => pLoadN 5 (.p (some ⟨h.length, 5, 0⟩)) h4 fun v6 => kRet h Q (.tu [v6, .i .i64 x]) h4 := by
        intro x hx hv U Rx
        refine st_storeN Rx rfl rfl rfl fun h4 hl4 U4 R4 => st_loadN R4 rfl (.inl (hv h4 (U.trans U4 fun i hi he => absurd he (by omega))))
      refine st_nil (st_fld (st_load R0 rfl rfl (st_asI ?_)))
      unfold decV at hq
      cases hs : (S.take e).drop a with
      | nil =>
        rw [hs] at hq hlen
        simp at hlen
        exact bif_t (by simp; omega) (err 1 h1 hq (U1.mono fun _ _ h => h.elim) R6)
      | cons c s =>
        rw [hs] at hq hlen
        obtain ⟨g1, g2, g3⟩ := sub_at hs
        have hc := c.toNat_lt
        simp only [List.length_cons] at hlen
        refine bif_f (by simp; omega) (st_nil (st_fld (st_load R0 rfl rfl (st_asS (st_nil (st_fld (st_load R0 rfl rfl (st_asI (idxStr g1 ?_)))))))))
        refine st_nil (st_fld (st_load R0 rfl rfl (st_asI (inc (by omega) (st_nil (st_fld (st_store R0 rfl (by simp) rfl rfl rfl fun h2 hl2 U2 R0 => ?_)))))))
        have R0 : RecAt h2 id0 [.s S, .i .i64 ((a + 1 : Nat) : Int), .i .i64 (n : Int)] := R0
        refine st_nil (st_fld (st_load R0 rfl rfl (st_asI (inc (by omega) (st_nil (st_fld (st_store R0 rfl (by simp) rfl rfl rfl fun h3 hl3 U3 R0 => ?_)))))))
        have R0 : RecAt h3 id0 [.s S, .i .i64 ((a + 1 : Nat) : Int), .i .i64 ((n + 1 : Nat) : Int)] := R0
        have R6 := (R6.upd U2 (by omega)).upd U3 (by omega)
        have U : Upd (· = id0) h h3 := ((U1.mono fun _ _ h => h.elim).trans U2 fun _ _ h => h).trans U3 fun _ _ h => h
        rw [wrap_i64 (by omega) (by omega)]
        refine st_rem (n := ((c.toNat % 32 : Nat) : Int)) (by omega) (by rw [Int.tmod_eq_emod_of_nonneg (by omega)]; rfl) ?_
        simp only at hq
        by_cases e31 : c.toNat % 32 = 31
        · rw [if_pos e31] at hq
          exact bif_t (by simp; omega) (err 2 h3 hq U R6)
        rw [if_neg e31] at hq
        refine bif_f (by simp; omega) ?_
        by_cases e24 : 24 < lvl
        · rw [if_pos e24] at hq
          exact bif_t (by simp; omega) (err 9 h3 hq U R6)
        rw [if_neg e24] at hq
        refine bif_f (by simp; omega) (st_nil (st_fld (st_load R0 rfl rfl (st_asI ?_))))
        by_cases e256 : 256 < n + 1
        · rw [if_pos e256] at hq
          exact bif_t (by simp; omega) (err 3 h3 hq U R6)
        rw [if_neg e256] at hq
        refine bif_f (by simp; omega) (size_c hS he (by omega) R0 ?_)
        rw [g3]
        cases hl : lenS s with
        | error x =>
          rw [hl] at hq
          intro h4 U4 hl4
          have R6 := R6.upd U4 (by omega)
          refine st_ext0 (st_asI (st_ext1 (st_asI ?_)))
          exact bif_t (by simp [lenS_err hl]) (err x h4 hq (U.trans U4 fun _ _ h => h) R6)
        | ok x =>
          obtain ⟨k, t⟩ := x
          rw [hl] at hq
          simp only at hq
          have hsh := lenS_short hl
          have hrest := lenS_rest hl
          intro h4 U4 hl4 R0
          have R6 := R6.upd U4 (by omega)
          have U := U.trans U4 fun _ _ h => h
          have ht : (S.take e).drop (e - t.length) = t := by
            conv => rhs; rw [hrest, ← g3, List.drop_drop, show a + 1 + (((S.take e).drop (a + 1)).length - t.length) = e - t.length by rw [List.length_drop, List.length_take]; omega]
          refine st_ext0 (st_asI (st_ext1 (st_asI (bif_f (by simp) (st_nil (st_fld (st_load R0 rfl rfl (st_asI ?_))))))))
          refine withI_is (n := (t.length : Int)) (by rw [wrap_i64 (by omega) (by omega)]; omega) ?_
          by_cases hk : t.length < k
          · rw [if_pos hk] at hq
            exact bif_t (by simp; omega) (err 1 h4 hq U R6)
          rw [if_neg hk] at hq
          refine bif_f (by simp; omega) ?_
          refine st_quo (n := ((c.toNat / 64 : Nat) : Int)) (by omega) (by rw [Int.tdiv_eq_ediv_of_nonneg (by omega), wrap_i64 (by omega) (by omega)]; omega) ?_
          refine st_rem (n := ((c.toNat % 32 : Nat) : Int)) (by omega) (by rw [Int.tmod_eq_emod_of_nonneg (by omega)]; rfl) ?_
          refine st_quo (n := ((c.toNat / 32 : Nat) : Int)) (by omega) (by rw [Int.tdiv_eq_ediv_of_nonneg (by omega), wrap_i64 (by omega) (by omega)]; omega) ?_
          refine st_rem (n := ((c.toNat / 32 % 2 : Nat) : Int)) (by omega) (by rw [Int.tmod_eq_emod_of_nonneg (by omega)]; rfl) ?_
          refine st_alloc fun h5 hl5 U5 R10 => st_storeN R10 rfl rfl rfl fun h6 hl6 U6 R10 => ?_
          have R0 := (R0.upd U5 fun h => h).upd U6 (by omega)
          have R6 := (R6.upd U5 fun h => h).upd U6 (by omega)
          have U := (U.trans U5 fun _ _ h => h.elim).trans U6 fun i hi he => absurd he (by omega)
          refine st_nil (st_fld (st_load R0 rfl rfl (st_asI ?_)))
          refine withI_is (n := ((e - t.length + k : Nat) : Int)) (by rw [wrap_i64 (by omega) (by omega)]; omega) (st_fld (st_load R10 rfl rfl (st_asB ?_)))
          have hd1 : (S.take (e - t.length + k)).drop (e - t.length) = t.take k := by
            conv => rhs; rw [← ht, List.drop_take, List.take_take, Nat.min_eq_left (by omega)]
            rw [List.drop_take, show e - t.length + k - (e - t.length) = k by omega]
          have hd2 : e - (t.drop k).length = e - t.length + k := by rw [List.length_drop]; omega
          by_cases hm : c.toNat / 32 % 2 = 0
          · rw [if_pos hm] at hq
            have e32 : decide (((c.toNat / 32 % 2 : Nat) : Int) = 1) = false := by rw [hm]; rfl
            refine bif_t (by rw [e32]; rfl) ?_
            refine st_nil (st_fld (st_load R0 rfl rfl (st_asS (st_nil (st_fld (st_load R0 rfl rfl (st_asI ?_)))))))
            refine st_subs2 (by omega) (by omega) ?_
            rw [hd1]
            refine st_fld (st_store R10 rfl (by simp) rfl rfl rfl fun h7 hl7 U7 R10 => ?_)
            have R0 := R0.upd U7 (by omega)
            have R6 := R6.upd U7 (by omega)
            refine st_nil (st_fld (st_store R0 rfl (by simp) rfl rfl rfl fun h8 hl8 U8 R0 => ?_))
            have R10 := R10.upd U8 (by omega)
            have R6 := R6.upd U8 (by omega)
            refine st_loadN R10 rfl (st_storeN R6 rfl rfl (by simp [AV.cellOK]) fun h9 hl9 U9 R6 => st_loadN R6 rfl (.inl ?_))
            have R0 := R0.upd U9 (by omega)
            refine hq _ h9 (((U.trans U7 fun i hi he => absurd he (by omega)).trans U8 fun _ _ h => h).trans U9 fun i hi he => absurd he (by omega)) ?_ ?_
            · rw [hd2]; exact R0
            · rw [e32]; exact DV.leaf h9 _ _ _ _ _
          · rw [if_neg hm] at hq
            have e32 : decide (((c.toNat / 32 % 2 : Nat) : Int) = 1) = true := by
              rw [decide_eq_true_eq]; omega
            refine bif_f (by rw [e32]; rfl) ?_
            rw [e32] at R10
            have := ih.2 lvl (n + 1) (e - t.length) (e - t.length + k) S [] [] (.sl none 0 none) (h4.length + 1) id0 h.length h4.length (c.toNat / 64 : Nat) (c.toNat % 32 : Nat) z5 h h6 Q
              (by omega) (by omega) (by omega) hS (by simp; omega) (by omega) (by omega) (by omega) (by omega) (by omega) (by omega) (by omega) (by omega) (by omega) R0 R6 rfl R10 (Arr.nil 5 h6) (fun i hi => hi.elim) .nil ?_
            · exact this
            · rw [hd1]
              cases hd : decK f lvl (n + 1) (t.take k) with
              | error x =>
                rw [hd] at hq
                exact fun h' U' => hq h' (U.trans U' fun i hi he => by omega)
              | ok y =>
                obtain ⟨ks, n'⟩ := y
                rw [hd] at hq
                exact fun cs h' U' R' D' => hq cs h' (U.trans U' fun i hi he => by omega) (by rw [hd2]; exact R') (D'.upd (Upd.refl (fun _ => False) h') fun i hi _ => ⟨fun h => h, by omega⟩)
    · intro lvl n a last S ks rows v base id0 i6 i10 c t z h0 h Q hal hls hf hS hrl hlv hn b0 b6 b10 n06 n010 n610 hbl R0 R6 hz R10 A hvb D hq
      have hlen : ((S.take last).drop a).length = last - a := by rw [List.length_drop, List.length_take]; omega
      refine G_ref33_Scan_value.i0 ?_
      simp only [G_ref33_Scan_value.t0, G_ref33_Scan_value.j0]
      refine st_nil (st_fld (st_load R0 rfl rfl (st_asI ?_)))
      unfold decK at hq
      cases hs : (S.take last).drop a with
      | nil =>
        rw [hs] at hq hlen
        simp at hlen
        have : a = last := by omega
        subst this
        refine bif_f (by simp) (st_loadN R10 rfl (st_storeN R6 hz.symm rfl (by simp [AV.cellOK]; exact Arr.cellOK A) fun h1 hl1 U1 R6 => ?_))
        refine st_loadN R6 rfl (.inl (hq _ h1 (U1.mono fun i _ h => .inr (.inl h)) (R0.upd U1 n06) ?_))
        rw [List.append_nil]
        have A1 := A.upd U1 fun i hi he => by have := hvb i hi; omega
        exact .mk (D.upd U1 fun i hi hl => ⟨by omega, hi.1⟩) (.inl A1.rd) (fun i hi => ⟨hvb i hi, A1.rd.lt hi⟩) (Arr.cellOK A)
      | cons x s =>
        rw [hs] at hq hlen
        simp only [List.length_cons] at hlen
        simp only at hq
        refine bif_t (by simp; omega) (inc (by omega) ?_)
        refine ih.1 (lvl + 1) n a last S id0 h _ hal hls (by omega) hS (by omega) hn R0 ?_
        rw [hs]
        cases hv : decV f (lvl + 1) n (x :: s) with
        | error e =>
          rw [hv] at hq
          have he := (dec_err f).1 _ _ _ _ (by simp only [List.length_cons]; omega) hv
          intro h1 U1
          refine st_ext0 (st_ext1 (st_asI (st_alloc fun h2 hl2 U2 R84 => st_storeN R84 rfl rfl rfl fun h3 hl3 U3 _ => ?_)))
          have := U1.1
          have R6 := ((R6.upd U1 (by omega)).upd U2 fun h => h).upd U3 (by omega)
          refine bif_t (by simp [he]) (st_storeN R6 hz.symm rfl rfl fun h4 hl4 U4 R6 => st_loadN R6 rfl (.inl (hq h4 ?_)))
          refine (((U1.mono fun i hi he => .inl he).trans U2 fun i hi he => he.elim).trans U3 fun i hi he => absurd he (by omega)).trans U4 fun i hi he => .inr (.inl he)
        | ok y =>
          obtain ⟨d, t', n'⟩ := y
          rw [hv] at hq
          simp only at hq
          have hsh := (dec_short f).1 _ _ _ _ _ _ hv
          have hrest := decV_rest hv
          simp only [List.length_cons] at hsh
          have ht' : (S.take last).drop (last - t'.length) = t' := by
            conv => rhs; rw [hrest, ← hs, List.drop_drop, show a + (((S.take last).drop a).length - t'.length) = last - t'.length by rw [List.length_drop, List.length_take]; omega]
          intro cs h1 U1 R0 Dd
          have hl1 := U1.1
          refine st_ext0 (st_ext1 (st_asI (st_alloc fun h2 hl2 U2 R84 => st_storeN R84 rfl Dd.len Dd.cells fun h3 hl3 U3 R84 => ?_)))
          have R0 := (R0.upd U2 fun h => h).upd U3 (by omega)
          have R6 := ((R6.upd U1 (by omega)).upd U2 fun h => h).upd U3 (by omega)
          have R10 := ((R10.upd U1 (by omega)).upd U2 fun h => h).upd U3 (by omega)
          have hvl : ∀ i, SlAt v i → i < h.length := fun i hi => A.rd.lt hi
          have A3 := ((A.upd U1 fun i hi he => by have := hvb i hi; omega).upd U2 fun _ _ h => h).upd U3 fun i hi he => by have := hvl i hi; omega
          have D3 := ((D.upd (F' := fun i => (base ≤ i ∧ ¬ SlAt v i) ∧ i < h.length) U1 fun i hi hl => ⟨by omega, hi, hl⟩).upd (F' := fun i => (base ≤ i ∧ ¬ SlAt v i) ∧ i < h.length) U2 fun i hi _ => ⟨fun h => h, hi⟩).upd (F' := fun i => base ≤ i ∧ ¬ SlAt v i) U3 fun i hi hl => ⟨by omega, hi.1⟩
          have Dd3 := (Dd.upd (F' := fun i => h.length ≤ i ∧ i < h1.length) U2 fun i hi hl => ⟨fun h => h, hi, hl⟩).upd (F' := fun i => h.length ≤ i) U3 fun i hi _ => ⟨by omega, hi.1⟩
          refine bif_f (by simp) (st_fld (st_load R10 rfl rfl (st_loadN R84 Dd.len.symm ?_)))
          refine A3.push (x := .ag cs) (by decide) Dd.fill Dd.len Dd.cells (by omega) (by omega) fun v' h4 U4 A4 F4 => ?_
          have R10 := R10.upd U4 fun hs => by have := hvb i10 hs; omega
          have R0 := R0.upd U4 fun hs => by have := hvb id0 hs; omega
          have R6 := R6.upd U4 fun hs => by have := hvb i6 hs; omega
          have D4 := D3.upd (F' := fun i => base ≤ i ∧ ¬ SlAt v' i) U4 fun i hi hl => ⟨hi.2, hi.1, fun hs => by
            rcases F4 i hs with h | h
            · exact hi.2 h
            · omega⟩
          have Dd4 := Dd3.upd (F' := fun i => base ≤ i ∧ ¬ SlAt v' i) U4 fun i hi hl => ⟨fun hs => by have := hvl i hs; omega, by omega, fun hs => by
            rcases F4 i hs with h | h
            · have := hvl i h; omega
            · omega⟩
          refine st_fld (st_store R10 rfl (by simp) (by rcases A4 with ⟨rfl, _⟩ | ⟨_, _, rfl, _⟩ <;> rfl) (by rcases A4 with ⟨rfl, _⟩ | ⟨_, _, rfl, _⟩ <;> rfl) (Arr.cellOK A4) fun h5 hl5 U5 R10 => ?_)
          have hv'b : ∀ i, SlAt v' i → base ≤ i := fun i hs => by
            rcases F4 i hs with h | h
            · exact hvb i h
            · omega
          have A5 := A4.upd U5 fun i hi he => by have := hv'b i hi; omega
          have D5 := (D4.app Dd4).upd (F' := fun i => base ≤ i ∧ ¬ SlAt v' i) U5 fun i hi hl => ⟨by omega, hi⟩
          have UU : Upd (fun i => i = id0 ∨ i = i6 ∨ i = i10 ∨ base ≤ i) h h5 := ((((U1.mono fun i hi he => .inl he).trans U2 fun i hi he => he.elim).trans U3 fun i hi he => absurd he (by omega)).trans U4 fun i hi he => .inr (.inr (.inr (hvb i he)))).trans U5 fun i hi he => .inr (.inr (.inl he))
          refine ih.2 lvl n' (last - t'.length) last S (ks ++ [d]) (rows ++ [cs]) v' base id0 i6 i10 c t z h0 h5 Q (by omega) hls (by omega) hS (by simp; omega) hlv (by omega) b0 b6 b10 n06 n010 n610 (by have := UU.1; omega) (R0.upd U5 n010) (R6.upd U5 n610) hz R10 ?_ hv'b D5 ?_
          · have A5 : Arr 5 h5 v' (rows.flatten ++ cs) (rows.length + 1) := A5
            simpa using A5
          · rw [ht']
            cases hk : decK f lvl n' t' with
            | error e =>
              rw [hk] at hq
              exact fun h' U' => hq h' (UU.trans U' fun _ _ h => h)
            | ok y =>
              obtain ⟨ks', n''⟩ := y
              rw [hk] at hq
              exact fun cs' h' U' R' D' => hq cs' h' (UU.trans U' fun _ _ h => h) R' (by simpa using D')

/-! ### Decode -/

def DOut (h : AHeap) (Q : AV → AHeap → Prop) : Except Int Der → Prop
  | .error e => ∀ h', Upd (fun _ => False) h h' → Q (.tu [.ag z5, .i .i64 e]) h'
  | .ok d => ∀ cs h', Upd (fun _ => False) h h' → DV h' (fun i => h.length ≤ i) d cs → Q (.tu [.ag cs, .i .i64 0]) h'

theorem decode_c {s : List UInt8} {h : AHeap} {Q : AV → AHeap → Prop} (hq : DOut h Q (decS s)) : C G_der_Decode.id [.s s] h Q := by
  refine G_der_Decode.call ?_
  simp only [G_der_Decode.t, G_der_Decode.j0]
  refine st_alloc fun h1 hl1 U1 R0 => ?_
  have err : ∀ (e : Int) (hx : AHeap) (K : AV → AHeap → Prop), (∀ h4, Upd (fun _ => False) h h4 → K (.ag z5) h4) → Upd (fun i => h.length ≤ i) h1 hx → RecAt hx h.length z5 →
      pStore 5 (.p (some ⟨h.length, 5, 0⟩)) (.ag z5) hx fun h4 => pLoadN 5 (.p (some ⟨h.length, 5, 0⟩)) h4 fun v6 => K v6 h4 := by
    intro e hx K hk U Rx
    refine st_storeN Rx rfl rfl rfl fun h4 hl4 U4 R4 => st_loadN R4 rfl (hk h4 ?_)
    exact ((U1.mono (M' := fun i => h.length ≤ i) fun _ _ h => h.elim).trans U fun _ _ h => h).trans U4 (fun i hi he => by subst he; exact Nat.le_refl _) |>.mono fun i hi he => by omega
  unfold decS at hq
  by_cases hl : 65535 < s.length
  · rw [if_pos hl] at hq
    exact bif_t (by simp; omega) (err 3 h1 _ (fun h4 U => .inl (hq h4 U)) (Upd.refl _ _) R0)
  rw [if_neg hl] at hq
  refine bif_f (by simp; omega) (st_box rfl fun h2 hl2 U2 R2 => ?_)
  have R0 := R0.upd U2 fun h => h
  refine (value_n (2 * s.length + 1)).1 1 0 s h1.length h2 _ (Nat.le_refl _) (by omega) (by omega) (by omega) R2 ?_
  cases hv : decV (2 * s.length + 1) 1 0 s with
  | error e =>
    rw [hv] at hq
    have he := (dec_err _).1 _ _ _ _ (Nat.le_refl _) hv
    intro h3 U3
    refine st_ext0 (st_ext1 (st_asS (st_ext2 (st_asI (st_alloc fun h4 hl4 U4 R4 => st_storeN R4 rfl rfl rfl fun h5 hl5 U5 R5 => ?_)))))
    have := U3.1
    have R0 := ((R0.upd U3 (by omega)).upd U4 fun h => h).upd U5 (by omega)
    refine bif_f (by simp [he]) ?_
    refine G_der_Decode.i0 ?_
    simp only [G_der_Decode.t0, G_der_Decode.j1]
    refine bif_f rfl ?_
    refine G_der_Decode.i1 ?_
    simp only [G_der_Decode.t1]
    refine bif_t (by simp [he]) (err e h5 _ (fun h6 U => .inl (hq h6 U)) ?_ R0)
    exact (((U2.mono fun _ _ h => h.elim).trans U3 fun i hi he => by omega).trans U4 fun _ _ h => h.elim).trans U5 fun i hi he => by omega
  | ok y =>
    obtain ⟨d, r, n'⟩ := y
    rw [hv] at hq
    intro cs h3 U3 _ D
    refine st_ext0 (st_ext1 (st_asS (st_ext2 (st_asI (st_alloc fun h4 hl4 U4 R4 => st_storeN R4 rfl D.len D.cells fun h5 hl5 U5 R5 => ?_)))))
    have := U3.1
    have R0 := ((R0.upd U3 (by omega)).upd U4 fun h => h).upd U5 (by omega)
    have UU : Upd (fun i => h.length ≤ i) h1 h5 := (((U2.mono fun _ _ h => h.elim).trans U3 fun i hi he => by omega).trans U4 fun _ _ h => h.elim).trans U5 fun i hi he => by omega
    have D5 := (D.upd (F' := fun i => h2.length ≤ i ∧ i < h3.length) U4 fun i hi hl => ⟨fun h => h, hi, hl⟩).upd (F' := fun i => h2.length ≤ i ∧ i < h3.length) U5 fun i hi _ => ⟨by omega, hi⟩
    refine bif_t (by simp) ?_
    refine G_der_Decode.i0 ?_
    simp only [G_der_Decode.t0, G_der_Decode.j1]
    refine bif_both (fun e => ?_) fun e => ?_
    · have hr : r ≠ [] := by simpa using e
      simp only [if_neg hr] at hq
      refine G_der_Decode.i1 ?_
      simp only [G_der_Decode.t1]
      exact bif_t (by simp) (err 2 h5 _ (fun h6 U => .inl (hq h6 U)) UU R0)
    · have hr : r = [] := by simpa using e
      simp only [if_pos hr] at hq
      refine G_der_Decode.i1 ?_
      simp only [G_der_Decode.t1]
      refine bif_f (by simp) (st_loadN R5 D.len.symm (st_storeN R0 rfl D.len D.cells fun h6 hl6 U6 R6 => st_loadN R6 D.len.symm (.inl (hq cs h6 ?_ ?_))))
      · exact ((U1.mono (M' := fun i => h.length ≤ i) fun _ _ h => h.elim).trans UU fun _ _ h => h).trans U6 (fun i hi he => by omega) |>.mono fun i hi he => by omega
      · exact D5.upd U6 fun i hi _ => ⟨by omega, by omega⟩

theorem Rdecode_c {s : List UInt8} {h : AHeap} {Q : AV → AHeap → Prop} (hq : DOut h Q (decS s)) : C G_ref33_Decode.id [.s s] h Q := by
  refine G_ref33_Decode.call ?_
  simp only [G_ref33_Decode.t]
  refine st_alloc fun h1 hl1 U1 R0 => ?_
  have err : ∀ (hx : AHeap) (K : AV → AHeap → Prop), (∀ h4, Upd (fun _ => False) h h4 → K (.ag z5) h4) → Upd (fun i => h.length ≤ i) h1 hx → RecAt hx h.length z5 →
      pStore 5 (.p (some ⟨h.length, 5, 0⟩)) (.ag z5) hx fun h4 => pLoadN 5 (.p (some ⟨h.length, 5, 0⟩)) h4 fun v6 => K v6 h4 := by
    intro hx K hk U Rx
    refine st_storeN Rx rfl rfl rfl fun h4 hl4 U4 R4 => st_loadN R4 rfl (hk h4 ?_)
    exact ((U1.mono (M' := fun i => h.length ≤ i) fun _ _ h => h.elim).trans U fun _ _ h => h).trans U4 (fun i hi he => by subst he; exact Nat.le_refl _) |>.mono fun i hi he => by omega
  unfold decS at hq
  by_cases hl : 65535 < s.length
  · rw [if_pos hl] at hq
    exact bif_t (by simp; omega) (err h1 _ (fun h4 U => .inl (hq h4 U)) (Upd.refl _ _) R0)
  rw [if_neg hl] at hq
  refine bif_f (by simp; omega) (st_box rfl fun h2 hl2 U2 R2 => ?_)
  have R0 := R0.upd U2 fun h => h
  have es : (s.take s.length).drop 0 = s := by simp
  refine (valueR_n (2 * s.length + 1)).1 1 0 0 s.length s h1.length h2 _ (by omega) (by omega) (by omega) (by omega) (by omega) (by omega) R2 ?_
  rw [es]
  cases hv : decV (2 * s.length + 1) 1 0 s with
  | error e =>
    rw [hv] at hq
    have he := (dec_err _).1 _ _ _ _ (Nat.le_refl _) hv
    intro h3 U3
    refine st_ext0 (st_ext1 (st_asI (st_alloc fun h4 hl4 U4 R4 => st_storeN R4 rfl rfl rfl fun h5 hl5 U5 R5 => ?_)))
    have := U3.1
    have R0 := ((R0.upd U3 (by omega)).upd U4 fun h => h).upd U5 (by omega)
    refine bif_t (by simp [he]) (err h5 _ (fun h6 U => .inl (hq h6 U)) ?_ R0)
    exact (((U2.mono fun _ _ h => h.elim).trans U3 fun i hi he => by omega).trans U4 fun _ _ h => h.elim).trans U5 fun i hi he => by omega
  | ok y =>
    obtain ⟨d, r, n'⟩ := y
    rw [hv] at hq
    have hsh := (dec_short _).1 _ _ _ _ _ _ hv
    intro cs h3 U3 R2 D
    refine st_ext0 (st_ext1 (st_asI (st_alloc fun h4 hl4 U4 R4 => st_storeN R4 rfl D.len D.cells fun h5 hl5 U5 R5 => ?_)))
    have := U3.1
    have R0 := ((R0.upd U3 (by omega)).upd U4 fun h => h).upd U5 (by omega)
    have R2 := (R2.upd U4 fun h => h).upd U5 (by omega)
    have UU : Upd (fun i => h.length ≤ i) h1 h5 := (((U2.mono fun _ _ h => h.elim).trans U3 fun i hi he => by omega).trans U4 fun _ _ h => h.elim).trans U5 fun i hi he => by omega
    have D5 := (D.upd (F' := fun i => h2.length ≤ i ∧ i < h3.length) U4 fun i hi hl => ⟨fun h => h, hi, hl⟩).upd (F' := fun i => h2.length ≤ i ∧ i < h3.length) U5 fun i hi _ => ⟨by omega, hi⟩
    refine bif_f (by simp) (st_nil (st_fld (st_load R2 rfl rfl (st_asI ?_))))
    by_cases hr : r = []
    · simp only [if_pos hr] at hq
      subst hr
      refine bif_f (by simp) (st_loadN R5 D.len.symm (st_storeN R0 rfl D.len D.cells fun h6 hl6 U6 R6 => st_loadN R6 D.len.symm (.inl (hq cs h6 ?_ ?_))))
      · exact ((U1.mono (M' := fun i => h.length ≤ i) fun _ _ h => h.elim).trans UU fun _ _ h => h).trans U6 (fun i hi he => by omega) |>.mono fun i hi he => by omega
      · exact D5.upd U6 fun i hi _ => ⟨by omega, by omega⟩
    · simp only [if_neg hr] at hq
      have := List.length_pos_iff.2 hr
      exact bif_t (by simp; omega) (err h5 _ (fun h6 U => .inl (hq h6 U)) UU R0)

end
end Go.Proofs.YtffgchcidkapjaaDoor
