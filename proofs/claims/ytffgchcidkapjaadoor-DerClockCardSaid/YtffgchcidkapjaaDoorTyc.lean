/- Time, the reference's. -/
import Derived.Test.YtffgchcidkapjaaDoorTyb
set_option linter.unusedVariables false
set_option linter.unusedSimpArgs false
set_option linter.unusedSectionVars false
set_option maxRecDepth 20000
namespace Go.GAM
theorem NewA.store {h0 h : AHeap} {v x : AV} {cs : List AV} {len : Nat} (A : NewA 1 h0 h v cs len) {k : IntKind} {i : Nat} (hi : i < len) (hx : x.parts = [x]) (hs : x.sizeOK = true) (hc : x.cellOK = true) {K : AHeap → Prop} (hk : ∀ h', NewA 1 h0 h' v (cs.set i x) len → K h') :
    pIdxAddrSl 1 v (.i k (i : Int)) h fun p => pStore 1 p x h K :=
  A.arr.store hi hx hs hc fun h' U A' => hk h' ⟨A.upd.trans U fun j hj hs => absurd (A.new j hs) (by omega), A', A.new⟩
end Go.GAM
namespace Go.Proofs.YtffgchcidkapjaaDoor
open Go.GAM Go.RowKit

section
variable {h0 : AHeap} {Q : AV → AHeap → Prop}

theorem seconds_c {y mo da hh mi s : Nat} {h : AHeap} (hy : 1970 ≤ y) (hy2 : y ≤ 89999) (hmo : 1 ≤ mo ∧ mo ≤ 12) (hda : 1 ≤ da ∧ da ≤ 99) (h23 : hh ≤ 99) (h59 : mi ≤ 99) (h60 : s ≤ 99) (hq : Q (.i .i64 (secN y mo da hh mi s : Nat)) h) :
    C G_ref33_Seconds.id [.i .i64 (y : Int), .i .i64 (mo : Int), .i .i64 (da : Int), .i .i64 (hh : Int), .i .i64 (mi : Int), .i .i64 (s : Int)] h Q := by
  have hb := bef_bd hy hy2
  refine G_ref33_Seconds.call ?_
  simp only [G_ref33_Seconds.t, G_ref33_Seconds.j0]
  have p2 : ∀ k m', m' + k = mo → 1 ≤ m' → G_ref33_Seconds.p2 (kRet h Q) y mo da hh mi s ((befN y + monN y m' : Nat) : Int) m' h := by
    intro k
    induction k with
    | zero =>
      intro m' hm _
      have : m' = mo := by omega
      subst this
      have hmb := monN_bd y m'
      unfold secN at hq
      refine G_ref33_Seconds.i2 ?_
      simp only [G_ref33_Seconds.t2]
      refine bif_f (by rw [decide_eq_false_iff_not]; omega) ?_
      refine withI_is (n := ((befN y + monN y m' + da : Nat) : Int)) (by rw [wrap_i64 (by omega) (by omega)]; omega) ?_
      refine withI_is (n := ((befN y + monN y m' + da - 1 : Nat) : Int)) (by rw [wrap_i64 (by omega) (by omega)]; omega) ?_
      refine withI_is (n := (((befN y + monN y m' + da - 1) * 86400 : Nat) : Int)) (by rw [wrap_i64 (by omega) (by omega)]; omega) ?_
      refine withI_is (n := ((hh * 3600 : Nat) : Int)) (by rw [wrap_i64 (by omega) (by omega)]; omega) ?_
      refine withI_is (n := (((befN y + monN y m' + da - 1) * 86400 + hh * 3600 : Nat) : Int)) (by rw [wrap_i64 (by omega) (by omega)]; omega) ?_
      refine withI_is (n := ((mi * 60 : Nat) : Int)) (by rw [wrap_i64 (by omega) (by omega)]; omega) ?_
      refine withI_is (n := (((befN y + monN y m' + da - 1) * 86400 + hh * 3600 + mi * 60 : Nat) : Int)) (by rw [wrap_i64 (by omega) (by omega)]; omega) ?_
      refine withI_is (n := (((befN y + monN y m' + da - 1) * 86400 + hh * 3600 + mi * 60 + s : Nat) : Int)) (by rw [wrap_i64 (by omega) (by omega)]; omega) (.inl hq)
    | succ k ih =>
      intro m' hm h1
      have hms := mon_succ (y := y) h1
      have hmb := monN_bd y m'
      have hdb := daysN_bd y m'
      refine G_ref33_Seconds.i2 ?_
      simp only [G_ref33_Seconds.t2, G_ref33_Seconds.j2]
      refine bif_t (by rw [decide_eq_true_eq]; omega) (Rdays_c (st_asI ?_))
      refine withI_is (n := ((befN y + monN y (m' + 1) : Nat) : Int)) (by rw [wrap_i64 (by omega) (by omega)]; omega) (inc (by omega) ?_)
      exact ih (m' + 1) (by omega) (by omega)
  have p0 : ∀ k y', y' + k = y → 1970 ≤ y' → G_ref33_Seconds.p0 (kRet h Q) y mo da hh mi s ((befN y' : Nat) : Int) y' h := by
    intro k
    induction k with
    | zero =>
      intro y' hy' _
      have : y' = y := by omega
      subst this
      refine G_ref33_Seconds.i0 ?_
      simp only [G_ref33_Seconds.t0, G_ref33_Seconds.j2]
      refine bif_f (by rw [decide_eq_false_iff_not]; omega) ?_
      have := p2 (mo - 1) 1 (by omega) (by omega)
      rw [mon_1, Nat.add_zero] at this
      exact this
    | succ k ih =>
      intro y' hy' h1
      have hbs := bef_succ h1
      have hbb := bef_bd (y := y') h1 (by omega)
      have p1 : ∀ x : Nat, x = befN (y' + 1) → G_ref33_Seconds.p1 (kRet h Q) y mo da hh mi s x y' h := by
        intro x hx
        subst hx
        refine G_ref33_Seconds.i1 ?_
        simp only [G_ref33_Seconds.t1, G_ref33_Seconds.j0]
        exact inc (by omega) (ih (y' + 1) (by omega) (by omega))
      unfold yearN at hbs
      refine G_ref33_Seconds.i0 ?_
      simp only [G_ref33_Seconds.t0, G_ref33_Seconds.j1]
      refine bif_t (by rw [decide_eq_true_eq]; omega) (withI_is (n := ((befN y' + 365 : Nat) : Int)) (by rw [wrap_i64 (by omega) (by omega)]; omega) (Rleap_c (st_asB (bif_both (fun e => ?_) fun e => ?_))))
      · rw [if_pos e] at hbs
        exact inc (by omega) (p1 _ (by omega))
      · rw [if_neg (by rw [e]; simp)] at hbs
        exact p1 _ (by omega)
  have := p0 (y - 1970) 1970 (by omega) (by omega)
  rw [bef_0] at this
  exact this

theorem Rtime_p3end {h hx : AHeap} {v : AV} {s : List UInt8} {y mo da hh mi se : Nat} (E : Ext h hx) (R : Rd 1 hx v ([mo, da, hh, mi, se].map num) 5) (hy2 : y ≤ 89999) (hmo2 : mo ≤ 99) (hda2 : da ≤ 99) (h23 : hh ≤ 99) (h59 : mi ≤ 99) (h60 : se ≤ 99)
    (hq : Q (timeR (finT y mo da hh mi se)) h) : G_ref33_Time.p3 (kRet h Q) s v y (14 : Nat) hx := by
  obtain ⟨id, ver, off, cap, b, rfl, A⟩ := R.at (by omega)
  have R := A.rd cap
  unfold finT timeR at hq
  have p6 : ∀ b : Bool, (b = true ↔ badT y mo da hh mi se) → G_ref33_Time.p6 (kRet h Q) (.sl (some ⟨id, ver, off⟩) 5 cap) y b hx := by
    intro b hb
    refine G_ref33_Time.i6 ?_
    simp only [G_ref33_Time.t6]
    refine bif_both (fun e => ?_) fun e => ?_
    · rw [if_pos (hb.1 e)] at hq
      exact kRet_pure rfl E hq
    · have hg : ¬ badT y mo da hh mi se := fun hh => by have := hb.2 hh; rw [e] at this; cases this
      rw [if_neg hg] at hq
      unfold badT at hg
      refine st_idx A (i := 0) (by omega) (st_num A (by omega) rfl (st_idx A (i := 1) (by omega) (st_num A (by omega) rfl (st_idx A (i := 2) (by omega) (st_num A (by omega) rfl (st_idx A (i := 3) (by omega) (st_num A (by omega) rfl (st_idx A (i := 4) (by omega) (st_num A (by omega) rfl ?_)))))))))
      refine seconds_c (by omega) (by omega) (by omega) (by omega) (by omega) (by omega) (by omega) (st_asI ?_)
      refine st_idx A (i := 4) (by omega) ⟨rfl, st_idx A (i := 3) (by omega) ⟨rfl, st_idx A (i := 2) (by omega) ⟨rfl, st_idx A (i := 1) (by omega) ⟨rfl, st_idx A (i := 0) (by omega) ⟨rfl, kRet_pure rfl E hq⟩⟩⟩⟩⟩
  have hdd := daysN_bd y mo
  unfold badT at p6
  refine G_ref33_Time.i3 ?_
  simp only [G_ref33_Time.t3, G_ref33_Time.j6]
  refine bif_f (by simp) ?_
  refine bif_both (fun e1 => p6 _ ?_) fun e1 => st_idx A (i := 0) (by omega) (st_num A (by omega) rfl ?_)
  · simp only [decide_eq_true_eq] at e1; simp; omega
  refine bif_both (fun e2 => p6 _ ?_) fun e2 => st_idx A (i := 0) (by omega) (st_num A (by omega) rfl ?_)
  · simp only [decide_eq_true_eq] at e2; simp; omega
  refine bif_both (fun e3 => p6 _ ?_) fun e3 => st_idx A (i := 1) (by omega) (st_num A (by omega) rfl ?_)
  · simp only [decide_eq_true_eq] at e3; simp; omega
  refine bif_both (fun e4 => p6 _ ?_) fun e4 => st_idx A (i := 1) (by omega) (st_num A (by omega) rfl (st_idx A (i := 0) (by omega) (st_num A (by omega) rfl (Rdays_c (st_asI ?_)))))
  · simp only [decide_eq_true_eq] at e4; simp; omega
  simp only [decide_eq_false_iff_not] at e1 e2 e3 e4
  refine st_idx A (i := 0) (by omega) ⟨rfl, st_num A (by omega) rfl ⟨rfl, st_idx A (i := 1) (by omega) ⟨rfl, st_num A (by omega) rfl ⟨rfl, st_idx A (i := 1) (by omega) ⟨rfl, st_num A (by omega) rfl ⟨rfl, st_idx A (i := 0) (by omega) ⟨rfl, st_num A (by omega) rfl ⟨rfl, st_idx A (i := 0) (by omega) ⟨rfl, ?_⟩⟩⟩⟩⟩⟩⟩⟩⟩
  refine bif_both (fun e5 => p6 _ ?_) fun e5 => R.nat (i := 2) (by omega) rfl ?_
  · simp only [decide_eq_true_eq] at e5; simp; omega
  refine bif_both (fun e6 => p6 _ ?_) fun e6 => R.nat (i := 3) (by omega) rfl ?_
  · simp only [decide_eq_true_eq] at e6; simp; omega
  refine bif_both (fun e7 => p6 _ ?_) fun e7 => R.nat (i := 4) (by omega) rfl (p6 _ ?_)
  · simp only [decide_eq_true_eq] at e7; simp; omega
  simp only [decide_eq_false_iff_not] at e5 e6 e7
  rw [decide_eq_true_eq]; omega

/-- The reference's loop over the digits. -/
def refT : Nat → Nat → List Nat → List UInt8 → Nat × List Nat
  | _, y, f, [] => (y, f)
  | i, y, f, c :: r => if i < 4 then refT (i + 1) (10 * y + (c.toNat - 48)) f r else if i % 2 = 0 then refT (i + 1) y (f ++ [10 * (c.toNat - 48)]) r else refT (i + 1) y (f.set (f.length - 1) (f.getD (f.length - 1) 0 + (c.toNat - 48))) r

theorem Rtime_p3 {h hx0 : AHeap} {s : List UInt8} (E0 : Upd (fun _ => False) h hx0) (hbad : (s.take 14).all digB = false → Q (.tu [.i .i64 0, .b false]) h) (hl : s.length = 15) :
    ∀ (r : List UInt8) (i y : Nat) (f : List Nat) (v : AV) (hx : AHeap), (s.take 14).drop i = r → i ≤ 14 → (i ≤ 4 → y < 10 ^ i) → (4 ≤ i → y < 10000) → (i ≤ 4 → f = []) → f.length ≤ i → (4 < i → i % 2 = 1 → f ≠ []) → (∀ n ∈ f, n ≤ 99) → (i % 2 = 1 → 4 < i → f.getD (f.length - 1) 0 ≤ 90) → NewA 1 hx0 hx v (f.map num) f.length → ((s.take 14).all digB = r.all digB) →
      ((s.take 14).all digB = true → ∀ v hx, NewA 1 hx0 hx v ((refT i y f r).2.map num) (refT i y f r).2.length → G_ref33_Time.p3 (kRet h Q) s v (refT i y f r).1 (14 : Nat) hx) → G_ref33_Time.p3 (kRet h Q) s v y i hx := by
  intro r
  induction r with
  | nil =>
    intro i y f v hx hr hi _ _ _ _ _ _ _ A he fin
    have hle := drop_end hr
    rw [List.length_take] at hle
    have : i = 14 := by omega
    subst this
    exact fin (by rw [he]; rfl) v hx A
  | cons c r ih =>
    intro i y f v hx hr hi hy1 hy2 hf0 hfl hfne hfb hfo A he fin
    obtain ⟨g1, g2, g3⟩ := sub_at hr
    have hc := c.toNat_lt
    have hdr := drop_of_at g1
    have E : Ext h hx := (E0.trans A.upd fun _ _ h => h).ext
    refine G_ref33_Time.i3 ?_
    simp only [G_ref33_Time.t3, G_ref33_Time.j4]
    refine bif_t (by simp; omega) (st_at hdr ?_)
    have p4bad : digB c = false → G_ref33_Time.p4 (kRet h Q) s v y i true hx := by
      intro hd
      refine G_ref33_Time.i4 ?_
      simp only [G_ref33_Time.t4]
      exact bif_t rfl (kRet_pure rfl E (hbad (by rw [he, List.all_cons, hd]; rfl)))
    have p4ok : digB c = true → G_ref33_Time.p4 (kRet h Q) s v y i false hx := by
      intro hd
      have hdb := digB_bd hd
      have he' : (s.take 14).all digB = r.all digB := by rw [he, List.all_cons, hd, Bool.true_and]
      have p5 : ∀ (y' : Nat) (f' : List Nat) (v' : AV) (h' : AHeap), refT i y f (c :: r) = refT (i + 1) y' f' r → (i + 1 ≤ 4 → y' < 10 ^ (i + 1)) → (4 ≤ i + 1 → y' < 10000) → (i + 1 ≤ 4 → f' = []) → f'.length ≤ i + 1 → (4 < i + 1 → (i + 1) % 2 = 1 → f' ≠ []) → (∀ n ∈ f', n ≤ 99) → ((i + 1) % 2 = 1 → 4 < i + 1 → f'.getD (f'.length - 1) 0 ≤ 90) → NewA 1 hx0 h' v' (f'.map num) f'.length → G_ref33_Time.p5 (kRet h Q) s v' y' i h' := by
        intro y' f' v' h' hT a1 a2 a3 a4 a5 a6 a7 A'
        refine G_ref33_Time.i5 ?_
        simp only [G_ref33_Time.t5, G_ref33_Time.j3]
        refine inc (by omega) (ih (i + 1) y' f' v' h' g3 (by omega) a1 a2 a3 a4 a5 a6 a7 A' he' fun ha v hx A => ?_)
        rw [hT] at fin
        exact fin ha v hx A
      refine G_ref33_Time.i4 ?_
      simp only [G_ref33_Time.t4, G_ref33_Time.j5]
      refine bif_f rfl (st_at hdr ?_)
      refine withI_is (n := ((c.toNat - 48 : Nat) : Int)) (by rw [wrap_i64 (n := (c.toNat : Int)) (by omega) (by omega), wrap_i64 (by omega) (by omega)]; omega) ?_
      by_cases h4 : i < 4
      · have hp : 10 ^ (i + 1) = 10 ^ i * 10 := Nat.pow_succ ..
        have hp4 : 10 ^ (i + 1) ≤ 10 ^ 4 := Nat.pow_le_pow_right (by omega) (by omega)
        have hy := hy1 (by omega)
        refine bif_t (by simp; omega) ?_
        refine withI_is (n := ((10 * y : Nat) : Int)) (by rw [wrap_i64 (by omega) (by omega)]; omega) ?_
        refine withI_is (n := ((10 * y + (c.toNat - 48) : Nat) : Int)) (by rw [wrap_i64 (by omega) (by omega)]; omega) ?_
        exact p5 _ f v hx (by rw [refT, if_pos h4]) (fun _ => by omega) (fun _ => by omega) (fun _ => hf0 (by omega)) (by omega) (fun _ _ => by omega) hfb (fun _ _ => by omega) A
      · refine bif_f (by simp; omega) (rem_n (b := 2) (by omega) ?_)
        by_cases h2 : i % 2 = 0
        · refine bif_t (by simp; omega) ?_
          refine withI_is (n := ((10 * (c.toNat - 48) : Nat) : Int)) (by rw [wrap_i64 (by omega) (by omega)]; omega) ?_
          refine NewA.build A (by decide) (ns := [num (10 * (c.toNat - 48))]) rfl rfl rfl (by omega) (by omega) fun v' h' A' => ?_
          refine p5 y (f ++ [10 * (c.toNat - 48)]) v' h' (by rw [refT, if_neg h4, if_pos h2]) (fun h => by omega) (fun _ => hy2 (by omega)) (fun h => by omega) (by simp; omega) (fun _ _ => by simp) ?_ ?_ ?_
          · intro n hn
            rcases List.mem_append.1 hn with h | h
            · exact hfb n h
            · simp at h; omega
          · intro _ _
            rw [List.length_append]
            simp only [List.length_singleton, Nat.add_sub_cancel]
            rw [List.getD_eq_getElem?_getD, List.getElem?_append_right (Nat.le_refl _), Nat.sub_self]
            show 10 * (c.toNat - 48) ≤ 90
            omega
          · rw [List.map_append, List.length_append]; exact A'
        · refine bif_f (by simp; omega) (A.arr.rd.len ?_)
          have hne := hfne (by omega) (by omega)
          have hfp := List.length_pos_iff.2 hne
          refine withI_is (n := ((f.length - 1 : Nat) : Int)) (by rw [wrap_i64 (by omega) (by omega)]; omega) ?_
          obtain ⟨z, hz⟩ : ∃ z, f[f.length - 1]? = some z := ⟨_, List.getElem?_eq_getElem (by omega)⟩
          have hzb := hfb z (List.mem_of_getElem? hz)
          have hzg : f.getD (f.length - 1) 0 = z := getD_some hz
          refine A.arr.rd.nat (by omega) hz ?_
          refine withI_is (n := ((z + (c.toNat - 48) : Nat) : Int)) (by rw [wrap_i64 (by omega) (by omega)]; omega) ?_
          have hzo := hfo (by omega) (by omega)
          rw [hzg] at hzo
          refine NewA.store A (i := f.length - 1) (x := num (z + (c.toNat - 48))) (by omega) rfl rfl rfl fun h' A' => ?_
          refine p5 y (f.set (f.length - 1) (z + (c.toNat - 48))) v h' (by rw [refT, if_neg h4, if_neg h2, hzg]) (fun h => by omega) (fun _ => hy2 (by omega)) (fun h => by omega) (by simp; omega) (fun _ h => by omega) ?_ (fun h => by omega) ?_
          · intro n hn
            rcases List.mem_or_eq_of_mem_set hn with h | h
            · exact hfb n h
            · omega
          · rw [List.map_set, List.length_set]; exact A'
    have p4 : ∀ b, b = !digB c → G_ref33_Time.p4 (kRet h Q) s v y i b hx := by
      intro b hb
      cases hd : digB c with
      | false => rw [hd] at hb; rw [hb]; exact p4bad hd
      | true => rw [hd] at hb; rw [hb]; exact p4ok hd
    unfold digB at p4
    refine bif_both (fun e => p4 _ ?_) fun e => st_at hdr (p4 _ ?_)
    · simp only [decide_eq_true_eq] at e
      rw [decide_eq_false (by omega : ¬ 48 ≤ c.toNat)]; rfl
    · simp only [decide_eq_false_iff_not] at e
      rw [decide_eq_true (by omega : 48 ≤ c.toNat), Bool.true_and, ← decide_not, decide_eq_decide]; omega

theorem list14 {α : Type} {l : List α} (h : l.length = 14) : ∃ c0 c1 c2 c3 c4 c5 c6 c7 c8 c9 c10 c11 c12 c13, l = [c0, c1, c2, c3, c4, c5, c6, c7, c8, c9, c10, c11, c12, c13] := by
  match l, h with
  | [c0, c1, c2, c3, c4, c5, c6, c7, c8, c9, c10, c11, c12, c13], _ => exact ⟨c0, c1, c2, c3, c4, c5, c6, c7, c8, c9, c10, c11, c12, c13, rfl⟩

theorem Rtime_p2 {h hx : AHeap} {s : List UInt8} (E : Upd (fun _ => False) h hx) (hl : s.length = 15) (hq : Q (timeR (if s.getD 14 0 = 90 ∧ (s.take 14).all digB = true then finL (pairsN (s.take 14)) else (0, false))) h) : G_ref33_Time.p2 (kRet h Q) s hx := by
  refine G_ref33_Time.i2 ?_
  simp only [G_ref33_Time.t2, G_ref33_Time.j3]
  obtain ⟨c, hc1, hc2⟩ := getD_last hl
  rw [hc2] at hq
  refine idxStr hc1 ?_
  rw [show (90 : Int) = (((90 : UInt8).toNat : Nat) : Int) from rfl, eq_byte]
  by_cases h90 : c = 90
  · rw [decide_eq_true h90]
    refine bif_f rfl ?_
    refine Rtime_p3 E (fun hb => ?_) hl (s.take 14) 0 0 [] _ hx rfl (by omega) (by simp) (by omega) (fun _ => rfl) (by simp) (fun h => by omega) (by simp) (fun _ h => by omega) (NewA.start 1 hx) rfl fun ha v h2 A => ?_
    · rw [if_neg (fun hh => by rw [hb] at hh; cases hh.2)] at hq
      exact hq
    · rw [if_pos ⟨h90, ha⟩] at hq
      obtain ⟨c0, c1, c2, c3, c4, c5, c6, c7, c8, c9, c10, c11, c12, c13, hs⟩ := list14 (l := s.take 14) (by rw [List.length_take]; omega)
      rw [hs] at hq A ⊢
      rw [hs] at ha
      simp only [List.all_cons, Bool.and_eq_true] at ha
      obtain ⟨d0, d1, d2, d3, d4, d5, d6, d7, d8, d9, d10, d11, d12, d13, _⟩ := ha
      have d0 := digB_bd d0
      have d1 := digB_bd d1
      have d2 := digB_bd d2
      have d3 := digB_bd d3
      have d4 := digB_bd d4
      have d5 := digB_bd d5
      have d6 := digB_bd d6
      have d7 := digB_bd d7
      have d8 := digB_bd d8
      have d9 := digB_bd d9
      have d10 := digB_bd d10
      have d11 := digB_bd d11
      have d12 := digB_bd d12
      have d13 := digB_bd d13
      have hT : refT 0 0 [] [c0, c1, c2, c3, c4, c5, c6, c7, c8, c9, c10, c11, c12, c13] = (10 * (10 * (10 * (10 * 0 + (c0.toNat - 48)) + (c1.toNat - 48)) + (c2.toNat - 48)) + (c3.toNat - 48), [10 * (c4.toNat - 48) + (c5.toNat - 48), 10 * (c6.toNat - 48) + (c7.toNat - 48), 10 * (c8.toNat - 48) + (c9.toNat - 48), 10 * (c10.toNat - 48) + (c11.toNat - 48), 10 * (c12.toNat - 48) + (c13.toNat - 48)]) := rfl
      rw [hT] at A ⊢
      refine Rtime_p3end ((E.trans A.upd fun _ _ h => h).ext) A.arr.rd (by omega) (by omega) (by omega) (by omega) (by omega) (by omega) ?_
      have e : finL (pairsN [c0, c1, c2, c3, c4, c5, c6, c7, c8, c9, c10, c11, c12, c13]) = finT (10 * (10 * (10 * (10 * 0 + (c0.toNat - 48)) + (c1.toNat - 48)) + (c2.toNat - 48)) + (c3.toNat - 48)) (10 * (c4.toNat - 48) + (c5.toNat - 48)) (10 * (c6.toNat - 48) + (c7.toNat - 48)) (10 * (c8.toNat - 48) + (c9.toNat - 48)) (10 * (c10.toNat - 48) + (c11.toNat - 48)) (10 * (c12.toNat - 48) + (c13.toNat - 48)) := by
        show finT _ _ _ _ _ _ = _
        congr 1 <;> omega
      rw [← e]; exact hq
  · rw [decide_eq_false h90]
    rw [if_neg (fun hh => h90 hh.1)] at hq
    exact bif_t rfl (kRet_pure rfl E.ext hq)

theorem Rtime_c {d : Der} {cs : List AV} {F : Nat → Prop} {h : AHeap} (D : DV h F d cs) (hs : d.data.length ≤ 100000) (hq : Q (timeR (timeS d)) h) : C G_ref33_Time.id [.ag cs] h Q := by
  refine G_ref33_Time.call ?_
  simp only [G_ref33_Time.t, G_ref33_Time.j0]
  refine D.box fun h1 hl1 U1 B D1 => st_fld (st_load B D.len.symm D.dat (st_asS (st_loadN B D.len.symm (Rplain_c D1 (st_asB ?_)))))
  have no2 : dPlain 23 d = true → dPlain 24 d = false := by
    obtain ⟨c, t, m, s, ks⟩ := d
    intro h
    have h : (decide (c = 0) && (decide (t = 23) && (!m && decide (ks.length = 0)))) = true := h
    show (decide (c = 0) && (decide (t = 24) && (!m && decide (ks.length = 0)))) = false
    simp only [Bool.and_eq_true, decide_eq_true_eq] at h
    rw [decide_eq_true h.1, decide_eq_false (show ¬ t = 24 by omega)]; rfl
  unfold timeS fullS at hq
  have p0 : ∀ b, b = (dPlain 23 d && decide (d.data.length = 13)) → G_ref33_Time.p0 (kRet h Q) (.p (some ⟨h.length, 5, 0⟩)) d.data b h1 := by
    intro b hb
    refine G_ref33_Time.i0 ?_
    simp only [G_ref33_Time.t0, G_ref33_Time.j1, G_ref33_Time.j2]
    refine bif_both (fun e => ?_) fun e => st_loadN B D.len.symm (Rplain_c D1 (st_asB ?_))
    · subst e
      have hb := hb.symm
      rw [Bool.and_eq_true, decide_eq_true_eq] at hb
      rw [if_neg (by rw [no2 hb.1]; simp), if_pos hb.1, if_pos hb.2] at hq
      simp only at hq
      obtain ⟨c0, hc0⟩ : ∃ c, d.data[0]? = some c := ⟨_, List.getElem?_eq_getElem (by omega)⟩
      rw [getD_some hc0] at hq
      refine idxStr (i := 0) hc0 ?_
      refine bif_both (fun e => ⟨by simp; omega, Rtime_p2 U1 (by simp; omega) ?_⟩) fun e => ⟨by simp; omega, Rtime_p2 U1 (by simp; omega) ?_⟩
      · have h53 : 53 ≤ c0.toNat := by simp only [decide_eq_true_eq] at e; omega
        simp only [if_pos h53] at hq
        exact hq
      · have h53 : ¬ 53 ≤ c0.toNat := by simp only [decide_eq_false_iff_not] at e; omega
        simp only [if_neg h53] at hq
        exact hq
    · subst e
      have p1 : ∀ b, b = (dPlain 24 d && decide (d.data.length = 15)) → G_ref33_Time.p1 (kRet h Q) d.data b h1 := by
        intro b hb2
        refine G_ref33_Time.i1 ?_
        simp only [G_ref33_Time.t1, G_ref33_Time.j2]
        refine bif_both (fun e => ?_) fun e => ?_
        · subst e
          have hb2 := hb2.symm
          rw [Bool.and_eq_true, decide_eq_true_eq] at hb2
          rw [if_pos hb2.1, if_pos hb2.2] at hq
          exact Rtime_p2 U1 hb2.2 hq
        · subst e
          have hn : (if dPlain 24 d = true then (if d.data.length = 15 then some d.data else none) else if dPlain 23 d = true then (if d.data.length = 13 then some ((if 53 ≤ (d.data.getD 0 0).toNat then [49, 57] else [50, 48]) ++ d.data) else none) else none) = none := by
            by_cases h24 : dPlain 24 d = true
            · rw [if_pos h24, if_neg (fun hh => by rw [h24, hh] at hb2; cases hb2)]
            · rw [if_neg h24]
              by_cases h23 : dPlain 23 d = true
              · rw [if_pos h23, if_neg (fun hh => by rw [h23, hh] at hb; cases hb)]
              · rw [if_neg h23]
          rw [hn] at hq
          exact kRet_pure rfl U1.ext hq
      refine bif_both (fun e => p1 _ ?_) fun e => p1 _ ?_
      · rw [e, Bool.true_and, decide_eq_decide]; omega
      · rw [e]; rfl
  refine bif_both (fun e => p0 _ ?_) fun e => p0 _ ?_
  · rw [e, Bool.true_and, decide_eq_decide]; omega
  · rw [e]; rfl

end
end Go.Proofs.YtffgchcidkapjaaDoor
