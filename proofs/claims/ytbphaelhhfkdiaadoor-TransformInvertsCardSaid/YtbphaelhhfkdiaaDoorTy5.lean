/- strings.Split at one byte; the reference's segments. -/
import Derived.Test.YtbphaelhhfkdiaaDoorTy4
set_option linter.unusedVariables false
set_option linter.unusedSimpArgs false
set_option linter.unusedSectionVars false
set_option maxRecDepth 20000
namespace Go.GAM

/-- A stack that is made since h0. -/
structure NewS (h0 h : AHeap) (v : AV) (l : List AV) : Prop where
  upd : Upd (fun _ => False) h0 h
  stk : Stk h v l
  new : ∀ i, SlAt v i → h0.length ≤ i

theorem NewS.start (h : AHeap) : NewS h h (.sl none 0 none) [] := ⟨Upd.refl _ _, .inl ⟨rfl, rfl⟩, fun _ h => h.elim⟩
theorem NewS.empty {h0 h : AHeap} (U : Upd (fun _ => False) h0 h) {K : AV → AHeap → Prop} (hk : ∀ v h', NewS h0 h' v [] → Upd (fun _ => False) h h' → (∀ i, SlAt v i → h.length ≤ i) → K v h') : pBuildSl 1 0 [] [] h K := by
  refine ⟨rfl, hk _ _ ⟨U.trans (Upd.app _ _) fun _ _ h => h, .inr ⟨h.length, newBlk [] 1 true, rfl, by simp, rfl, Nat.le_refl _, rfl, Nat.le_refl _, rfl, rfl⟩, fun i hi => ?_⟩ (Upd.app _ _) fun i hi => ?_⟩
  · cases hi; exact U.1
  · cases hi; exact Nat.le_refl _
theorem NewS.push {bytes : Nat} {h0 h : AHeap} {v x : AV} {l zeros : List AV} (S : NewS h0 h v l) (hf : fillA zeros [(0, 1, x)] = some [x]) (hx : x.cellOK = true) (hlen : (l.length + 1) * bytes ≤ 140737488355328) (hl2 : l.length + 1 ≤ 9223372036854775807) {K : AV → AHeap → Prop}
    (hk : ∀ v' h', NewS h0 h' v' (l ++ [x]) → Upd (SlAt v) h h' → (∀ i, SlAt v' i → SlAt v i ∨ h.length ≤ i) → K v' h') : pBuildSl 1 1 zeros [(0, 1, x)] h fun y h' => pAppend 1 bytes v y h' K :=
  S.stk.push hf hx hlen hl2 fun v' h' U S' F => hk v' h' ⟨S.upd.trans U fun i hi hs => absurd (S.new i hs) (by omega), S', fun i hi => by
    rcases F i hi with h | h
    · exact S.new i h
    · exact Nat.le_trans S.upd.1 h⟩ U F
theorem NewS.cut {h0 h : AHeap} {v : AV} {l : List AV} (S : NewS h0 h v l) {n : Nat} (hn : n ≤ l.length) {K : AV → Prop} (hk : ∀ v', NewS h0 h v' (l.take n) → (∀ i, SlAt v' i → SlAt v i) → K v') : pSliceSl 1 v none (some (.i .i64 n)) none h K :=
  S.stk.cut hn fun v' S' F => hk v' ⟨S.upd, S', fun i hi => S.new i (F i hi)⟩ F

theorem Arr.stk {h : AHeap} {v : AV} {l : List AV} {n : Nat} (A : Arr 1 h v l n) : n = l.length ∧ Stk h v l := by
  rcases A with ⟨rfl, rfl, rfl⟩ | ⟨id, b, rfl, h2, rfl, h4, h5, h6, h7, h8⟩
  · exact ⟨rfl, .inl ⟨rfl, rfl⟩⟩
  · have : n = b.cells.length := by omega
    subst this
    exact ⟨rfl, .inr ⟨id, b, rfl, h2, h5, Nat.le_refl _, by simp, h6, h7, h8⟩⟩

theorem flat_rep (z : AV) : ∀ n, (List.replicate n [z]).flatten = List.replicate n z
  | 0 => rfl
  | n + 1 => by rw [List.replicate_succ, List.flatten_cons, flat_rep z n, List.replicate_succ]; rfl
theorem st_make {bytes n : Nat} {z : AV} {h : AHeap} {k : IntKind} (hb : bytes * n ≤ 281474976710656) (hn : n ≤ 9223372036854775807) {K : AV → AHeap → Prop}
    (hk : ∀ v h', NewA 1 h h' v (List.replicate n z) n → K v h') : pMake 1 bytes [z] (.i k (n : Int)) (.i k (n : Int)) h K := by
  refine ⟨by omega, by omega, Int.natCast_mul bytes n ▸ (by omega : ((bytes * n : Nat) : Int) ≤ (281474976710656 : Int)), by omega, rfl, Nat.one_pos, ?_⟩
  refine hk _ _ ⟨Upd.app _ _, .inr ⟨h.length, newBlk (List.replicate n z) 1 true, ?_, ?_, rfl, by simp, rfl, Nat.le_refl _, rfl, rfl⟩, fun i hi => by cases hi; exact Nat.le_refl _⟩
  · rw [Int.toNat_natCast, Nat.mul_one, List.length_replicate]
  · rw [Int.toNat_natCast, flat_rep, List.getElem?_append_right (Nat.le_refl _), Nat.sub_self]; rfl

end Go.GAM
namespace Go.Proofs.YtbphaelhhfkdiaaDoor
open Go.GAM Go.RowKit

def prep (a : List UInt8) : List (List UInt8) → List (List UInt8)
  | [] => [a]
  | b :: l => (a ++ b) :: l
def splitS : List UInt8 → List (List UInt8)
  | [] => [[]]
  | c :: r => if c = 47 then [] :: splitS r else prep [c] (splitS r)

theorem splitS_ne (s : List UInt8) : splitS s ≠ [] := by
  cases s with
  | nil => simp [splitS]
  | cons c r =>
    unfold splitS
    split
    · simp
    · cases splitS r <;> simp [prep]
theorem prep_nil {l : List (List UInt8)} (h : l ≠ []) : prep [] l = l := by cases l with | nil => exact absurd rfl h | cons a l => rfl
theorem prep_prep (a b : List UInt8) (l : List (List UInt8)) : prep a (prep b l) = prep (a ++ b) l := by cases l <;> simp [prep]
theorem prep_length (a : List UInt8) {l : List (List UInt8)} (h : l ≠ []) : (prep a l).length = l.length := by cases l with
  | nil => exact absurd rfl h
  | cons b l => rfl

theorem split_len : ∀ s : List UInt8, (splitS s).length = Lib.countByte s 47 + 1
  | [] => rfl
  | c :: r => by
    have := split_len r
    unfold Lib.countByte at this ⊢
    unfold splitS
    split
    · rename_i h; subst h; simp [this]
    · rename_i h
      rw [prep_length _ (splitS_ne r), this, List.count_cons_of_ne h]
theorem split_no : ∀ s : List UInt8, Lib.indexByte s 47 < 0 → splitS s = [s]
  | [], _ => rfl
  | c :: r, h => by
    unfold Lib.indexByte at h
    split at h
    · omega
    · rename_i h1
      split at h
      · rename_i h2
        rw [splitS, if_neg (by simpa using h1), split_no r (by simp at h2; omega)]; rfl
      · have := Lib.indexByte_ge r 47
        rename_i h2
        simp at h2; omega
theorem split_at : ∀ (s : List UInt8) (m : Nat), Lib.indexByte s 47 = (m : Int) → m < s.length ∧ splitS s = s.take m :: splitS (s.drop (m + 1))
  | [], m, h => by simp [Lib.indexByte] at h
  | c :: r, m, h => by
    unfold Lib.indexByte at h
    split at h
    · rename_i h1
      have : m = 0 := by omega
      subst this
      simp at h1
      subst h1
      exact ⟨by simp, by simp [splitS]⟩
    · rename_i h1
      split at h
      · omega
      · rename_i h2
        have := Lib.indexByte_ge r 47
        simp at h1 h2
        obtain ⟨m', hm'⟩ : ∃ m' : Nat, Lib.indexByte r 47 = (m' : Int) := ⟨(Lib.indexByte r 47).toNat, by omega⟩
        have : m = m' + 1 := by omega
        subst this
        obtain ⟨h3, h4⟩ := split_at r m' hm'
        exact ⟨by simpa using h3, by rw [splitS, if_neg h1, h4]; rfl⟩

section
variable {s : List UInt8} {h0 : AHeap} {Q : AV → AHeap → Prop}

/-! ### strings.Split -/

theorem gs_p2 {rest : List UInt8} {done : List (List UInt8)} {v : AV} {h : AHeap} (hd : done.length ≤ 1000000) (A : NewA 1 h0 h v (done.map AV.s ++ List.replicate 1 (.s [])) (done.length + 1))
    (hq : ∀ v h', NewS h0 h' v ((done ++ [rest]).map .s) → Q v h') : G_strings_genSplit.p2 (kRet h0 Q) rest v (done.length : Nat) h := by
  refine G_strings_genSplit.i2 ?_
  simp only [G_strings_genSplit.t2]
  refine A.arr.store (by omega) rfl rfl rfl fun h' U A' => inc (by omega) ?_
  have e : (done.map AV.s ++ List.replicate 1 (AV.s [])).set done.length (AV.s rest) = (done ++ [rest]).map AV.s := by
    rw [List.set_append_right _ _ (by simp)]; simp
  rw [e] at A'
  have S := A'.stk.2
  have S' : NewS h0 h' v ((done ++ [rest]).map .s) := ⟨A.upd.trans U fun i hi hs => absurd (A.new i hs) (by omega), S, A.new⟩
  refine S'.cut (n := done.length + 1) (by simp) fun v' S2 F => .inl (hq v' h' ?_)
  rw [List.take_of_length_le (by simp)] at S2
  exact S2

theorem gs_p1 : ∀ (k : Nat) (rest : List UInt8) (done : List (List UInt8)) (v : AV) (h : AHeap), (splitS rest).length = k + 1 → done.length + k ≤ 1000000 → rest.length ≤ 100000 → NewA 1 h0 h v (done.map AV.s ++ List.replicate (k + 1) (.s [])) (done.length + (k + 1)) →
    (∀ v h', NewS h0 h' v ((done ++ splitS rest).map .s) → Q v h') → G_strings_genSplit.p1 (kRet h0 Q) rest [47] 0 (done.length + k : Nat) v (done.length : Nat) h := by
  intro k
  induction k with
  | zero =>
    intro rest done v h hk hd hr A hq
    refine G_strings_genSplit.i1 ?_
    simp only [G_strings_genSplit.t1, G_strings_genSplit.j1, G_strings_genSplit.j2]
    have e : splitS rest = [rest] := by
      rcases Int.lt_or_le (Lib.indexByte rest 47) 0 with h1 | h1
      · exact split_no rest h1
      · obtain ⟨m, hm⟩ : ∃ m : Nat, Lib.indexByte rest 47 = (m : Int) := ⟨(Lib.indexByte rest 47).toNat, by omega⟩
        obtain ⟨_, h2⟩ := split_at rest m hm
        rw [h2] at hk
        have := splitS_ne (rest.drop (m + 1))
        have : 0 < (splitS (rest.drop (m + 1))).length := List.length_pos_iff.2 this
        simp only [List.length_cons] at hk; omega
    rw [e] at hq
    exact bif_f (by simp) (gs_p2 (by omega) A hq)
  | succ k ih =>
    intro rest done v h hk hd hr A hq
    refine G_strings_genSplit.i1 ?_
    simp only [G_strings_genSplit.t1, G_strings_genSplit.j1, G_strings_genSplit.j2]
    refine bif_t (by simp; omega) (ix_c (st_asI64 ?_))
    have h1 : 0 ≤ Lib.indexByte rest 47 := by
      rcases Int.lt_or_le (Lib.indexByte rest 47) 0 with h1 | h1
      · rw [split_no rest h1] at hk; simp at hk
      · exact h1
    obtain ⟨m, hm⟩ : ∃ m : Nat, Lib.indexByte rest 47 = (m : Int) := ⟨(Lib.indexByte rest 47).toNat, by omega⟩
    obtain ⟨h2, h3⟩ := split_at rest m hm
    rw [hm]
    refine bif_f (by simp) (withI_is (n := (m : Int)) (by rw [wrap_i64 (by omega) (by omega)]; omega) (st_subs1 (by omega) ?_))
    refine A.arr.store (by omega) rfl rfl rfl fun h' U A' => ?_
    refine withI_is (n := ((m + 1 : Nat) : Int)) (by rw [wrap_i64 (by simp only [List.length_singleton]; omega) (by simp only [List.length_singleton]; omega)]; rfl) (st_subs (by omega) (inc (by omega) ?_))
    have e : (done.map AV.s ++ List.replicate (k + 1 + 1) (AV.s [])).set done.length (AV.s (rest.take m)) = (done ++ [rest.take m]).map AV.s ++ List.replicate (k + 1) (AV.s []) := by
      rw [List.set_append_right _ _ (by simp)]; simp [List.replicate_succ]
    rw [e] at A'
    have hl : (done ++ [rest.take m]).length = done.length + 1 := by simp
    have := ih (rest.drop (m + 1)) (done ++ [rest.take m]) v h' (by rw [h3] at hk; simpa using hk) (by rw [hl]; omega) (by simp; omega)
      ⟨A.upd.trans U fun i hi hs => absurd (A.new i hs) (by omega), by rw [hl]; rw [show done.length + 1 + (k + 1) = done.length + (k + 1 + 1) by omega]; exact A', A.new⟩
      (by rw [h3] at hq; simpa using hq)
    rw [hl, show done.length + 1 + k = done.length + (k + 1) by omega] at this
    exact this

theorem split_c {h : AHeap} (hs : s.length ≤ 100000) (hq : ∀ v h', NewS h h' v ((splitS s).map .s) → Q v h') : C G_strings_Split.id [.s s, .s [47]] h Q := by
  refine G_strings_Split.call ?_
  simp only [G_strings_Split.t]
  have hc : Lib.countByte s 47 ≤ s.length := List.count_le_length
  have hsl := split_len s
  refine G_strings_genSplit.call ?_
  simp only [G_strings_genSplit.t, G_strings_genSplit.j0]
  refine bif_f rfl (bif_f rfl (bif_t rfl (ct_c (st_asI64 (inc (by omega) ?_)))))
  refine G_strings_genSplit.i0 ?_
  simp only [G_strings_genSplit.t0, G_strings_genSplit.j1]
  refine inc (by omega) ?_
  have hm : mmI false ((Lib.countByte s 47 + 1 : Nat) : Int) ((s.length + 1 : Nat) : Int) = ((Lib.countByte s 47 + 1 : Nat) : Int) := by
    unfold mmI
    simp only [cond_false]
    rw [if_neg (by omega)]
  rw [hm]
  refine st_make (by omega) (by omega) fun v h' A => ?_
  refine withI_is (n := ((Lib.countByte s 47 : Nat) : Int)) (by rw [wrap_i64 (by omega) (by omega)]; omega) ?_
  have := gs_p1 (h0 := h) (Q := fun v1 h2 => kRet h Q v1 h2) (Lib.countByte s 47) s [] v h' hsl (by simp; omega) hs (by simpa using A) fun v h' S => .inl (hq v h' (by simpa using S))
  simpa using this

/-! ### the reference's segments -/

theorem seg_p2 {v : AV} {f i : Nat} {h : AHeap} (hi : i ≤ 1000000) (hk : G_ref26_segments.p0 (kRet h0 Q) s v f (i + 1 : Nat) h) : G_ref26_segments.p2 (kRet h0 Q) s v f i h := by
  refine G_ref26_segments.i2 ?_
  simp only [G_ref26_segments.t2, G_ref26_segments.j0]
  exact inc (by omega) hk
theorem seg_push {v : AV} {f i : Nat} {done : List (List UInt8)} {h : AHeap} (hi : i ≤ s.length) (hs : s.length ≤ 100000) (hf : f ≤ i) (hd : done.length ≤ i) (S : NewS h0 h v (done.map .s))
    (hk : ∀ v' h', NewS h0 h' v' ((done ++ [(s.take i).drop f]).map .s) → G_ref26_segments.p0 (kRet h0 Q) s v' (i + 1 : Nat) (i + 1 : Nat) h') : G_ref26_segments.p1 (kRet h0 Q) s v f i true h := by
  refine G_ref26_segments.i1 ?_
  simp only [G_ref26_segments.t1, G_ref26_segments.j2]
  refine bif_t rfl (st_subs2 hf hi ?_)
  refine S.push rfl rfl (by simp; omega) (by simp; omega) fun v' h' S' _ _ => inc (by omega) (seg_p2 (by omega) (hk v' h' ?_))
  rw [List.map_append]; exact S'

theorem seg_p0 (hs : s.length ≤ 100000) : ∀ (r : List UInt8) (i f : Nat) (v : AV) (done : List (List UInt8)) (h : AHeap), s.drop i = r → i ≤ s.length → f ≤ i → done.length ≤ i → NewS h0 h v (done.map .s) →
    (∀ v h', NewS h0 h' v ((done ++ prep ((s.take i).drop f) (splitS r)).map .s) → Q v h') → G_ref26_segments.p0 (kRet h0 Q) s v f i h := by
  intro r
  induction r with
  | nil =>
    intro i f v done h hr hi hf hd S hq
    have hl := drop_end hr
    have hi' : i = s.length := by omega
    refine G_ref26_segments.i0 ?_
    simp only [G_ref26_segments.t0, G_ref26_segments.j1]
    refine bif_t (by simp; omega) (bif_t (by simp; omega) ?_)
    refine seg_push hi hs hf hd S fun v' h' S' => ?_
    refine G_ref26_segments.i0 ?_
    simp only [G_ref26_segments.t0, G_ref26_segments.j1]
    refine bif_f (by simp; omega) (.inl (hq v' h' ?_))
    simpa [splitS, prep] using S'
  | cons c r ih =>
    intro i f v done h hr hi hf hd S hq
    have hlt := drop_lt hr
    have hn := drop_next hr
    have hci : s[i]? = some c := by
      have : (s.drop i)[0]? = some c := by rw [hr]; rfl
      simpa using this
    refine G_ref26_segments.i0 ?_
    simp only [G_ref26_segments.t0, G_ref26_segments.j1]
    refine bif_t (by simp; omega) (bif_f (by simp; omega) (st_at hr ?_))
    by_cases hc : c = 47
    · subst hc
      rw [show decide (((47 : UInt8).toNat : Int) = 47) = true by rfl]
      refine seg_push hi hs hf hd S fun v' h' S' => ih (i + 1) (i + 1) v' _ h' hn (by omega) (by omega) (by simp; omega) S' ?_
      rw [splitS, if_pos rfl] at hq
      rw [show (s.take (i + 1)).drop (i + 1) = [] from List.drop_eq_nil_of_le (by simp; omega), prep_nil (splitS_ne r)]
      simpa [prep] using hq
    · have hc' : decide ((c.toNat : Int) = 47) = false := by
        simp only [decide_eq_false_iff_not]
        intro h; exact hc (UInt8.toNat_inj.1 (by show c.toNat = 47; omega))
      rw [hc']
      refine G_ref26_segments.i1 ?_
      simp only [G_ref26_segments.t1, G_ref26_segments.j2]
      refine bif_f rfl (seg_p2 (by omega) (ih (i + 1) f v done h hn (by omega) (by omega) (by omega) S ?_))
      rw [splitS, if_neg hc, prep_prep] at hq
      rw [List.take_add_one, hci, List.drop_append_of_le_length (by simp; omega)]
      exact hq

theorem seg_c {h : AHeap} (hs : s.length ≤ 100000) (hq : ∀ v h', NewS h h' v ((splitS s).map .s) → Q v h') : C G_ref26_segments.id [.s s] h Q := by
  refine G_ref26_segments.call ?_
  simp only [G_ref26_segments.t, G_ref26_segments.j0]
  refine NewS.empty (Upd.refl _ _) fun v h' S _ _ => seg_p0 hs s 0 0 v [] h' rfl (by omega) (by omega) (by simp) S fun v h' S' => hq v h' ?_
  simpa [prep_nil (splitS_ne s)] using S'

end
end Go.Proofs.YtbphaelhhfkdiaaDoor
