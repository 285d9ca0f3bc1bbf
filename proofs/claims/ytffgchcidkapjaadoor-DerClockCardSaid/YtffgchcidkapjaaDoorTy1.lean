/- The rules for the library's functions; strings.Split at one byte. -/
import Derived.Test.YtffgchcidkapjaaDoorTx1
import Derived.Test.YtffgchcidkapjaaDoorAm24
import Derived.Test.YtffgchcidkapjaaDoorSh
set_option linter.unusedVariables false
set_option linter.unusedSimpArgs false
set_option linter.unusedSectionVars false
set_option maxRecDepth 20000
namespace Go.Proofs.YtffgchcidkapjaaDoor
open Go.GAM Go.RowKit

/-- strings.Index and strings.Count at one byte: by the shelf's contracts. -/
instance xr1 : XR := ⟨fun f args h K =>
  (f = G_strings_Index.id ∧ ∃ (l : List UInt8) (c : UInt8), args = [.s l, .s [c]] ∧ K (.i .i64 (Lib.indexByte l c)) h) ∨
  (f = G_strings_Count.id ∧ ∃ (l : List UInt8) (c : UInt8), args = [.s l, .s [c]] ∧ K (.i .i64 (Lib.countByte l c : Nat)) h)⟩

theorem mixedOK : prog.follows .mixedOrders = true := by kernel_rfl
theorem sizeOK : prog.funcs.size ≤ yid0 := Nat.le_of_ble_eq_true (by kernel_rfl)
theorem okIx : bodyOK prog G_strings_Index.id = true := by kernel_rfl
theorem okCt : bodyOK prog G_strings_Count.id = true := by kernel_rfl

theorem one_str {μ : Mu} {v : Value} {c : UInt8} (h : VRel μ (.s [c]) v) : v = .string ⟨#[c]⟩ := by
  cases h with
  | s l x hx =>
    obtain ⟨d⟩ := x
    have : d = #[c] := by apply Array.ext'; simpa using hx
    rw [this]

theorem soundX : Sound prog X := by
  rintro w0 Fz μb f args h K (⟨rfl, l, c, rfl, hk⟩ | ⟨rfl, l, c, rfl, hk⟩) μ own w cargs hsb R hc
  · rw [if_pos (by decide)]
    obtain ⟨v1, _, rfl, hc1, h2⟩ : ∃ v1 vs, cargs = v1 :: vs ∧ VRel μ (.s l) v1 ∧ VRels μ [.s [c]] vs := by cases hc with | cons _ _ _ _ a b => exact ⟨_, _, rfl, a, b⟩
    cases hc1 with
    | s _ x hx =>
      cases h2 with
      | cons _ _ _ _ a b =>
        have := one_str a
        subst this
        cases b
        refine x_calls okIx R ((Tryd.strings_Index_one x c w).mono fun e w' ⟨he, hw⟩ => ⟨he, hw ▸ Below.refl _ _⟩) ?_ hk
        rw [hx]; exact .i _ _
  · rw [if_pos (by decide)]
    obtain ⟨v1, _, rfl, hc1, h2⟩ : ∃ v1 vs, cargs = v1 :: vs ∧ VRel μ (.s l) v1 ∧ VRels μ [.s [c]] vs := by cases hc with | cons _ _ _ _ a b => exact ⟨_, _, rfl, a, b⟩
    cases hc1 with
    | s _ x hx =>
      cases h2 with
      | cons _ _ _ _ a b =>
        have := one_str a
        subst this
        cases b
        refine x_calls okCt R ((Tryd.strings_Count_one x c w).mono fun e w' ⟨he, hw⟩ => ⟨he, hw ▸ Below.refl _ _⟩) ?_ hk
        rw [hx]; exact .i _ _

theorem ix_c {l : List UInt8} {c : UInt8} {h : AHeap} {K : AV → AHeap → Prop} (hk : K (.i .i64 (Lib.indexByte l c)) h) : C G_strings_Index.id [.s l, .s [c]] h K := acall_x (.inl ⟨rfl, l, c, rfl, hk⟩)
theorem ct_c {l : List UInt8} {c : UInt8} {h : AHeap} {K : AV → AHeap → Prop} (hk : K (.i .i64 (Lib.countByte l c : Nat)) h) : C G_strings_Count.id [.s l, .s [c]] h K := acall_x (.inr ⟨rfl, l, c, rfl, hk⟩)

def prep (a : List UInt8) : List (List UInt8) → List (List UInt8)
  | [] => [a]
  | b :: l => (a ++ b) :: l
def splitS (sp : UInt8) : List UInt8 → List (List UInt8)
  | [] => [[]]
  | c :: r => if c = sp then [] :: splitS sp r else prep [c] (splitS sp r)

section
variable {sp : UInt8}
theorem splitS_ne (sp : UInt8) (s : List UInt8) : splitS sp s ≠ [] := by
  cases s with
  | nil => simp [splitS]
  | cons c r =>
    unfold splitS
    split
    · simp
    · cases splitS sp r <;> simp [prep]
theorem prep_nil {l : List (List UInt8)} (h : l ≠ []) : prep [] l = l := by cases l with | nil => exact absurd rfl h | cons a l => rfl
theorem prep_prep (a b : List UInt8) (l : List (List UInt8)) : prep a (prep b l) = prep (a ++ b) l := by cases l <;> simp [prep]
theorem prep_length (a : List UInt8) {l : List (List UInt8)} (h : l ≠ []) : (prep a l).length = l.length := by cases l with
  | nil => exact absurd rfl h
  | cons b l => rfl

theorem split_len : ∀ s : List UInt8, (splitS sp s).length = Lib.countByte s sp + 1
  | [] => rfl
  | c :: r => by
    have := split_len r
    unfold Lib.countByte at this ⊢
    unfold splitS
    split
    · rename_i h; subst h; simp [this]
    · rename_i h
      rw [prep_length _ (splitS_ne sp r), this, List.count_cons_of_ne h]
theorem split_no : ∀ s : List UInt8, Lib.indexByte s sp < 0 → splitS sp s = [s]
  | [], _ => rfl
  | c :: r, h => by
    unfold Lib.indexByte at h
    split at h
    · omega
    · rename_i h1
      split at h
      · rename_i h2
        rw [splitS, if_neg (by simpa using h1), split_no r (by simp at h2; omega)]; rfl
      · have := Lib.indexByte_ge r sp
        rename_i h2
        simp at h2; omega
theorem split_at : ∀ (s : List UInt8) (m : Nat), Lib.indexByte s sp = (m : Int) → m < s.length ∧ splitS sp s = s.take m :: splitS sp (s.drop (m + 1))
  | [], m, h => by simp [Lib.indexByte] at h
  | c :: r, m, h => by
    unfold Lib.indexByte at h
    split at h
    · rename_i h1
      have : m = 0 := by omega
      subst this
      simp at h1
      subst h1
      exact ⟨by simp, by simp [splitS]⟩
    · rename_i h1
      split at h
      · omega
      · rename_i h2
        have := Lib.indexByte_ge r sp
        simp at h1 h2
        obtain ⟨m', hm'⟩ : ∃ m' : Nat, Lib.indexByte r sp = (m' : Int) := ⟨(Lib.indexByte r sp).toNat, by omega⟩
        have : m = m' + 1 := by omega
        subst this
        obtain ⟨h3, h4⟩ := split_at r m' hm'
        exact ⟨by simpa using h3, by rw [splitS, if_neg h1, h4]; rfl⟩

section
variable {s : List UInt8} {h0 : AHeap} {Q : AV → AHeap → Prop}

/-! ### strings.Split -/

theorem gs_p2 {rest : List UInt8} {done : List (List UInt8)} {v : AV} {h : AHeap} (hd : done.length ≤ 1000000) (A : NewA 1 h0 h v (done.map AV.s ++ List.replicate 1 (.s [])) (done.length + 1))
    (hq : ∀ v h', NewS h0 h' v ((done ++ [rest]).map .s) → Q v h') : G_strings_genSplit.p2 (kRet h0 Q) rest v (done.length : Nat) h := by
  refine G_strings_genSplit.i2 ?_
  simp only [G_strings_genSplit.t2]
  refine A.arr.store (by omega) rfl rfl rfl fun h' U A' => inc (by omega) ?_
  have e : (done.map AV.s ++ List.replicate 1 (AV.s [])).set done.length (AV.s rest) = (done ++ [rest]).map AV.s := by
    rw [List.set_append_right _ _ (by simp)]; simp
  rw [e] at A'
  have S := A'.stk.2
  have S' : NewS h0 h' v ((done ++ [rest]).map .s) := ⟨A.upd.trans U fun i hi hs => absurd (A.new i hs) (by omega), S, A.new⟩
  refine S'.cut (n := done.length + 1) (by simp) fun v' S2 F => .inl (hq v' h' ?_)
  rw [List.take_of_length_le (by simp)] at S2
  exact S2

theorem gs_p1 : ∀ (k : Nat) (rest : List UInt8) (done : List (List UInt8)) (v : AV) (h : AHeap), (splitS sp rest).length = k + 1 → done.length + k ≤ 1000000 → rest.length ≤ 100000 → NewA 1 h0 h v (done.map AV.s ++ List.replicate (k + 1) (.s [])) (done.length + (k + 1)) →
    (∀ v h', NewS h0 h' v ((done ++ splitS sp rest).map .s) → Q v h') → G_strings_genSplit.p1 (kRet h0 Q) rest [sp] 0 (done.length + k : Nat) v (done.length : Nat) h := by
  intro k
  induction k with
  | zero =>
    intro rest done v h hk hd hr A hq
    refine G_strings_genSplit.i1 ?_
    simp only [G_strings_genSplit.t1, G_strings_genSplit.j1, G_strings_genSplit.j2]
    have e : splitS sp rest = [rest] := by
      rcases Int.lt_or_le (Lib.indexByte rest sp) 0 with h1 | h1
      · exact split_no rest h1
      · obtain ⟨m, hm⟩ : ∃ m : Nat, Lib.indexByte rest sp = (m : Int) := ⟨(Lib.indexByte rest sp).toNat, by omega⟩
        obtain ⟨_, h2⟩ := split_at rest m hm
        rw [h2] at hk
        have := splitS_ne sp (rest.drop (m + 1))
        have : 0 < (splitS sp (rest.drop (m + 1))).length := List.length_pos_iff.2 this
        simp only [List.length_cons] at hk; omega
    rw [e] at hq
    exact bif_f (by simp) (gs_p2 (by omega) A hq)
  | succ k ih =>
    intro rest done v h hk hd hr A hq
    refine G_strings_genSplit.i1 ?_
    simp only [G_strings_genSplit.t1, G_strings_genSplit.j1, G_strings_genSplit.j2]
    refine bif_t (by simp; omega) (ix_c (st_asI64 ?_))
    have h1 : 0 ≤ Lib.indexByte rest sp := by
      rcases Int.lt_or_le (Lib.indexByte rest sp) 0 with h1 | h1
      · rw [split_no rest h1] at hk; simp at hk
      · exact h1
    obtain ⟨m, hm⟩ : ∃ m : Nat, Lib.indexByte rest sp = (m : Int) := ⟨(Lib.indexByte rest sp).toNat, by omega⟩
    obtain ⟨h2, h3⟩ := split_at rest m hm
    rw [hm]
    refine bif_f (by simp) (withI_is (n := (m : Int)) (by rw [wrap_i64 (by omega) (by omega)]; omega) (st_subs1 (by omega) ?_))
    refine A.arr.store (by omega) rfl rfl rfl fun h' U A' => ?_
    refine withI_is (n := ((m + 1 : Nat) : Int)) (by rw [wrap_i64 (by simp only [List.length_singleton]; omega) (by simp only [List.length_singleton]; omega)]; rfl) (st_subs (by omega) (inc (by omega) ?_))
    have e : (done.map AV.s ++ List.replicate (k + 1 + 1) (AV.s [])).set done.length (AV.s (rest.take m)) = (done ++ [rest.take m]).map AV.s ++ List.replicate (k + 1) (AV.s []) := by
      rw [List.set_append_right _ _ (by simp)]; simp [List.replicate_succ]
    rw [e] at A'
    have hl : (done ++ [rest.take m]).length = done.length + 1 := by simp
    have := ih (rest.drop (m + 1)) (done ++ [rest.take m]) v h' (by rw [h3] at hk; simpa using hk) (by rw [hl]; omega) (by simp; omega)
      ⟨A.upd.trans U fun i hi hs => absurd (A.new i hs) (by omega), by rw [hl]; rw [show done.length + 1 + (k + 1) = done.length + (k + 1 + 1) by omega]; exact A', A.new⟩
      (by rw [h3] at hq; simpa using hq)
    rw [hl, show done.length + 1 + k = done.length + (k + 1) by omega] at this
    exact this

theorem split_c {h : AHeap} (hs : s.length ≤ 100000) (hq : ∀ v h', NewS h h' v ((splitS sp s).map .s) → Q v h') : C G_strings_Split.id [.s s, .s [sp]] h Q := by
  refine G_strings_Split.call ?_
  simp only [G_strings_Split.t]
  have hc : Lib.countByte s sp ≤ s.length := List.count_le_length
  have hsl := split_len (sp := sp) s
  refine G_strings_genSplit.call ?_
  simp only [G_strings_genSplit.t, G_strings_genSplit.j0]
  refine bif_f rfl (bif_f rfl (bif_t rfl (ct_c (st_asI64 (inc (by omega) ?_)))))
  refine G_strings_genSplit.i0 ?_
  simp only [G_strings_genSplit.t0, G_strings_genSplit.j1]
  refine inc (by omega) ?_
  have hm : mmI false ((Lib.countByte s sp + 1 : Nat) : Int) ((s.length + 1 : Nat) : Int) = ((Lib.countByte s sp + 1 : Nat) : Int) := by
    unfold mmI
    simp only [cond_false]
    rw [if_neg (by omega)]
  rw [hm]
  refine st_make (by omega) (by omega) fun v h' A => ?_
  refine withI_is (n := ((Lib.countByte s sp : Nat) : Int)) (by rw [wrap_i64 (by omega) (by omega)]; omega) ?_
  have := gs_p1 (h0 := h) (Q := fun v1 h2 => kRet h Q v1 h2) (Lib.countByte s sp) s [] v h' hsl (by simp; omega) hs (by simpa using A) fun v h' S => .inl (hq v h' (by simpa using S))
  simpa using this


end
end
end Go.Proofs.YtffgchcidkapjaaDoor
