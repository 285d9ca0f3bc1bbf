/- Lemmas (several texts in one). -/
import Derived.Shelf.Strings.Search3
import Derived.Shelf.Strings.Count
import Derived.Test.YtffgchcidkapjaaDoorProg
import Derived.Test.YtffgchcidkapjaaDoorMg3
/-
  DERIVED: THE SHELF's CONTRACTS AT THIS DUMP, IN PLAIN WORDS (tools/lay-plain.mjs out of 'TrydShelf.lean', which tools/lay-shelf.mjs wrote): THE SAME DECLARATIONS UNDER THE SAME NAMES: 'import', 'namespace', 'open', 'def', 'theorem' AND NOTHING ELSE: no command of the shelf's: FOR A HAND-IN. Each laying: the table of numbers ('.._ren') and one theorem, a field a fact of the dump's own or the kernel's comparison; each contract: ONE APPLICATION.
-/
namespace Go.Proofs
open Go.Shelf
def Tryd.lays143_ren : Go.Shelf.Ren := ⟨fun | 143 => 70 | 219 => 78 | 217 => 85 | 225 => 86 | 224 => 87 | 267 => 88 | 266 => 91 | 314 => 92 | n => n, fun | 9 => 9 | 3 => 3 | 4 => 4 | 5 => 5 | 46 => 58 | 146 => 102 | 51 => 94 | n => n, fun | 1 => 1 | n => n⟩
theorem Tryd.lays143 : Go.Proofs.Lays.n143 Tryd.prog Tryd.lays143_ren := {
  mixed := by kernel_rfl
  f143 := Tryd.func70.trans (congrArg some (by kernel_rfl))
  f217 := Tryd.func85.trans (congrArg some (by kernel_rfl))
  f219 := Tryd.func78.trans (congrArg some (by kernel_rfl))
  f224 := Tryd.func87.trans (congrArg some (by kernel_rfl))
  f225 := Tryd.func86.trans (congrArg some (by kernel_rfl))
  f266 := Tryd.func91.trans (congrArg some (by kernel_rfl))
  f267 := Tryd.func88.trans (congrArg some (by kernel_rfl))
  f314 := Tryd.func92.trans (congrArg some (by kernel_rfl))
  t3 := Tryd.underlying3
  a3 := Tryd.isAgg3
  z3 := Tryd.sizeOf3
  v3 := Tryd.zeroValue3
  t4 := Tryd.underlying4
  a4 := Tryd.isAgg4
  z4 := Tryd.sizeOf4
  v4 := Tryd.zeroValue4
  t5 := Tryd.underlying5
  a5 := Tryd.isAgg5
  z5 := Tryd.sizeOf5
  v5 := Tryd.zeroValue5
  t9 := Tryd.underlying9
  a9 := Tryd.isAgg9
  z9 := Tryd.sizeOf9
  v9 := Tryd.zeroValue9
  t46 := Tryd.underlying58
  a46 := Tryd.isAgg58
  z46 := Tryd.sizeOf58
  v46 := Tryd.zeroValue58
  t51 := Tryd.underlying94
  a51 := Tryd.isAgg94
  z51 := Tryd.sizeOf94
  v51 := Tryd.zeroValue94
  t146 := Tryd.underlying102
  a146 := Tryd.isAgg102
  z146 := Tryd.sizeOf102
  v146 := Tryd.zeroValue102
  g1 := by kernel_rfl }
open Go.RowKit Go.Lib in
/-- strings.Index: "Index returns the index of the first instance of substr in s, or -1 if substr is not present in s.": AT A substr OF ONE BYTE c: IT RETURNS 'Lib.indexByte s c'; the world is as it was. (LAID: no walk: one application.) -/
theorem Tryd.strings_Index_one (s : ByteArray) (c : UInt8) (w : World) :
    Calls Tryd.prog 70 #[.string s, .string ⟨#[c]⟩] w fun e w' => e = .returned (.int .i64 (Lib.indexByte s.data.toList c)) ∧ w' = w := Any.strings_Index_one Tryd.lays143 s c w
def Tryd.lays138_ren : Go.Shelf.Ren := ⟨fun | 138 => 69 | 195 => 75 | 218 => 77 | 143 => 70 | 219 => 78 | 217 => 85 | 225 => 86 | 224 => 87 | 267 => 88 | 266 => 91 | 314 => 92 | n => n, fun | 9 => 9 | 3 => 3 | 4 => 4 | 5 => 5 | 0 => 0 | 46 => 58 | 146 => 102 | 51 => 94 | n => n, fun | 1 => 1 | n => n⟩
theorem Tryd.lays138 : Go.Proofs.Lays.n138 Tryd.prog Tryd.lays138_ren := {
  mixed := by kernel_rfl
  f138 := Tryd.func69.trans (congrArg some (by kernel_rfl))
  f143 := Tryd.func70.trans (congrArg some (by kernel_rfl))
  f195 := Tryd.func75.trans (congrArg some (by kernel_rfl))
  f217 := Tryd.func85.trans (congrArg some (by kernel_rfl))
  f218 := Tryd.func77.trans (congrArg some (by kernel_rfl))
  f219 := Tryd.func78.trans (congrArg some (by kernel_rfl))
  f224 := Tryd.func87.trans (congrArg some (by kernel_rfl))
  f225 := Tryd.func86.trans (congrArg some (by kernel_rfl))
  f266 := Tryd.func91.trans (congrArg some (by kernel_rfl))
  f267 := Tryd.func88.trans (congrArg some (by kernel_rfl))
  f314 := Tryd.func92.trans (congrArg some (by kernel_rfl))
  t0 := Tryd.underlying0
  a0 := Tryd.isAgg0
  z0 := Tryd.sizeOf0
  v0 := Tryd.zeroValue0
  t3 := Tryd.underlying3
  a3 := Tryd.isAgg3
  z3 := Tryd.sizeOf3
  v3 := Tryd.zeroValue3
  t4 := Tryd.underlying4
  a4 := Tryd.isAgg4
  z4 := Tryd.sizeOf4
  v4 := Tryd.zeroValue4
  t5 := Tryd.underlying5
  a5 := Tryd.isAgg5
  z5 := Tryd.sizeOf5
  v5 := Tryd.zeroValue5
  t9 := Tryd.underlying9
  a9 := Tryd.isAgg9
  z9 := Tryd.sizeOf9
  v9 := Tryd.zeroValue9
  t46 := Tryd.underlying58
  a46 := Tryd.isAgg58
  z46 := Tryd.sizeOf58
  v46 := Tryd.zeroValue58
  t51 := Tryd.underlying94
  a51 := Tryd.isAgg94
  z51 := Tryd.sizeOf94
  v51 := Tryd.zeroValue94
  t146 := Tryd.underlying102
  a146 := Tryd.isAgg102
  z146 := Tryd.sizeOf102
  v146 := Tryd.zeroValue102
  g1 := by kernel_rfl }
open Go.RowKit Go.Lib in
/-- strings.Count AT A substr OF ONE BYTE ('hp'): "Count counts the number of non-overlapping instances of substr in s.": IT RETURNS 'Lib.countByte s (that byte)'; the world is as it was. ✋ NO CONTRACT HERE YET at an empty substr (utf8.RuneCountInString) or at a longer one (a loop over strings.Index). (LAID: no walk: one application.) -/
theorem Tryd.strings_Count_one (s : ByteArray) (c : UInt8) (w : World) :
    Calls Tryd.prog 69 #[.string s, .string ⟨#[c]⟩] w fun e w' => e = .returned (.int .i64 (Lib.countByte s.data.toList c)) ∧ w' = w := Any.strings_Count_one Tryd.lays138 s c w
end Go.Proofs

/- The rules for the library's functions; strings.Split at one byte. -/
set_option linter.unusedVariables false
set_option linter.unusedSimpArgs false
set_option linter.unusedSectionVars false
set_option maxRecDepth 20000
namespace Go.Proofs.YtffgchcidkapjaaDoor
open Go.GAM Go.RowKit

/-- strings.Index and strings.Count at one byte: by the shelf's contracts. -/
instance xr1 : XR := ⟨fun f args h K =>
  (f = G_strings_Index.id ∧ ∃ (l : List UInt8) (c : UInt8), args = [.s l, .s [c]] ∧ K (.i .i64 (Lib.indexByte l c)) h) ∨
  (f = G_strings_Count.id ∧ ∃ (l : List UInt8) (c : UInt8), args = [.s l, .s [c]] ∧ K (.i .i64 (Lib.countByte l c : Nat)) h)⟩

theorem mixedOK : prog.follows .mixedOrders = true := by kernel_rfl
theorem sizeOK : prog.funcs.size ≤ yid0 := Nat.le_of_ble_eq_true (by kernel_rfl)
theorem okIx : bodyOK prog G_strings_Index.id = true := by kernel_rfl
theorem okCt : bodyOK prog G_strings_Count.id = true := by kernel_rfl

theorem one_str {μ : Mu} {v : Value} {c : UInt8} (h : VRel μ (.s [c]) v) : v = .string ⟨#[c]⟩ := by
  cases h with
  | s l x hx =>
    obtain ⟨d⟩ := x
    have : d = #[c] := by apply Array.ext'; simpa using hx
    rw [this]

theorem soundX : Sound prog X := by
  rintro w0 Fz μb f args h K (⟨rfl, l, c, rfl, hk⟩ | ⟨rfl, l, c, rfl, hk⟩) μ own w cargs hsb R hc
  · rw [if_pos (by decide)]
    obtain ⟨v1, _, rfl, hc1, h2⟩ : ∃ v1 vs, cargs = v1 :: vs ∧ VRel μ (.s l) v1 ∧ VRels μ [.s [c]] vs := by cases hc with | cons _ _ _ _ a b => exact ⟨_, _, rfl, a, b⟩
    cases hc1 with
    | s _ x hx =>
      cases h2 with
      | cons _ _ _ _ a b =>
        have := one_str a
        subst this
        cases b
        refine x_calls okIx R ((Tryd.strings_Index_one x c w).mono fun e w' ⟨he, hw⟩ => ⟨he, hw ▸ Below.refl _ _⟩) ?_ hk
        rw [hx]; exact .i _ _
  · rw [if_pos (by decide)]
    obtain ⟨v1, _, rfl, hc1, h2⟩ : ∃ v1 vs, cargs = v1 :: vs ∧ VRel μ (.s l) v1 ∧ VRels μ [.s [c]] vs := by cases hc with | cons _ _ _ _ a b => exact ⟨_, _, rfl, a, b⟩
    cases hc1 with
    | s _ x hx =>
      cases h2 with
      | cons _ _ _ _ a b =>
        have := one_str a
        subst this
        cases b
        refine x_calls okCt R ((Tryd.strings_Count_one x c w).mono fun e w' ⟨he, hw⟩ => ⟨he, hw ▸ Below.refl _ _⟩) ?_ hk
        rw [hx]; exact .i _ _

theorem ix_c {l : List UInt8} {c : UInt8} {h : AHeap} {K : AV → AHeap → Prop} (hk : K (.i .i64 (Lib.indexByte l c)) h) : C G_strings_Index.id [.s l, .s [c]] h K := acall_x (.inl ⟨rfl, l, c, rfl, hk⟩)
theorem ct_c {l : List UInt8} {c : UInt8} {h : AHeap} {K : AV → AHeap → Prop} (hk : K (.i .i64 (Lib.countByte l c : Nat)) h) : C G_strings_Count.id [.s l, .s [c]] h K := acall_x (.inr ⟨rfl, l, c, rfl, hk⟩)

def prep (a : List UInt8) : List (List UInt8) → List (List UInt8)
  | [] => [a]
  | b :: l => (a ++ b) :: l
def splitS (sp : UInt8) : List UInt8 → List (List UInt8)
  | [] => [[]]
  | c :: r => if c = sp then [] :: splitS sp r else prep [c] (splitS sp r)

section
variable {sp : UInt8}
theorem splitS_ne (sp : UInt8) (s : List UInt8) : splitS sp s ≠ [] := by
  cases s with
  | nil => simp [splitS]
  | cons c r =>
    unfold splitS
    split
    · simp
    · cases splitS sp r <;> simp [prep]
theorem prep_nil {l : List (List UInt8)} (h : l ≠ []) : prep [] l = l := by cases l with | nil => exact absurd rfl h | cons a l => rfl
theorem prep_prep (a b : List UInt8) (l : List (List UInt8)) : prep a (prep b l) = prep (a ++ b) l := by cases l <;> simp [prep]
theorem prep_length (a : List UInt8) {l : List (List UInt8)} (h : l ≠ []) : (prep a l).length = l.length := by cases l with
  | nil => exact absurd rfl h
  | cons b l => rfl

theorem split_len : ∀ s : List UInt8, (splitS sp s).length = Lib.countByte s sp + 1
  | [] => rfl
  | c :: r => by
    have := split_len r
    unfold Lib.countByte at this ⊢
    unfold splitS
    split
    · rename_i h; subst h; simp [this]
    · rename_i h
      rw [prep_length _ (splitS_ne sp r), this, List.count_cons_of_ne h]
theorem split_no : ∀ s : List UInt8, Lib.indexByte s sp < 0 → splitS sp s = [s]
  | [], _ => rfl
  | c :: r, h => by
    unfold Lib.indexByte at h
    split at h
    · omega
    · rename_i h1
      split at h
      · rename_i h2
        rw [splitS, if_neg (by simpa using h1), split_no r (by simp at h2; omega)]; rfl
      · have := Lib.indexByte_ge r sp
        rename_i h2
        simp at h2; omega
theorem split_at : ∀ (s : List UInt8) (m : Nat), Lib.indexByte s sp = (m : Int) → m < s.length ∧ splitS sp s = s.take m :: splitS sp (s.drop (m + 1))
  | [], m, h => by simp [Lib.indexByte] at h
  | c :: r, m, h => by
    unfold Lib.indexByte at h
    split at h
    · rename_i h1
      have : m = 0 := by omega
      subst this
      simp at h1
      subst h1
      exact ⟨by simp, by simp [splitS]⟩
    · rename_i h1
      split at h
      · omega
      · rename_i h2
        have := Lib.indexByte_ge r sp
        simp at h1 h2
        obtain ⟨m', hm'⟩ : ∃ m' : Nat, Lib.indexByte r sp = (m' : Int) := ⟨(Lib.indexByte r sp).toNat, by omega⟩
        have : m = m' + 1 := by omega
        subst this
        obtain ⟨h3, h4⟩ := split_at r m' hm'
        exact ⟨by simpa using h3, by rw [splitS, if_neg h1, h4]; rfl⟩

section
variable {s : List UInt8} {h0 : AHeap} {Q : AV → AHeap → Prop}

/-! ### strings.Split -/

theorem gs_p2 {rest : List UInt8} {done : List (List UInt8)} {v : AV} {h : AHeap} (hd : done.length ≤ 1000000) (A : NewA 1 h0 h v (done.map AV.s ++ List.replicate 1 (.s [])) (done.length + 1))
    (hq : ∀ v h', NewS h0 h' v ((done ++ [rest]).map .s) → Q v h') : G_strings_genSplit.p2 (kRet h0 Q) rest v (done.length : Nat) h := by
  refine G_strings_genSplit.i2 ?_
  simp only [G_strings_genSplit.t2]
  refine A.arr.store (by omega) rfl rfl rfl fun h' U A' => inc (by omega) ?_
  have e : (done.map AV.s ++ List.replicate 1 (AV.s [])).set done.length (AV.s rest) = (done ++ [rest]).map AV.s := by
    rw [List.set_append_right _ _ (by simp)]; simp
  rw [e] at A'
  have S := A'.stk.2
  have S' : NewS h0 h' v ((done ++ [rest]).map .s) := ⟨A.upd.trans U fun i hi hs => absurd (A.new i hs) (by omega), S, A.new⟩
  refine S'.cut (n := done.length + 1) (by simp) fun v' S2 F => .inl (hq v' h' ?_)
  rw [List.take_of_length_le (by simp)] at S2
  exact S2

theorem gs_p1 : ∀ (k : Nat) (rest : List UInt8) (done : List (List UInt8)) (v : AV) (h : AHeap), (splitS sp rest).length = k + 1 → done.length + k ≤ 1000000 → rest.length ≤ 100000 → NewA 1 h0 h v (done.map AV.s ++ List.replicate (k + 1) (.s [])) (done.length + (k + 1)) →
    (∀ v h', NewS h0 h' v ((done ++ splitS sp rest).map .s) → Q v h') → G_strings_genSplit.p1 (kRet h0 Q) rest [sp] 0 (done.length + k : Nat) v (done.length : Nat) h := by
  intro k
  induction k with
  | zero =>
    intro rest done v h hk hd hr A hq
    refine G_strings_genSplit.i1 ?_
    simp only [G_strings_genSplit.t1, G_strings_genSplit.j1, G_strings_genSplit.j2]
    have e : splitS sp rest = [rest] := by
      rcases Int.lt_or_le (Lib.indexByte rest sp) 0 with h1 | h1
      · exact split_no rest h1
      · obtain ⟨m, hm⟩ : ∃ m : Nat, Lib.indexByte rest sp = (m : Int) := ⟨(Lib.indexByte rest sp).toNat, by omega⟩
        obtain ⟨_, h2⟩ := split_at rest m hm
        rw [h2] at hk
        have := splitS_ne sp (rest.drop (m + 1))
        have : 0 < (splitS sp (rest.drop (m + 1))).length := List.length_pos_iff.2 this
        simp only [List.length_cons] at hk; omega
    rw [e] at hq
    exact bif_f (by simp) (gs_p2 (by omega) A hq)
  | succ k ih =>
    intro rest done v h hk hd hr A hq
    refine G_strings_genSplit.i1 ?_
    simp only [G_strings_genSplit.t1, G_strings_genSplit.j1, G_strings_genSplit.j2]
    refine bif_t (by simp; omega) (ix_c (st_asI64 ?_))
    have h1 : 0 ≤ Lib.indexByte rest sp := by
      rcases Int.lt_or_le (Lib.indexByte rest sp) 0 with h1 | h1
      · rw [split_no rest h1] at hk; simp at hk
      · exact h1
    obtain ⟨m, hm⟩ : ∃ m : Nat, Lib.indexByte rest sp = (m : Int) := ⟨(Lib.indexByte rest sp).toNat, by omega⟩
    obtain ⟨h2, h3⟩ := split_at rest m hm
    rw [hm]
    refine bif_f (by simp) (withI_is (n := (m : Int)) (by rw [wrap_i64 (by omega) (by omega)]; omega) (st_subs1 (by omega) ?_))
    refine A.arr.store (by omega) rfl rfl rfl fun h' U A' => ?_
    refine withI_is (n := ((m + 1 : Nat) : Int)) (by rw [wrap_i64 (by simp only [List.length_singleton]; omega) (by simp only [List.length_singleton]; omega)]; rfl) (st_subs (by omega) (inc (by omega) ?_))
    have e : (done.map AV.s ++ List.replicate (k + 1 + 1) (AV.s [])).set done.length (AV.s (rest.take m)) = (done ++ [rest.take m]).map AV.s ++ List.replicate (k + 1) (AV.s []) := by
      rw [List.set_append_right _ _ (by simp)]; simp [List.replicate_succ]
    rw [e] at A'
    have hl : (done ++ [rest.take m]).length = done.length + 1 := by simp
    have := ih (rest.drop (m + 1)) (done ++ [rest.take m]) v h' (by rw [h3] at hk; simpa using hk) (by rw [hl]; omega) (by simp; omega)
      ⟨A.upd.trans U fun i hi hs => absurd (A.new i hs) (by omega), by rw [hl]; rw [show done.length + 1 + (k + 1) = done.length + (k + 1 + 1) by omega]; exact A', A.new⟩
      (by rw [h3] at hq; simpa using hq)
    rw [hl, show done.length + 1 + k = done.length + (k + 1) by omega] at this
    exact this

theorem split_c {h : AHeap} (hs : s.length ≤ 100000) (hq : ∀ v h', NewS h h' v ((splitS sp s).map .s) → Q v h') : C G_strings_Split.id [.s s, .s [sp]] h Q := by
  refine G_strings_Split.call ?_
  simp only [G_strings_Split.t]
  have hc : Lib.countByte s sp ≤ s.length := List.count_le_length
  have hsl := split_len (sp := sp) s
  refine G_strings_genSplit.call ?_
  simp only [G_strings_genSplit.t, G_strings_genSplit.j0]
  refine bif_f rfl (bif_f rfl (bif_t rfl (ct_c (st_asI64 (inc (by omega) ?_)))))
  refine G_strings_genSplit.i0 ?_
  simp only [G_strings_genSplit.t0, G_strings_genSplit.j1]
  refine inc (by omega) ?_
  have hm : mmI false ((Lib.countByte s sp + 1 : Nat) : Int) ((s.length + 1 : Nat) : Int) = ((Lib.countByte s sp + 1 : Nat) : Int) := by
    unfold mmI
    simp only [cond_false]
    rw [if_neg (by omega)]
  rw [hm]
  refine st_make (by omega) (by omega) fun v h' A => ?_
  refine withI_is (n := ((Lib.countByte s sp : Nat) : Int)) (by rw [wrap_i64 (by omega) (by omega)]; omega) ?_
  have := gs_p1 (h0 := h) (Q := fun v1 h2 => kRet h Q v1 h2) (Lib.countByte s sp) s [] v h' hsl (by simp; omega) hs (by simpa using A) fun v h' S => .inl (hq v h' (by simpa using S))
  simpa using this


end
end
end Go.Proofs.YtffgchcidkapjaaDoor

/- DER values in memory; Same. -/
set_option linter.unusedVariables false
set_option linter.unusedSimpArgs false
set_option linter.unusedSectionVars false
set_option maxRecDepth 20000
namespace Go.GAM

theorem SArg.upd {sz : Nat} {M : Nat → Prop} {h h' : AHeap} {v : AV} {cs : List AV} {len : Nat} (R : SArg sz h v cs len) (U : Upd M h h') (hM : ∀ id, SlAt v id → id < h.length → ¬ M id) : SArg sz h' v cs len := by
  rcases R with R | R
  · exact .inl (R.upd U fun id hs => hM id hs (R.lt hs))
  · exact .inr R
theorem SArg.at {sz : Nat} {h : AHeap} {v : AV} {cs : List AV} {len : Nat} (R : SArg sz h v cs len) (hl : len ≠ 0) : ∃ id ver off cap b, v = .sl (some ⟨id, ver, off⟩) len cap ∧ RdAt sz h id ver off b cs len := by
  rcases R.rd hl with ⟨_, h0, _⟩ | ⟨id, ver, off, cap, b, h1, h2, h3, h4, h5, h6, h7⟩
  · exact absurd h0 hl
  · exact ⟨id, ver, off, cap, b, h1, h2, h3, h4, h5, h6, h7⟩
theorem st_elemN {sz : Nat} {h : AHeap} {id ver off : Nat} {b : ABlk} {cs : List AV} {len i : Nat} {r : List AV} {K : AV → Prop} (R : RdAt sz h id ver off b cs len) (hi : i < len) (hr : (cs.drop (i * sz)).take sz = r) (hk : K (.ag r)) : pLoadN sz (.p (some ⟨id, ver, off + i * sz⟩)) h K := by
  have h1 : (i + 1) * sz ≤ len * sz := Nat.mul_le_mul_right _ hi
  rw [Nat.add_mul] at h1
  have h2 := R.end_
  refine ⟨b, R.1, ⟨R.3, R.4, by simp only; omega⟩, ?_⟩
  have e : (b.cells.drop (off + i * sz)).take sz = r := by
    rw [← hr, ← R.cel, List.drop_take, List.drop_drop, List.take_take, Nat.min_eq_left (by omega)]
  simp only [e]
  exact hk
theorem rows_get {sz : Nat} : ∀ (rows : List (List AV)) (i : Nat) (r : List AV), (∀ r ∈ rows, r.length = sz) → rows[i]? = some r → (rows.flatten.drop (i * sz)).take sz = r
  | [], i, r, _, h => by simp at h
  | a :: rows, 0, r, h1, h => by
    simp at h; subst h
    have := h1 a (by simp)
    rw [List.flatten_cons, Nat.zero_mul, List.drop_zero, ← this, List.take_left']
    rfl
  | a :: rows, i + 1, r, h1, h => by
    have h2 := h1 a (by simp)
    have := rows_get rows i r (fun r hr => h1 r (by simp [hr])) (by simpa using h)
    rw [List.flatten_cons, Nat.add_mul, Nat.one_mul, List.drop_append, List.drop_eq_nil_of_le (by omega), List.nil_append, show i * sz + sz - a.length = i * sz by omega]
    exact this

end Go.GAM
namespace Go.Proofs.YtffgchcidkapjaaDoor
open Go.GAM Go.RowKit

inductive Der where
  | mk (c t : Int) (m : Bool) (s : List UInt8) (ks : List Der)

mutual
def Der.sz : Der → Nat
  | .mk _ _ _ _ ks => 1 + szs ks
def szs : List Der → Nat
  | [] => 0
  | k :: r => k.sz + szs r
end
theorem szs_mem : ∀ {ks : List Der} {k : Der}, k ∈ ks → k.sz ≤ szs ks
  | [], k, h => by cases h
  | a :: r, k, h => by
    unfold szs
    rcases List.mem_cons.1 h with rfl | h
    · omega
    · have := szs_mem h; omega
theorem szs_len : ∀ ks : List Der, ks.length ≤ szs ks
  | [] => by simp [szs]
  | k :: r => by
    have := szs_len r
    have : 0 < k.sz := by cases k; unfold Der.sz; omega
    simp only [szs, List.length_cons]; omega
theorem szs_pos (k : Der) : 0 < k.sz := by cases k; unfold Der.sz; omega

mutual
/-- Five cells are a DER value; its slices' blocks are among F. -/
inductive DV (h : AHeap) (F : Nat → Prop) : Der → List AV → Prop
  | mk {c t : Int} {m : Bool} {s : List UInt8} {ks : List Der} {v : AV} {rows : List (List AV)} (hks : DVs h F ks rows) (hv : SArg 5 h v rows.flatten rows.length) (hF : ∀ i, SlAt v i → F i ∧ i < h.length) (hc : v.cellOK = true) : DV h F (.mk c t m s ks) [.i .i64 c, .i .i64 t, .b m, .s s, v]
inductive DVs (h : AHeap) (F : Nat → Prop) : List Der → List (List AV) → Prop
  | nil : DVs h F [] []
  | cons {k : Der} {ks : List Der} {r : List AV} {rows : List (List AV)} (hk : DV h F k r) (hks : DVs h F ks rows) : DVs h F (k :: ks) (r :: rows)
end

theorem DV.len {h : AHeap} {F : Nat → Prop} {d : Der} {cs : List AV} (D : DV h F d cs) : cs.length = 5 := by cases D; rfl
theorem DVs.len5 {h : AHeap} {F : Nat → Prop} : ∀ {ks : List Der} {rows : List (List AV)}, DVs h F ks rows → ∀ r ∈ rows, r.length = 5
  | _, _, .nil, r, hr => by cases hr
  | _, _, .cons hk hks, r, hr => by
    rcases List.mem_cons.1 hr with rfl | h
    · exact hk.len
    · exact hks.len5 r h
theorem DVs.length {h : AHeap} {F : Nat → Prop} : ∀ {ks : List Der} {rows : List (List AV)}, DVs h F ks rows → ks.length = rows.length
  | _, _, .nil => rfl
  | _, _, .cons _ hks => by simp [hks.length]
theorem DVs.get {h : AHeap} {F : Nat → Prop} : ∀ {ks : List Der} {rows : List (List AV)} {i : Nat} {k : Der}, DVs h F ks rows → ks[i]? = some k → ∃ r, rows[i]? = some r ∧ DV h F k r
  | _, _, i, k, .nil, hi => by simp at hi
  | _, _, 0, k, .cons hk _, hi => by simp at hi; subst hi; exact ⟨_, rfl, hk⟩
  | _, _, i + 1, k, .cons _ hks, hi => by
    obtain ⟨r, h1, h2⟩ := hks.get (i := i) (by simpa using hi)
    exact ⟨r, by simpa using h1, h2⟩
theorem DVs.app {h : AHeap} {F : Nat → Prop} : ∀ {ks : List Der} {rows : List (List AV)} {k : Der} {r : List AV}, DVs h F ks rows → DV h F k r → DVs h F (ks ++ [k]) (rows ++ [r])
  | _, _, _, _, .nil, hk => .cons hk .nil
  | _, _, _, _, .cons h1 hks, hk => .cons h1 (hks.app hk)

/-- It stays where its blocks stay. -/
theorem DV.upd_n {M F F' : Nat → Prop} {h h' : AHeap} (U : Upd M h h') (hM : ∀ i, F i → i < h.length → ¬ M i ∧ F' i) : ∀ n, (∀ d cs, d.sz ≤ n → DV h F d cs → DV h' F' d cs) ∧ ∀ ks rows, szs ks ≤ n → DVs h F ks rows → DVs h' F' ks rows := by
  intro n
  induction n with
  | zero =>
    refine ⟨fun d cs hd => absurd hd (by have := szs_pos d; omega), fun ks rows hk D => ?_⟩
    cases D with
    | nil => exact .nil
    | cons h1 h2 => rename_i k ks r rows; have := szs_pos k; unfold szs at hk; omega
  | succ n ih =>
    have hV : ∀ d cs, d.sz ≤ n + 1 → DV h F d cs → DV h' F' d cs := by
      intro d cs hd D
      cases D with
      | mk hks hv hF hc =>
        unfold Der.sz at hd
        exact .mk (ih.2 _ _ (by omega) hks) (hv.upd U fun i hs hl => (hM i (hF i hs).1 hl).1) (fun i hs => ⟨(hM i (hF i hs).1 (hF i hs).2).2, Nat.lt_of_lt_of_le (hF i hs).2 U.1⟩) hc
    refine ⟨hV, fun ks rows => ?_⟩
    induction ks generalizing rows with
    | nil => intro _ D; cases D; exact .nil
    | cons k ks ihk =>
      intro hk D
      unfold szs at hk
      cases D with
      | cons h1 h2 => exact .cons (hV _ _ (by omega) h1) (ihk _ (by omega) h2)
theorem DV.upd {M F F' : Nat → Prop} {h h' : AHeap} {d : Der} {cs : List AV} (D : DV h F d cs) (U : Upd M h h') (hM : ∀ i, F i → i < h.length → ¬ M i ∧ F' i) : DV h' F' d cs := (DV.upd_n U hM d.sz).1 d cs (Nat.le_refl _) D
theorem DVs.upd {M F F' : Nat → Prop} {h h' : AHeap} {ks : List Der} {rows : List (List AV)} (D : DVs h F ks rows) (U : Upd M h h') (hM : ∀ i, F i → i < h.length → ¬ M i ∧ F' i) : DVs h' F' ks rows := (DV.upd_n U hM (szs ks)).2 ks rows (Nat.le_refl _) D
theorem DV.ext {F : Nat → Prop} {h h' : AHeap} {d : Der} {cs : List AV} (D : DV h F d cs) (U : Upd (fun _ => False) h h') : DV h' F d cs := D.upd U fun i hi _ => ⟨fun h => h, hi⟩

def z5 : List AV := [.i .i64 0, .i .i64 0, .b false, .s [], .sl none 0 none]
def Der.zero : Der := .mk 0 0 false [] []
theorem DV.zero (h : AHeap) (F : Nat → Prop) : DV h F .zero z5 := .mk .nil (.inl (.inl ⟨rfl, rfl, rfl⟩)) (fun i hi => hi.elim) rfl
/-- A value without kids. -/
theorem DV.leaf (h : AHeap) (F : Nat → Prop) (c t : Int) (m : Bool) (s : List UInt8) : DV h F (.mk c t m s []) [.i .i64 c, .i .i64 t, .b m, .s s, .sl none 0 none] := .mk .nil (.inl (.inl ⟨rfl, rfl, rfl⟩)) (fun i hi => hi.elim) rfl

section
variable {h0 : AHeap} {Q : AV → AHeap → Prop}

/-! ### Same, at equal values -/

theorem same_n : ∀ n, n ≤ 1000000 → ∀ (d : Der) (c1 c2 : List AV) (F1 F2 : Nat → Prop) (h : AHeap) (Q : AV → AHeap → Prop), d.sz ≤ n → DV h F1 d c1 → DV h F2 d c2 → Q (.b true) h → C G_ref33_Same.id [.ag c1, .ag c2] h Q := by
  intro n
  induction n with
  | zero => intro _ d c1 c2 F1 F2 h Q hd; have := szs_pos d; omega
  | succ n ih =>
    intro hn6 d c1 c2 F1 F2 h Q hd D1 D2 hq
    cases D1 with
    | @mk c t m s ks v1 rows1 ks1 sv1 f1 o1 =>
    cases D2 with
    | @mk _ _ _ _ _ v2 rows2 ks2 sv2 f2 o2 =>
    refine G_ref33_Same.call ?_
    simp only [G_ref33_Same.t, G_ref33_Same.j0]
    refine st_box rfl fun h1 hl1 U1 R1 => st_box rfl fun h3 hl3 U3 R3 => ?_
    have R1' := R1.upd U3 fun h => h
    have U : Upd (fun _ => False) h h3 := U1.trans U3 fun _ _ h => h
    have hlen1 := ks1.length
    have hlen2 := ks2.length
    have hkl : ks.length ≤ 1000000 := by
      have := szs_len ks
      unfold Der.sz at hd; omega
    have hks : ∀ k ∈ ks, k.sz ≤ n := fun k hk => by
      have := szs_mem hk
      unfold Der.sz at hd; omega
    have S1 := sv1.upd U fun _ _ _ h => h
    have S2 := sv2.upd U fun _ _ _ h => h
    refine st_fld (st_load R1' rfl rfl (st_asI (st_fld (st_load R3 rfl rfl (st_asI ?_)))))
    refine bif_f (by simp) ?_
    refine st_fld (st_load R1' rfl rfl (st_asI (st_fld (st_load R3 rfl rfl (st_asI ?_)))))
    refine bif_f (by simp) ?_
    refine st_fld (st_load R1' rfl rfl (st_asB (st_fld (st_load R3 rfl rfl (st_asB ?_)))))
    refine bif_f (by simp) ?_
    refine st_fld (st_load R1' rfl rfl (st_asS (st_fld (st_load R3 rfl rfl (st_asS ?_)))))
    refine bif_f (by simp) ?_
    refine st_fld (st_load R1' rfl rfl (S1.len (st_fld (st_load R3 rfl rfl (S2.len ?_)))))
    rw [← hlen1, ← hlen2]
    refine G_ref33_Same.i0 ?_
    simp only [G_ref33_Same.t0, G_ref33_Same.j1]
    refine bif_f (by simp) ?_
    have loop : ∀ (r : List Der) (i : Nat), ks.drop i = r → i ≤ ks.length → G_ref33_Same.p1 (kRet h Q) (.p (some ⟨h.length, 5, 0⟩)) (.p (some ⟨h1.length, 5, 0⟩)) i h3 := by
      intro r
      induction r with
      | nil =>
        intro i hr hi
        have hle := drop_end hr
        refine G_ref33_Same.i1 ?_
        simp only [G_ref33_Same.t1]
        refine st_fld (st_load R1' rfl rfl (S1.len ?_))
        exact bif_f (by simp; omega) (kRet_pure rfl U.ext hq)
      | cons k r ihr =>
        intro i hr hi
        have hlt := drop_lt hr
        have hn := drop_next hr
        have hki := at_of_drop hr
        obtain ⟨r1, g1, e1⟩ := ks1.get hki
        obtain ⟨r2, g2, e2⟩ := ks2.get hki
        obtain ⟨id1, ver1, off1, cap1, b1, rfl, A1⟩ := S1.at (by omega)
        obtain ⟨id2, ver2, off2, cap2, b2, rfl, A2⟩ := S2.at (by omega)
        have q1 := rows_get rows1 i r1 ks1.len5 g1
        have q2 := rows_get rows2 i r2 ks2.len5 g2
        refine G_ref33_Same.i1 ?_
        simp only [G_ref33_Same.t1, G_ref33_Same.j1]
        refine st_fld (st_load R1' rfl rfl (S1.len (bif_t (by simp; omega) ?_)))
        refine st_fld (st_load R1' rfl rfl (st_idx A1 (by omega) (st_elemN A1 (by omega) q1 ?_)))
        refine st_fld (st_load R3 rfl rfl (st_idx A2 (by omega) (st_elemN A2 (by omega) q2 ?_)))
        refine ih (by omega) k r1 r2 F1 F2 h3 _ (hks k (List.mem_of_getElem? hki)) (e1.ext U) (e2.ext U) (st_asB ?_)
        refine st_idx A2 (by omega) ⟨rfl, st_load R3 rfl rfl ⟨rfl, st_idx A1 (by omega) ⟨rfl, st_load R1' rfl rfl ⟨rfl, ?_⟩⟩⟩⟩
        exact bif_f rfl (inc (by omega) (ihr (i + 1) hn (by omega)))
    exact loop ks 0 rfl (by omega)
theorem same_c {d : Der} {c1 c2 : List AV} {F1 F2 : Nat → Prop} {h : AHeap} (hsz : d.sz ≤ 1000000) (D1 : DV h F1 d c1) (D2 : DV h F2 d c2) (hq : Q (.b true) h) : C G_ref33_Same.id [.ag c1, .ag c2] h Q :=
  same_n d.sz hsz d c1 c2 F1 F2 h Q (Nat.le_refl _) D1 D2 hq

end
end Go.Proofs.YtffgchcidkapjaaDoor

/- Lengths: the program's and the reference's. -/
set_option linter.unusedVariables false
set_option linter.unusedSimpArgs false
set_option linter.unusedSectionVars false
set_option maxRecDepth 20000
namespace Go.Proofs.YtffgchcidkapjaaDoor
open Go.GAM Go.RowKit

def numS (l : List UInt8) : Nat := l.foldl (fun n c => n * 256 + c.toNat) 0
theorem numS_snoc (l : List UInt8) (c : UInt8) : numS (l ++ [c]) = numS l * 256 + c.toNat := by simp [numS]
theorem numS_bd (l : List UInt8) : numS l < 256 ^ l.length := by
  have : ∀ n (l : List UInt8), l.length = n → numS l < 256 ^ n := by
    intro n
    induction n with
    | zero => intro l hl; rw [List.eq_nil_of_length_eq_zero hl]; decide
    | succ n ih =>
      intro l hl
      have hne : l ≠ [] := fun h => by rw [h] at hl; simp at hl
      rw [← List.dropLast_concat_getLast hne, numS_snoc]
      have h1 := ih l.dropLast (by rw [List.length_dropLast]; omega)
      have h2 := (l.getLast hne).toNat_lt
      rw [Nat.pow_succ]
      omega
  exact this _ l rfl
theorem numS_bd3 {l : List UInt8} (h : l.length ≤ 3) : numS l < 16777216 := by
  have h1 := numS_bd l
  have h2 : 256 ^ l.length ≤ 256 ^ 3 := Nat.pow_le_pow_right (by omega) h
  omega

def lenS : List UInt8 → Except Int (Nat × List UInt8)
  | [] => .error 1
  | c :: r => if c.toNat < 128 then .ok (c.toNat, r) else
    if c.toNat - 128 < 1 ∨ 3 < c.toNat - 128 then .error 2 else
    if r.length < c.toNat - 128 then .error 1 else
    if numS (r.take (c.toNat - 128)) < 128 ∨ numS (r.take (c.toNat - 128)) < 2 ^ (8 * (c.toNat - 128 - 1)) then .error 2 else .ok (numS (r.take (c.toNat - 128)), r.drop (c.toNat - 128))

theorem lenS_short {s r : List UInt8} {n : Nat} (h : lenS s = .ok (n, r)) : r.length < s.length ∧ n < 16777216 := by
  cases s with
  | nil => cases h
  | cons c s =>
    have hc := c.toNat_lt
    rw [lenS] at h
    split at h
    · cases h; exact ⟨by simp, by omega⟩
    · split at h
      · cases h
      · split at h
        · cases h
        · split at h
          · cases h
          · cases h
            exact ⟨by simp only [List.length_drop, List.length_cons]; omega, numS_bd3 (by rw [List.length_take]; omega)⟩

/-- What the reader of a length hands back. -/
def lenR : Except Int (Nat × List UInt8) → AV
  | .error e => .tu [.i .i64 0, .s [], .i .i64 e]
  | .ok (n, r) => .tu [.i .i64 (n : Int), .s r, .i .i64 0]

section
variable {s : List UInt8} {h0 : AHeap} {Q : AV → AHeap → Prop}

theorem length_p1 {k : Nat} {h : AHeap} (hk1 : 1 ≤ k) (hk3 : k ≤ 3) (hkl : k ≤ s.length) (hs : s.length ≤ 100000)
    (hq : Q (lenR (if numS (s.take k) < 128 ∨ numS (s.take k) < 2 ^ (8 * (k - 1)) then .error 2 else .ok (numS (s.take k), s.drop k))) h) :
    ∀ m i, i + m = k → G_der_length.p1 (kRet h Q) s (numS (s.take i) : Nat) k k i h := by
  intro m
  induction m with
  | zero =>
    intro i hi
    have : i = k := by omega
    subst this
    have hb := numS_bd3 (l := s.take i) (by simp; omega)
    refine G_der_length.i1 ?_
    simp only [G_der_length.t1, G_der_length.j2]
    refine bif_f (by simp) ?_
    have fin : ∀ b, b = decide (numS (s.take i) < 128 ∨ numS (s.take i) < 2 ^ (8 * (i - 1))) → G_der_length.p2 (kRet h Q) s (numS (s.take i) : Nat) i b h := by
      intro b hb2
      refine G_der_length.i2 ?_
      simp only [G_der_length.t2]
      refine bif_both (fun e => ?_) fun e => st_subs (by omega) ?_
      · subst e
        rw [if_pos (by simpa using hb2.symm)] at hq
        exact .inl hq
      · subst e
        rw [if_neg (by simpa using hb2.symm)] at hq
        exact .inl hq
    refine bif_both (fun e => fin _ ?_) fun e => ?_
    · have : numS (s.take i) < 128 := by simp only [decide_eq_true_eq] at e; omega
      simp [this]
    · have h128 : ¬ numS (s.take i) < 128 := by simp only [decide_eq_false_iff_not] at e; omega
      refine withI_is (n := ((i - 1 : Nat) : Int)) (by rw [wrap_i64 (by omega) (by omega)]; omega) ?_
      refine withI_is (n := ((8 * (i - 1) : Nat) : Int)) (by rw [wrap_i64 (by omega) (by omega)]; omega) ?_
      refine st_shr (k := .i64) (by show 8 * (i - 1) ≤ 64; omega) (fin _ ?_)
      rw [decide_eq_decide]
      have hp : 0 < 2 ^ (8 * (i - 1)) := Nat.two_pow_pos _
      constructor
      · intro h
        have h' : numS (s.take i) / 2 ^ (8 * (i - 1)) = 0 := by
          generalize numS (s.take i) / 2 ^ (8 * (i - 1)) = y at h
          omega
        rcases Nat.div_eq_zero_iff.1 h' with h | h
        · omega
        · exact .inr h
      · intro h
        rw [Nat.div_eq_of_lt (h.resolve_left h128)]; rfl
  | succ m ih =>
    intro i hi
    obtain ⟨c, hc⟩ : ∃ c, s[i]? = some c := ⟨_, List.getElem?_eq_getElem (by omega)⟩
    have hcl := c.toNat_lt
    have hb := numS_bd (s.take i)
    rw [List.length_take, Nat.min_eq_left (by omega)] at hb
    have hb2 : 256 ^ i ≤ 256 ^ 2 := Nat.pow_le_pow_right (by omega) (by omega)
    refine G_der_length.i1 ?_
    simp only [G_der_length.t1, G_der_length.j1]
    refine bif_t (by simp; omega) ?_
    refine st_shl (b := 8) (by omega) (by omega) (idxStr hc ?_)
    refine withI_is (n := ((numS (s.take (i + 1)) : Nat) : Int)) ?_ (inc (by omega) (ih (i + 1) (by omega)))
    rw [take_snoc hc, numS_snoc, wrap_i64 (by omega) (by omega), bits_or (by omega) (by omega), Nat.mul_comm (numS _) (2 ^ 8), ← Nat.two_pow_add_eq_or_of_lt (show c.toNat < 2 ^ 8 by omega), Nat.mul_comm]

theorem length_c {h : AHeap} (hs : s.length ≤ 100000) (hq : Q (lenR (lenS s)) h) : C G_der_length.id [.s s] h Q := by
  refine G_der_length.call ?_
  simp only [G_der_length.t, G_der_length.j0]
  cases s with
  | nil => exact bif_t rfl (.inl hq)
  | cons c r =>
    have hc := c.toNat_lt
    rw [lenS] at hq
    refine bif_f (by simp) (st_at (i := 0) rfl (st_subs (lo := 1) (by simp) ?_))
    rw [wrap_i64 (by omega) (by omega)]
    refine bif_both (fun e => ?_) fun e => ?_
    · rw [if_pos (by simp only [decide_eq_true_eq] at e; omega)] at hq
      exact .inl hq
    · have h128 : ¬ c.toNat < 128 := by simp only [decide_eq_false_iff_not] at e; omega
      rw [if_neg h128] at hq
      refine withI_is (n := ((c.toNat - 128 : Nat) : Int)) (by rw [wrap_i64 (by omega) (by omega)]; omega) ?_
      generalize hk : c.toNat - 128 = k at hq
      have p0 : ∀ b, b = decide (k < 1 ∨ 3 < k) → G_der_length.p0 (kRet h Q) r k b h := by
        intro b hb
        refine G_der_length.i0 ?_
        simp only [G_der_length.t0, G_der_length.j1]
        refine bif_both (fun e => ?_) fun e => ?_
        · subst e
          rw [if_pos (by simpa using hb.symm)] at hq
          exact .inl hq
        · subst e
          have hk13 : ¬ (k < 1 ∨ 3 < k) := by simpa using hb.symm
          rw [if_neg hk13] at hq
          refine bif_both (fun e => ?_) fun e => ?_
          · rw [if_pos (by simp only [decide_eq_true_eq] at e; omega)] at hq
            exact .inl hq
          · have hkr : ¬ r.length < k := by simp only [decide_eq_false_iff_not] at e; omega
            rw [if_neg hkr] at hq
            exact length_p1 (by omega) (by omega) (by omega) (by simp at hs; omega) hq k 0 (by omega)
      refine bif_both (fun e => p0 _ ?_) fun e => p0 _ ?_
      · have : k < 1 := by simp only [decide_eq_true_eq] at e; omega
        simp [this]
      · have : ¬ k < 1 := by simp only [decide_eq_false_iff_not] at e; omega
        rw [decide_eq_decide]; omega

/-! ### the reference's -/

theorem sub_at {S : List UInt8} {e a : Nat} {c : UInt8} {r : List UInt8} (h : (S.take e).drop a = c :: r) : S[a]? = some c ∧ a < e ∧ (S.take e).drop (a + 1) = r := by
  have h1 := drop_lt h
  rw [List.length_take] at h1
  have h2 := at_of_drop h
  rw [List.getElem?_take_of_lt (by omega)] at h2
  exact ⟨h2, by omega, drop_next h⟩

theorem size_p1 {S : List UInt8} {id at' N k : Nat} {h : AHeap} {K : AV → AHeap → Prop} (hS : S.length ≤ 100000) (hk1 : 1 ≤ k) (hk3 : k ≤ 3) (hkl : at' + k ≤ S.length) (R : RecAt h id [.s S, .i .i64 (at' : Int), .i .i64 (N : Int)])
    (hq : ∀ h', Upd (· = id) h h' → h'.length = h.length → RecAt h' id [.s S, .i .i64 ((at' + k : Nat) : Int), .i .i64 (N : Int)] →
      K (if numS ((S.drop at').take k) < 128 ∨ numS ((S.drop at').take k) < 2 ^ (8 * (k - 1)) then .tu [.i .i64 0, .i .i64 2] else .tu [.i .i64 (numS ((S.drop at').take k) : Nat), .i .i64 0]) h') :
    ∀ m i, i + m = k → G_ref33_Scan_size.p1 (kRet h0 K) (.p (some ⟨id, 3, 0⟩)) k (numS ((S.drop at').take i) : Nat) i h := by
  intro m
  induction m with
  | zero =>
    intro i hi
    have : i = k := by omega
    subst this
    have hb := numS_bd3 (l := (S.drop at').take i) (by simp; omega)
    refine G_ref33_Scan_size.i1 ?_
    simp only [G_ref33_Scan_size.t1, G_ref33_Scan_size.j2]
    refine bif_f (by simp) (st_nil (st_fld (st_load R rfl rfl (st_asI ?_))))
    refine withI_is (n := ((at' + i : Nat) : Int)) (by rw [wrap_i64 (by omega) (by omega)]; omega) (st_nil (st_fld (st_store R rfl (by simp) rfl rfl rfl fun h' hl U R' => ?_)))
    have hq := hq h' U hl R'
    have fin : ∀ b, b = decide (numS ((S.drop at').take i) < 128 ∨ numS ((S.drop at').take i) < 2 ^ (8 * (i - 1))) → G_ref33_Scan_size.p2 (kRet h0 K) (numS ((S.drop at').take i) : Nat) b h' := by
      intro b hb2
      refine G_ref33_Scan_size.i2 ?_
      simp only [G_ref33_Scan_size.t2]
      refine bif_both (fun e => ?_) fun e => ?_
      · subst e
        rw [if_pos (by simpa using hb2.symm)] at hq
        exact .inl hq
      · subst e
        rw [if_neg (by simpa using hb2.symm)] at hq
        exact .inl hq
    refine bif_both (fun e => fin _ ?_) fun e => ?_
    · have : numS ((S.drop at').take i) < 128 := by simp only [decide_eq_true_eq] at e; omega
      simp [this]
    · have h128 : ¬ numS ((S.drop at').take i) < 128 := by simp only [decide_eq_false_iff_not] at e; omega
      refine bif_both (fun e => ?_) fun e => fin _ ?_
      · refine withI_is (n := ((i - 1 : Nat) : Int)) (by rw [wrap_i64 (by omega) (by omega)]; omega) ?_
        refine withI_is (n := ((8 * (i - 1) : Nat) : Int)) (by rw [wrap_i64 (by omega) (by omega)]; omega) ?_
        rw [show IntKind.wrap .u64 ((8 * (i - 1) : Nat) : Int) = ((8 * (i - 1) : Nat) : Int) from wrap_u64 (by omega) (by omega)]
        have hp : 2 ^ (8 * (i - 1)) ≤ 2 ^ 16 := Nat.pow_le_pow_right (by omega) (by omega)
        refine st_shl (a := 1) (b := 8 * (i - 1)) (by omega) (by omega) (fin _ ?_)
        rw [decide_eq_decide, Nat.one_mul]
        generalize 2 ^ (8 * (i - 1)) = y
        omega
      · have : i = 1 := by simp only [decide_eq_false_iff_not] at e; omega
        subst this
        simp; omega
  | succ m ih =>
    intro i hi
    obtain ⟨c, hc⟩ : ∃ c, S[at' + i]? = some c := ⟨_, List.getElem?_eq_getElem (by omega)⟩
    have hc' : (S.drop at')[i]? = some c := by rw [List.getElem?_drop]; exact hc
    have hcl := c.toNat_lt
    have hb := numS_bd ((S.drop at').take i)
    rw [List.length_take, List.length_drop, Nat.min_eq_left (by omega)] at hb
    have hb2 : 256 ^ i ≤ 256 ^ 2 := Nat.pow_le_pow_right (by omega) (by omega)
    refine G_ref33_Scan_size.i1 ?_
    simp only [G_ref33_Scan_size.t1, G_ref33_Scan_size.j1]
    refine bif_t (by simp; omega) ?_
    refine st_shl (b := 8) (by omega) (by omega) (st_nil (st_fld (st_load R rfl rfl (st_asS (st_nil (st_fld (st_load R rfl rfl (st_asI ?_))))))))
    refine withI_is (n := ((at' + i : Nat) : Int)) (by rw [wrap_i64 (by omega) (by omega)]; omega) (idxStr hc ?_)
    refine withI_is (n := ((numS ((S.drop at').take (i + 1)) : Nat) : Int)) ?_ (inc (by omega) (ih (i + 1) (by omega)))
    rw [take_snoc hc', numS_snoc, wrap_i64 (by omega) (by omega), bits_or (by omega) (by omega), Nat.mul_comm (numS _) (2 ^ 8), ← Nat.two_pow_add_eq_or_of_lt (show c.toNat < 2 ^ 8 by omega), Nat.mul_comm]

/-- size: the reader's place moves behind the length. -/
theorem size_c {S : List UInt8} {id a N e : Nat} {h : AHeap} {K : AV → AHeap → Prop} (hS : S.length ≤ 100000) (he : e ≤ S.length) (hae : a ≤ e) (R : RecAt h id [.s S, .i .i64 (a : Int), .i .i64 (N : Int)])
    (hq : match lenS ((S.take e).drop a) with
      | .error x => ∀ h', Upd (· = id) h h' → h'.length = h.length → K (.tu [.i .i64 0, .i .i64 x]) h'
      | .ok (n, r) => ∀ h', Upd (· = id) h h' → h'.length = h.length → RecAt h' id [.s S, .i .i64 ((e - r.length : Nat) : Int), .i .i64 (N : Int)] → K (.tu [.i .i64 (n : Int), .i .i64 0]) h') :
    C G_ref33_Scan_size.id [.p (some ⟨id, 3, 0⟩), .i .i64 (e : Int)] h K := by
  refine G_ref33_Scan_size.call ?_
  simp only [G_ref33_Scan_size.t, G_ref33_Scan_size.j0]
  refine st_nil (st_fld (st_load R rfl rfl (st_asI ?_)))
  have hlen : ((S.take e).drop a).length = e - a := by simp; omega
  cases hs : (S.take e).drop a with
  | nil =>
    rw [hs] at hq hlen
    simp at hlen
    exact bif_t (by simp; omega) (.inl (hq h (Upd.refl _ _) rfl))
  | cons c r =>
    rw [hs] at hq hlen
    obtain ⟨g1, g2, g3⟩ := sub_at hs
    have hc := c.toNat_lt
    simp only [List.length_cons] at hlen
    rw [lenS] at hq
    refine bif_f (by simp; omega) (st_nil (st_fld (st_load R rfl rfl (st_asS (st_nil (st_fld (st_load R rfl rfl (st_asI (idxStr g1 ?_)))))))))
    refine st_nil (st_fld (st_load R rfl rfl (st_asI (inc (by omega) (st_nil (st_fld (st_store R rfl (by simp) rfl rfl rfl fun h1 hl1 U1 R1 => ?_)))))))
    have R1 : RecAt h1 id [.s S, .i .i64 ((a + 1 : Nat) : Int), .i .i64 (N : Int)] := R1
    rw [wrap_i64 (by omega) (by omega)]
    refine bif_both (fun e1 => ?_) fun e1 => ?_
    · rw [if_pos (by simp only [decide_eq_true_eq] at e1; omega)] at hq
      refine .inl (hq h1 U1 hl1 ?_)
      rw [show e - r.length = a + 1 by omega]; exact R1
    · have h128 : ¬ c.toNat < 128 := by simp only [decide_eq_false_iff_not] at e1; omega
      rw [if_neg h128] at hq
      refine withI_is (n := ((c.toNat - 128 : Nat) : Int)) (by rw [wrap_i64 (by omega) (by omega)]; omega) ?_
      generalize hk : c.toNat - 128 = k at hq
      have p0 : ∀ b, b = decide (k < 1 ∨ 3 < k) → G_ref33_Scan_size.p0 (kRet h K) (.p (some ⟨id, 3, 0⟩)) e k b h1 := by
        intro b hb
        refine G_ref33_Scan_size.i0 ?_
        simp only [G_ref33_Scan_size.t0, G_ref33_Scan_size.j1]
        refine bif_both (fun e2 => ?_) fun e2 => ?_
        · subst e2
          rw [if_pos (by simpa using hb.symm)] at hq
          exact .inl (hq h1 U1 hl1)
        · subst e2
          have hk13 : ¬ (k < 1 ∨ 3 < k) := by simpa using hb.symm
          rw [if_neg hk13] at hq
          refine st_nil (st_fld (st_load R1 rfl rfl (st_asI ?_)))
          refine withI_is (n := ((e - (a + 1) : Nat) : Int)) (by rw [wrap_i64 (by omega) (by omega)]; omega) ?_
          refine bif_both (fun e2 => ?_) fun e2 => ?_
          · rw [if_pos (by simp only [decide_eq_true_eq] at e2; omega)] at hq
            exact .inl (hq h1 U1 hl1)
          · have hkr : ¬ r.length < k := by simp only [decide_eq_false_iff_not] at e2; omega
            rw [if_neg hkr] at hq
            have er : r.take k = (S.drop (a + 1)).take k := by
              rw [← g3, List.drop_take, List.take_take, Nat.min_eq_left (by omega)]
            have := size_p1 (h0 := h) (K := K) (id := id) (at' := a + 1) (N := N) (k := k) hS (by omega) (by omega) (by omega) R1 (fun h2 U2 hl2 R2 => by
              rw [er] at hq
              split
              · rename_i hc; rw [if_pos hc] at hq; exact hq h2 (U1.trans U2 fun _ _ h => h) (by omega)
              · rename_i hc; rw [if_neg hc] at hq
                refine hq h2 (U1.trans U2 fun _ _ h => h) (by omega) ?_
                rw [List.length_drop, show e - (r.length - k) = a + 1 + k by omega]; exact R2) k 0 (by omega)
            exact this
      refine bif_both (fun e => p0 _ ?_) fun e => p0 _ ?_
      · have : k < 1 := by simp only [decide_eq_true_eq] at e; omega
        simp [this]
      · have : ¬ k < 1 := by simp only [decide_eq_false_iff_not] at e; omega
        rw [decide_eq_decide]; omega

end
end Go.Proofs.YtffgchcidkapjaaDoor

/- Reading values: Decode, the program's and the reference's. -/
set_option linter.unusedVariables false
set_option linter.unusedSimpArgs false
set_option linter.unusedSectionVars false
set_option maxRecDepth 20000
namespace Go.Proofs.YtffgchcidkapjaaDoor
open Go.GAM Go.RowKit

mutual
/-- A value at a level, n values read so far; f bounds the calls. -/
def decV : Nat → Nat → Nat → List UInt8 → Except Int (Der × List UInt8 × Nat)
  | 0, _, _, _ => .error 0
  | f + 1, lvl, n, s => match s with
    | [] => .error 1
    | c :: r => if c.toNat % 32 = 31 then .error 2 else if 24 < lvl then .error 9 else if 256 < n + 1 then .error 3 else
      match lenS r with
      | .error e => .error e
      | .ok (k, t) => if t.length < k then .error 1 else
        if c.toNat / 32 % 2 = 0 then .ok (.mk (c.toNat / 64 : Nat) (c.toNat % 32 : Nat) false (t.take k) [], t.drop k, n + 1) else
        match decK f lvl (n + 1) (t.take k) with
        | .error e => .error e
        | .ok (ks, n') => .ok (.mk (c.toNat / 64 : Nat) (c.toNat % 32 : Nat) true [] ks, t.drop k, n')
def decK : Nat → Nat → Nat → List UInt8 → Except Int (List Der × Nat)
  | 0, _, _, _ => .error 0
  | f + 1, lvl, n, s => match s with
    | [] => .ok ([], n)
    | c :: r => match decV f (lvl + 1) n (c :: r) with
      | .error e => .error e
      | .ok (d, t, n') => match decK f lvl n' t with
        | .error e => .error e
        | .ok (ks, n'') => .ok (d :: ks, n'')
end
def decS (s : List UInt8) : Except Int Der :=
  if 65535 < s.length then .error 3 else match decV (2 * s.length + 1) 1 0 s with
    | .error e => .error e
    | .ok (d, r, _) => if r = [] then .ok d else .error 2

theorem dec_short : ∀ f, (∀ lvl n s d r n', decV f lvl n s = .ok (d, r, n') → r.length < s.length ∧ n' ≤ 256 ∧ d.sz + r.length ≤ s.length) ∧ (∀ lvl n s ks n', decK f lvl n s = .ok (ks, n') → (n' ≤ n ∨ n' ≤ 256) ∧ szs ks ≤ s.length) := by
  intro f
  induction f with
  | zero =>
    refine ⟨fun lvl n s d r n' h => ?_, fun lvl n s ks n' h => ?_⟩
    · unfold decV at h; cases h
    · unfold decK at h; cases h
  | succ f ih =>
    refine ⟨fun lvl n s d r n' h => ?_, fun lvl n s ks n' h => ?_⟩
    · unfold decV at h
      cases s with
      | nil => cases h
      | cons c s =>
        simp only at h
        split at h
        · cases h
        split at h
        · cases h
        split at h
        · cases h
        split at h
        · cases h
        · rename_i k t hl
          have hl := lenS_short hl
          split at h
          · cases h
          · split at h
            · cases h
              refine ⟨by simp only [List.length_drop, List.length_cons]; omega, by omega, ?_⟩
              simp only [Der.sz, szs, List.length_drop, List.length_cons]; omega
            · split at h
              · cases h
              · rename_i ks n2 hk
                cases h
                have := ih.2 _ _ _ _ _ hk
                have h2 : (t.take k).length = k := by rw [List.length_take]; omega
                refine ⟨by simp only [List.length_drop, List.length_cons]; omega, by omega, ?_⟩
                simp only [Der.sz, List.length_cons, List.length_drop]; omega
    · unfold decK at h
      cases s with
      | nil => cases h; simp [szs]
      | cons c s =>
        simp only at h
        split at h
        · cases h
        · rename_i d t n2 hv
          have hv := ih.1 _ _ _ _ _ _ hv
          split at h
          · cases h
          · rename_i ks2 n3 hk
            cases h
            have hk := ih.2 _ _ _ _ _ hk
            refine ⟨by omega, ?_⟩
            simp only [szs]; omega

theorem lenS_err {s : List UInt8} {e : Int} (h : lenS s = .error e) : e ≠ 0 := by
  cases s with
  | nil => cases h; decide
  | cons c r =>
    rw [lenS] at h
    split at h
    · cases h
    · split at h
      · cases h; decide
      · split at h
        · cases h; decide
        · split at h
          · cases h; decide
          · cases h
theorem dec_err : ∀ f, (∀ lvl n s e, 2 * s.length + 1 ≤ f → decV f lvl n s = .error e → e ≠ 0) ∧ (∀ lvl n s e, 2 * s.length + 2 ≤ f → decK f lvl n s = .error e → e ≠ 0) := by
  intro f
  induction f with
  | zero => exact ⟨fun lvl n s e h => by omega, fun lvl n s e h => by omega⟩
  | succ f ih =>
    refine ⟨fun lvl n s e hf h => ?_, fun lvl n s e hf h => ?_⟩
    · unfold decV at h
      cases s with
      | nil => cases h; decide
      | cons c s =>
        simp only at h
        split at h
        · cases h; decide
        split at h
        · cases h; decide
        split at h
        · cases h; decide
        split at h
        · rename_i hl; cases h; exact lenS_err hl
        · rename_i k t hl
          have hl := lenS_short hl
          split at h
          · cases h; decide
          · split at h
            · cases h
            · split at h
              · rename_i hk; cases h
                exact ih.2 _ _ _ _ (by rw [List.length_take]; simp only [List.length_cons] at hf; omega) hk
              · cases h
    · unfold decK at h
      cases s with
      | nil => cases h
      | cons c s =>
        simp only at h
        split at h
        · rename_i hv; cases h
          exact ih.1 _ _ _ _ (by omega) hv
        · rename_i d t n2 hv
          have hv := (dec_short f).1 _ _ _ _ _ _ hv
          split at h
          · rename_i hk; cases h
            exact ih.2 _ _ _ _ (by omega) hk
          · cases h

theorem DV.fill {h : AHeap} {F : Nat → Prop} {d : Der} {cs : List AV} (D : DV h F d cs) : fillA z5 [(0, 5, .ag cs)] = some cs := by cases D; rfl
theorem DV.cells {h : AHeap} {F : Nat → Prop} {d : Der} {cs : List AV} (D : DV h F d cs) : cs.all AV.cellOK = true := by
  cases D with
  | mk _ _ _ hc => simp [AV.cellOK] at hc ⊢; exact hc
theorem Arr.cellOK {sz : Nat} {h : AHeap} {v : AV} {cs : List AV} {n : Nat} (A : Arr sz h v cs n) : v.cellOK = true := by
  rcases A with ⟨rfl, _⟩ | ⟨id, b, rfl, _⟩ <;> rfl

theorem and31 (c : UInt8) : bitsOp .and .i64 (c.toNat : Int) 31 = ((c.toNat % 32 : Nat) : Int) := by
  have hc := c.toNat_lt
  have := bits_and_mod (x := c.toNat) (n := 5) (by omega) (by omega)
  exact this
theorem and32 (c : UInt8) : decide (bitsOp .and .i64 (c.toNat : Int) 32 = 0) = decide (c.toNat / 32 % 2 = 0) := by
  have h : ∀ n : Nat, n < 256 → decide (bitsOp .and .i64 (n : Int) 32 = 0) = decide (n / 32 % 2 = 0) := by decide +kernel
  exact h c.toNat c.toNat_lt

section
variable {h0 : AHeap}

/-- What value hands back. -/
def VOut (id0 : Nat) (h : AHeap) (Q : AV → AHeap → Prop) : Except Int (Der × List UInt8 × Nat) → Prop
  | .error e => ∀ h', Upd (· = id0) h h' → Q (.tu [.ag z5, .s [], .i .i64 e]) h'
  | .ok (d, r, n) => ∀ cs h', Upd (· = id0) h h' → RecAt h' id0 [.i .i64 (n : Int)] → DV h' (fun i => h.length ≤ i) d cs → Q (.tu [.ag cs, .s r, .i .i64 0]) h'
def KOut (id0 i6 i10 base : Nat) (h : AHeap) (c t : Int) (ks : List Der) (rest : List UInt8) (Q : AV → AHeap → Prop) : Except Int (List Der × Nat) → Prop
  | .error e => ∀ h', Upd (fun i => i = id0 ∨ i = i6 ∨ i = i10 ∨ base ≤ i) h h' → Q (.tu [.ag z5, .s [], .i .i64 e]) h'
  | .ok (ks', n) => ∀ cs h', Upd (fun i => i = id0 ∨ i = i6 ∨ i = i10 ∨ base ≤ i) h h' → RecAt h' id0 [.i .i64 (n : Int)] → DV h' (fun i => base ≤ i) (.mk c t true [] (ks ++ ks')) cs → Q (.tu [.ag cs, .s rest, .i .i64 0]) h'

theorem value_n : ∀ f,
    (∀ (lvl n : Nat) (s : List UInt8) (id0 : Nat) (h : AHeap) (Q : AV → AHeap → Prop), 2 * s.length + 1 ≤ f → s.length ≤ 100000 → lvl ≤ 1000 → n ≤ 256 → RecAt h id0 [.i .i64 (n : Int)] → VOut id0 h Q (decV f lvl n s) →
      C G_der_reader_value.id [.p (some ⟨id0, 1, 0⟩), .s s, .i .i64 (lvl : Int)] h Q) ∧
    (∀ (lvl n : Nat) (s rest : List UInt8) (ks : List Der) (rows : List (List AV)) (v : AV) (base id0 i6 i10 : Nat) (c t : Int) (z : List AV) (h0 h : AHeap) (Q : AV → AHeap → Prop), 2 * s.length + 2 ≤ f → rows.length + s.length ≤ 100000 → lvl ≤ 24 → n ≤ 256 → id0 < base → i6 < base → i10 < base → id0 ≠ i6 → id0 ≠ i10 → i6 ≠ i10 → base ≤ h.length →
      RecAt h id0 [.i .i64 (n : Int)] → RecAt h i6 z → z.length = 5 → RecAt h i10 [.i .i64 c, .i .i64 t, .b true, .s [], v] → Arr 5 h v rows.flatten rows.length → (∀ i, SlAt v i → base ≤ i) → DVs h (fun i => base ≤ i ∧ ¬ SlAt v i) ks rows →
      KOut id0 i6 i10 base h c t ks rest Q (decK f lvl n s) →
      G_der_reader_value.p0 (kRet h0 Q) (.p (some ⟨id0, 1, 0⟩)) lvl (.p (some ⟨i6, 5, 0⟩)) (.p (some ⟨i10, 5, 0⟩)) s rest h) := by
  intro f
  induction f with
  | zero => exact ⟨fun lvl n s id0 h Q hf => by omega, fun lvl n s rest ks rows v base id0 i6 i10 c t z h0 h Q hf => by omega⟩
  | succ f ih =>
    refine ⟨?_, ?_⟩
    · intro lvl n s id0 h Q hf hs hlv hn R hq
      refine G_der_reader_value.call ?_
      simp only [G_der_reader_value.t, G_der_reader_value.j0]
      refine st_alloc fun h1 hl1 U1 R6 => ?_
      have R0 := R.upd U1 fun h => h
      have id0l := R.lt
      -- the ways out with an error
      have err : ∀ (e : Int) (hx : AHeap), VOut id0 h Q (.error e) → Upd (· = id0) h hx → RecAt hx h.length z5 →
          pStore 5 (.p (some ⟨h.length, 5, 0⟩)) (.ag z5) hx fun h4 => pLoadN 5 (.p (some ⟨h.length, 5, 0⟩)) h4 fun v6 => kRet h Q (.tu [v6, .s [], .i .i64 e]) h4 := by
        intro e hx hv U Rx
        refine st_storeN Rx rfl rfl rfl fun h4 hl4 U4 R4 => st_loadN R4 rfl (.inl (hv h4 (U.trans U4 fun i hi he => absurd he (by omega))))
      unfold decV at hq
      cases s with
      | nil => exact bif_t rfl (err 1 h1 hq (U1.mono fun _ _ h => h.elim) R6)
      | cons c s =>
        have hc := c.toNat_lt
        simp only [List.length_cons] at hf hs
        refine bif_f (by simp) (st_at (i := 0) rfl ?_)
        rw [wrap_i64 (by omega) (by omega)]
        refine st_shr (k := .i64) (b := 6) (by decide) ?_
        refine withI_is (and31 c) (withI_is rfl ?_)
        refine st_alloc fun h2 hl2 U2 R10 => ?_
        refine st_storeN R10 rfl rfl rfl fun h3 hl3 U3 R10' => ?_
        have R0 := (R0.upd U2 fun h => h).upd U3 (by omega)
        have R6 := (R6.upd U2 fun h => h).upd U3 (by omega)
        refine st_nil (st_fld (st_load R0 rfl rfl (st_asI (inc (by omega) (st_nil (st_fld (st_store R0 rfl (by simp) rfl rfl rfl fun h4 hl4 U4 R0 => ?_)))))))
        have R0 : RecAt h4 id0 [.i .i64 ((n + 1 : Nat) : Int)] := R0
        have R6 := R6.upd U4 (by omega)
        have R10 := R10'.upd U4 (by omega)
        have U : Upd (· = id0) h h4 := (((U1.mono fun _ _ h => h.elim).trans U2 fun _ _ h => h.elim).trans U3 fun i hi he => absurd he (by omega)).trans U4 fun _ _ h => h
        refine st_fld (st_load R10 rfl rfl (st_asI ?_))
        simp only at hq
        by_cases e31 : c.toNat % 32 = 31
        · rw [if_pos e31] at hq
          exact bif_t (by simp; omega) (err 2 h4 hq U R6)
        rw [if_neg e31] at hq
        refine bif_f (by simp; omega) ?_
        by_cases e24 : 24 < lvl
        · rw [if_pos e24] at hq
          exact bif_t (by simp; omega) (err 9 h4 hq U R6)
        rw [if_neg e24] at hq
        refine bif_f (by simp; omega) (st_nil (st_fld (st_load R0 rfl rfl (st_asI ?_))))
        by_cases e256 : 256 < n + 1
        · rw [if_pos e256] at hq
          exact bif_t (by simp; omega) (err 3 h4 hq U R6)
        rw [if_neg e256] at hq
        refine bif_f (by simp; omega) (st_subs (lo := 1) (by simp) (length_c (by simp; omega) ?_))
        rw [show (c :: s).drop 1 = s from rfl]
        cases hl : lenS s with
        | error e =>
          rw [hl] at hq
          refine st_ext0 (st_asI (st_ext1 (st_asS (st_ext2 (st_asI ?_)))))
          exact bif_t (by simp [lenS_err hl]) (err e h4 hq U R6)
        | ok x =>
          obtain ⟨k, t⟩ := x
          rw [hl] at hq
          simp only at hq
          have hsh := lenS_short hl
          refine st_ext0 (st_asI (st_ext1 (st_asS (st_ext2 (st_asI (bif_f (by simp) ?_))))))
          by_cases hk : t.length < k
          · rw [if_pos hk] at hq
            exact bif_t (by simp; omega) (err 1 h4 hq U R6)
          rw [if_neg hk] at hq
          refine bif_f (by simp; omega) (st_subs1 (by omega) (st_subs (by omega) (st_fld (st_load R10 rfl rfl (st_asB ?_)))))
          have e32 := and32 c
          by_cases hm : c.toNat / 32 % 2 = 0
          · rw [if_pos hm] at hq
            rw [decide_eq_true hm] at e32
            refine bif_t (by rw [e32]; rfl) ?_
            refine st_fld (st_store R10 rfl (by simp) rfl rfl rfl fun h5 hl5 U5 R10 => st_loadN R10 rfl ?_)
            have R6 := R6.upd U5 (by omega)
            have R0 := R0.upd U5 (by omega)
            refine st_storeN R6 rfl rfl (by simp [AV.cellOK]) fun h6 hl6 U6 R6 => st_loadN R6 rfl (.inl ?_)
            have R0 := R0.upd U6 (by omega)
            refine hq _ h6 ((U.trans U5 fun i hi he => absurd he (by omega)).trans U6 fun i hi he => absurd he (by omega)) R0 ?_
            rw [e32]
            exact DV.leaf h6 _ _ _ _ _
          · rw [if_neg hm] at hq
            rw [decide_eq_false hm] at e32
            refine bif_f (by rw [e32]; rfl) ?_
            rw [e32] at R10
            have := ih.2 lvl (n + 1) (t.take k) (t.drop k) [] [] (.sl none 0 none) (h.length + 2) id0 h.length (h.length + 1) (c.toNat / 64 : Nat) (c.toNat % 32 : Nat) z5 h h4 Q
              (by rw [List.length_take]; omega) (by rw [List.length_take]; simp; omega) (by omega) (by omega) (by omega) (by omega) (by omega) (by omega) (by omega) (by omega) (by omega) R0 R6 rfl (by rw [← hl1]; exact R10) (Arr.nil 5 h4) (fun i hi => hi.elim) .nil ?_
            · rw [← hl1] at this; exact this
            · cases hd : decK f lvl (n + 1) (t.take k) with
              | error e =>
                rw [hd] at hq
                exact fun h' U' => hq h' (U.trans U' fun i hi he => by omega)
              | ok y =>
                obtain ⟨ks, n'⟩ := y
                rw [hd] at hq
                exact fun cs h' U' R' D' => hq cs h' (U.trans U' fun i hi he => by omega) R' (D'.upd (Upd.refl (fun _ => False) h') fun i hi _ => ⟨fun h => h, by omega⟩)
    · intro lvl n s rest ks rows v base id0 i6 i10 c t z h0 h Q hf hs hlv hn b0 b6 b10 n06 n010 n610 hbl R0 R6 hz R10 A hvb D hq
      refine G_der_reader_value.i0 ?_
      simp only [G_der_reader_value.t0, G_der_reader_value.j0]
      unfold decK at hq
      cases s with
      | nil =>
        refine bif_f (by simp) (st_loadN R10 rfl (st_storeN R6 hz.symm rfl (by simp [AV.cellOK]; exact Arr.cellOK A) fun h1 hl1 U1 R6 => ?_))
        refine st_loadN R6 rfl (.inl (hq _ h1 (U1.mono fun i _ h => .inr (.inl h)) (R0.upd U1 n06) ?_))
        rw [List.append_nil]
        have A1 := A.upd U1 fun i hi he => by have := hvb i hi; omega
        exact .mk (D.upd U1 fun i hi hl => ⟨by omega, hi.1⟩) (.inl A1.rd) (fun i hi => ⟨hvb i hi, A1.rd.lt hi⟩) (Arr.cellOK A)
      | cons x s =>
        simp only [List.length_cons] at hf hs
        simp only at hq
        refine bif_t (by simp) (st_alloc fun h1 hl1 U1 R84 => ?_)
        refine inc (by omega) ?_
        have R0 := R0.upd U1 fun h => h
        have R6 := R6.upd U1 fun h => h
        have R10 := R10.upd U1 fun h => h
        refine ih.1 (lvl + 1) n (x :: s) id0 h1 _ (by simp only [List.length_cons]; omega) (by simp only [List.length_cons]; omega) (by omega) hn R0 ?_
        cases hv : decV f (lvl + 1) n (x :: s) with
        | error e =>
          rw [hv] at hq
          have he := (dec_err f).1 _ _ _ _ (by simp only [List.length_cons]; omega) hv
          intro h2 U2
          refine st_ext0 (st_ext1 (st_asS (st_ext2 (st_asI ?_))))
          have R84 := R84.upd U2 (by omega)
          have R6 := R6.upd U2 (by omega)
          refine st_storeN R84 rfl rfl rfl fun h3 hl3 U3 _ => ?_
          have R6 := R6.upd U3 (by omega)
          refine bif_t (by simp [he]) (st_storeN R6 hz.symm rfl rfl fun h4 hl4 U4 R6 => st_loadN R6 rfl (.inl (hq h4 ?_)))
          refine (((U1.mono fun _ _ h => h.elim).trans U2 fun i hi he => .inl he).trans U3 fun i hi he => absurd he (by omega)).trans U4 fun i hi he => .inr (.inl he)
        | ok y =>
          obtain ⟨d, t', n'⟩ := y
          rw [hv] at hq
          simp only at hq
          have hsh := (dec_short f).1 _ _ _ _ _ _ hv
          simp only [List.length_cons] at hsh
          intro cs h2 U2 R0 Dd
          refine st_ext0 (st_ext1 (st_asS (st_ext2 (st_asI ?_))))
          have R84 := R84.upd U2 (by omega)
          have R6 := R6.upd U2 (by omega)
          have R10 := R10.upd U2 (by omega)
          have hvl : ∀ i, SlAt v i → i < h.length := fun i hi => A.rd.lt hi
          have A2 := (A.upd U1 fun _ _ h => h).upd U2 fun i hi he => by have := hvb i hi; omega
          have D2 := (D.upd (F' := fun i => (base ≤ i ∧ ¬ SlAt v i) ∧ i < h.length) U1 fun i hi hl => ⟨fun h => h, hi, hl⟩).upd (F' := fun i => (base ≤ i ∧ ¬ SlAt v i) ∧ i < h.length) U2 fun i hi _ => ⟨by omega, hi⟩
          refine st_storeN R84 rfl Dd.len Dd.cells fun h3 hl3 U3 R84 => ?_
          have R0 := R0.upd U3 (by omega)
          have R6 := R6.upd U3 (by omega)
          have R10 := R10.upd U3 (by omega)
          have A3 := A2.upd U3 fun i hi he => by have := hvl i hi; omega
          have D3 := D2.upd (F' := fun i => base ≤ i ∧ ¬ SlAt v i) U3 fun i hi hl => ⟨by omega, hi.1⟩
          · have Dd3 := Dd.upd (F' := fun i => h1.length ≤ i) U3 fun i hi _ => ⟨by omega, hi⟩
            refine bif_f (by simp) (st_fld (st_load R10 rfl rfl (st_loadN R84 Dd.len.symm ?_)))
            refine A3.push (x := .ag cs) (by decide) Dd.fill Dd.len Dd.cells (by omega) (by omega) fun v' h4 U4 A4 F4 => ?_
            have R10 := R10.upd U4 fun hs => by have := hvb i10 hs; omega
            have R0 := R0.upd U4 fun hs => by have := hvb id0 hs; omega
            have R6 := R6.upd U4 fun hs => by have := hvb i6 hs; omega
            have D4 := D3.upd (F' := fun i => base ≤ i ∧ ¬ SlAt v' i) U4 fun i hi hl => ⟨hi.2, hi.1, fun hs => by
              rcases F4 i hs with h | h
              · exact hi.2 h
              · omega⟩
            have Dd4 := Dd3.upd (F' := fun i => base ≤ i ∧ ¬ SlAt v' i) U4 fun i hi hl => ⟨fun hs => by have := hvl i hs; omega, by omega, fun hs => by
              rcases F4 i hs with h | h
              · have := hvl i h; omega
              · omega⟩
            refine st_fld (st_store R10 rfl (by simp) (by rcases A4 with ⟨rfl, _⟩ | ⟨_, _, rfl, _⟩ <;> rfl) (by rcases A4 with ⟨rfl, _⟩ | ⟨_, _, rfl, _⟩ <;> rfl) (Arr.cellOK A4) fun h5 hl5 U5 R10 => ?_)
            have hv'b : ∀ i, SlAt v' i → base ≤ i := fun i hs => by
              rcases F4 i hs with h | h
              · exact hvb i h
              · have := U1.1; have := U2.1; have := U3.1; omega
            have A5 := A4.upd U5 fun i hi he => by have := hv'b i hi; omega
            have D5 := (D4.app Dd4).upd (F' := fun i => base ≤ i ∧ ¬ SlAt v' i) U5 fun i hi hl => ⟨by omega, hi⟩
            have UU : Upd (fun i => i = id0 ∨ i = i6 ∨ i = i10 ∨ base ≤ i) h h5 := ((((U1.mono fun _ _ h => h.elim).trans U2 fun i hi he => .inl he).trans U3 fun i hi he => absurd he (by omega)).trans U4 fun i hi he => .inr (.inr (.inr (hvb i he)))).trans U5 fun i hi he => .inr (.inr (.inl he))
            refine ih.2 lvl n' t' rest (ks ++ [d]) (rows ++ [cs]) v' base id0 i6 i10 c t z h0 h5 Q (by omega) (by simp; omega) hlv (by omega) b0 b6 b10 n06 n010 n610 (by have := UU.1; omega) (R0.upd U5 n010) (R6.upd U5 n610) hz R10 ?_ hv'b D5 ?_
            · have A5 : Arr 5 h5 v' (rows.flatten ++ cs) (rows.length + 1) := A5
              simpa using A5
            · cases hk : decK f lvl n' t' with
              | error e =>
                rw [hk] at hq
                exact fun h' U' => hq h' (UU.trans U' fun _ _ h => h)
              | ok y =>
                obtain ⟨ks', n''⟩ := y
                rw [hk] at hq
                exact fun cs' h' U' R' D' => hq cs' h' (UU.trans U' fun _ _ h => h) R' (by simpa using D')
end

end Go.Proofs.YtffgchcidkapjaaDoor

/- Reading values: the reference's; Decode. -/
set_option linter.unusedVariables false
set_option linter.unusedSimpArgs false
set_option linter.unusedSectionVars false
set_option maxRecDepth 20000
namespace Go.Proofs.YtffgchcidkapjaaDoor
open Go.GAM Go.RowKit

section
variable {h0 : AHeap}

def VOutR (id0 e : Nat) (S : List UInt8) (h : AHeap) (Q : AV → AHeap → Prop) : Except Int (Der × List UInt8 × Nat) → Prop
  | .error x => ∀ h', Upd (· = id0) h h' → Q (.tu [.ag z5, .i .i64 x]) h'
  | .ok (d, r, n) => ∀ cs h', Upd (· = id0) h h' → RecAt h' id0 [.s S, .i .i64 ((e - r.length : Nat) : Int), .i .i64 (n : Int)] → DV h' (fun i => h.length ≤ i) d cs → Q (.tu [.ag cs, .i .i64 0]) h'
def KOutR (id0 i6 i10 base last : Nat) (S : List UInt8) (h : AHeap) (c t : Int) (ks : List Der) (Q : AV → AHeap → Prop) : Except Int (List Der × Nat) → Prop
  | .error x => ∀ h', Upd (fun i => i = id0 ∨ i = i6 ∨ i = i10 ∨ base ≤ i) h h' → Q (.tu [.ag z5, .i .i64 x]) h'
  | .ok (ks', n) => ∀ cs h', Upd (fun i => i = id0 ∨ i = i6 ∨ i = i10 ∨ base ≤ i) h h' → RecAt h' id0 [.s S, .i .i64 (last : Int), .i .i64 (n : Int)] → DV h' (fun i => base ≤ i) (.mk c t true [] (ks ++ ks')) cs → Q (.tu [.ag cs, .i .i64 0]) h'

/-- What is left behind a reading is the end of what there was. -/
theorem lenS_rest {s r : List UInt8} {n : Nat} (h : lenS s = .ok (n, r)) : r = s.drop (s.length - r.length) := by
  cases s with
  | nil => cases h
  | cons c s =>
    rw [lenS] at h
    split at h
    · cases h
      rw [show (c :: r).length - r.length = 1 by simp]; rfl
    · split at h
      · cases h
      · split at h
        · cases h
        · split at h
          · cases h
          · rename_i h2 h3
            cases h
            rw [show (c :: s).length - (s.drop (c.toNat - 128)).length = (c.toNat - 128) + 1 by simp only [List.length_cons, List.length_drop]; omega]
            rfl
theorem decV_rest {f lvl n : Nat} {s r : List UInt8} {d : Der} {n' : Nat} (h : decV f lvl n s = .ok (d, r, n')) : r = s.drop (s.length - r.length) := by
  cases f with
  | zero => unfold decV at h; cases h
  | succ f =>
    unfold decV at h
    cases s with
    | nil => cases h
    | cons c s =>
      simp only at h
      split at h
      · cases h
      split at h
      · cases h
      split at h
      · cases h
      split at h
      · cases h
      · rename_i k t hl
        have h1 := lenS_rest hl
        have h2 := lenS_short hl
        have key : ∀ k, k ≤ t.length → t.drop k = (c :: s).drop ((c :: s).length - (t.drop k).length) := by
          intro k hk
          rw [show (c :: s).length - (t.drop k).length = (s.length - t.length + k) + 1 by simp only [List.length_cons, List.length_drop]; omega]
          rw [List.drop_succ_cons, ← List.drop_drop, ← h1]
        split at h
        · cases h
        · split at h
          · cases h; exact key k (by omega)
          · split at h
            · cases h
            · cases h; exact key k (by omega)

theorem valueR_n : ∀ f,
    (∀ (lvl n a e : Nat) (S : List UInt8) (id0 : Nat) (h : AHeap) (Q : AV → AHeap → Prop), a ≤ e → e ≤ S.length → 2 * (e - a) + 1 ≤ f → S.length ≤ 100000 → lvl ≤ 1000 → n ≤ 256 → RecAt h id0 [.s S, .i .i64 (a : Int), .i .i64 (n : Int)] → VOutR id0 e S h Q (decV f lvl n ((S.take e).drop a)) →
      C G_ref33_Scan_value.id [.p (some ⟨id0, 3, 0⟩), .i .i64 (e : Int), .i .i64 (lvl : Int)] h Q) ∧
    (∀ (lvl n a last : Nat) (S : List UInt8) (ks : List Der) (rows : List (List AV)) (v : AV) (base id0 i6 i10 : Nat) (c t : Int) (z : List AV) (h0 h : AHeap) (Q : AV → AHeap → Prop), a ≤ last → last ≤ S.length → 2 * (last - a) + 2 ≤ f → S.length ≤ 100000 → rows.length + (last - a) ≤ 100000 → lvl ≤ 24 → n ≤ 256 → id0 < base → i6 < base → i10 < base → id0 ≠ i6 → id0 ≠ i10 → i6 ≠ i10 → base ≤ h.length →
      RecAt h id0 [.s S, .i .i64 (a : Int), .i .i64 (n : Int)] → RecAt h i6 z → z.length = 5 → RecAt h i10 [.i .i64 c, .i .i64 t, .b true, .s [], v] → Arr 5 h v rows.flatten rows.length → (∀ i, SlAt v i → base ≤ i) → DVs h (fun i => base ≤ i ∧ ¬ SlAt v i) ks rows →
      KOutR id0 i6 i10 base last S h c t ks Q (decK f lvl n ((S.take last).drop a)) →
      G_ref33_Scan_value.p0 (kRet h0 Q) (.p (some ⟨id0, 3, 0⟩)) lvl (.p (some ⟨i6, 5, 0⟩)) (.p (some ⟨i10, 5, 0⟩)) last h) := by
  intro f
  induction f with
  | zero => exact ⟨fun lvl n a e S id0 h Q _ _ hf => by omega, fun lvl n a last S ks rows v base id0 i6 i10 c t z h0 h Q _ _ hf => by omega⟩
  | succ f ih =>
    refine ⟨?_, ?_⟩
    · intro lvl n a e S id0 h Q hae he hf hS hlv hn R hq
      have hlen : ((S.take e).drop a).length = e - a := by rw [List.length_drop, List.length_take]; omega
      refine G_ref33_Scan_value.call ?_
      simp only [G_ref33_Scan_value.t, G_ref33_Scan_value.j0]
      refine st_alloc fun h1 hl1 U1 R6 => ?_
      have R0 := R.upd U1 fun h => h
      have id0l := R.lt
      have err : ∀ (x : Int) (hx : AHeap), VOutR id0 e S h Q (.error x) → Upd (· = id0) h hx → RecAt hx h.length z5 →
          pStore 5 (.p (some ⟨h.length, 5, 0⟩)) (.ag z5) hx fun h4 => pLoadN 5 (.p (some ⟨h.length, 5, 0⟩)) h4 fun v6 => kRet h Q (.tu [v6, .i .i64 x]) h4 := by
        intro x hx hv U Rx
        refine st_storeN Rx rfl rfl rfl fun h4 hl4 U4 R4 => st_loadN R4 rfl (.inl (hv h4 (U.trans U4 fun i hi he => absurd he (by omega))))
      refine st_nil (st_fld (st_load R0 rfl rfl (st_asI ?_)))
      unfold decV at hq
      cases hs : (S.take e).drop a with
      | nil =>
        rw [hs] at hq hlen
        simp at hlen
        exact bif_t (by simp; omega) (err 1 h1 hq (U1.mono fun _ _ h => h.elim) R6)
      | cons c s =>
        rw [hs] at hq hlen
        obtain ⟨g1, g2, g3⟩ := sub_at hs
        have hc := c.toNat_lt
        simp only [List.length_cons] at hlen
        refine bif_f (by simp; omega) (st_nil (st_fld (st_load R0 rfl rfl (st_asS (st_nil (st_fld (st_load R0 rfl rfl (st_asI (idxStr g1 ?_)))))))))
        refine st_nil (st_fld (st_load R0 rfl rfl (st_asI (inc (by omega) (st_nil (st_fld (st_store R0 rfl (by simp) rfl rfl rfl fun h2 hl2 U2 R0 => ?_)))))))
        have R0 : RecAt h2 id0 [.s S, .i .i64 ((a + 1 : Nat) : Int), .i .i64 (n : Int)] := R0
        refine st_nil (st_fld (st_load R0 rfl rfl (st_asI (inc (by omega) (st_nil (st_fld (st_store R0 rfl (by simp) rfl rfl rfl fun h3 hl3 U3 R0 => ?_)))))))
        have R0 : RecAt h3 id0 [.s S, .i .i64 ((a + 1 : Nat) : Int), .i .i64 ((n + 1 : Nat) : Int)] := R0
        have R6 := (R6.upd U2 (by omega)).upd U3 (by omega)
        have U : Upd (· = id0) h h3 := ((U1.mono fun _ _ h => h.elim).trans U2 fun _ _ h => h).trans U3 fun _ _ h => h
        rw [wrap_i64 (by omega) (by omega)]
        refine st_rem (n := ((c.toNat % 32 : Nat) : Int)) (by omega) (by rw [Int.tmod_eq_emod_of_nonneg (by omega)]; rfl) ?_
        simp only at hq
        by_cases e31 : c.toNat % 32 = 31
        · rw [if_pos e31] at hq
          exact bif_t (by simp; omega) (err 2 h3 hq U R6)
        rw [if_neg e31] at hq
        refine bif_f (by simp; omega) ?_
        by_cases e24 : 24 < lvl
        · rw [if_pos e24] at hq
          exact bif_t (by simp; omega) (err 9 h3 hq U R6)
        rw [if_neg e24] at hq
        refine bif_f (by simp; omega) (st_nil (st_fld (st_load R0 rfl rfl (st_asI ?_))))
        by_cases e256 : 256 < n + 1
        · rw [if_pos e256] at hq
          exact bif_t (by simp; omega) (err 3 h3 hq U R6)
        rw [if_neg e256] at hq
        refine bif_f (by simp; omega) (size_c hS he (by omega) R0 ?_)
        rw [g3]
        cases hl : lenS s with
        | error x =>
          rw [hl] at hq
          intro h4 U4 hl4
          have R6 := R6.upd U4 (by omega)
          refine st_ext0 (st_asI (st_ext1 (st_asI ?_)))
          exact bif_t (by simp [lenS_err hl]) (err x h4 hq (U.trans U4 fun _ _ h => h) R6)
        | ok x =>
          obtain ⟨k, t⟩ := x
          rw [hl] at hq
          simp only at hq
          have hsh := lenS_short hl
          have hrest := lenS_rest hl
          intro h4 U4 hl4 R0
          have R6 := R6.upd U4 (by omega)
          have U := U.trans U4 fun _ _ h => h
          have ht : (S.take e).drop (e - t.length) = t := by
            conv => rhs; rw [hrest, ← g3, List.drop_drop, show a + 1 + (((S.take e).drop (a + 1)).length - t.length) = e - t.length by rw [List.length_drop, List.length_take]; omega]
          refine st_ext0 (st_asI (st_ext1 (st_asI (bif_f (by simp) (st_nil (st_fld (st_load R0 rfl rfl (st_asI ?_))))))))
          refine withI_is (n := (t.length : Int)) (by rw [wrap_i64 (by omega) (by omega)]; omega) ?_
          by_cases hk : t.length < k
          · rw [if_pos hk] at hq
            exact bif_t (by simp; omega) (err 1 h4 hq U R6)
          rw [if_neg hk] at hq
          refine bif_f (by simp; omega) ?_
          refine st_quo (n := ((c.toNat / 64 : Nat) : Int)) (by omega) (by rw [Int.tdiv_eq_ediv_of_nonneg (by omega), wrap_i64 (by omega) (by omega)]; omega) ?_
          refine st_rem (n := ((c.toNat % 32 : Nat) : Int)) (by omega) (by rw [Int.tmod_eq_emod_of_nonneg (by omega)]; rfl) ?_
          refine st_quo (n := ((c.toNat / 32 : Nat) : Int)) (by omega) (by rw [Int.tdiv_eq_ediv_of_nonneg (by omega), wrap_i64 (by omega) (by omega)]; omega) ?_
          refine st_rem (n := ((c.toNat / 32 % 2 : Nat) : Int)) (by omega) (by rw [Int.tmod_eq_emod_of_nonneg (by omega)]; rfl) ?_
          refine st_alloc fun h5 hl5 U5 R10 => st_storeN R10 rfl rfl rfl fun h6 hl6 U6 R10 => ?_
          have R0 := (R0.upd U5 fun h => h).upd U6 (by omega)
          have R6 := (R6.upd U5 fun h => h).upd U6 (by omega)
          have U := (U.trans U5 fun _ _ h => h.elim).trans U6 fun i hi he => absurd he (by omega)
          refine st_nil (st_fld (st_load R0 rfl rfl (st_asI ?_)))
          refine withI_is (n := ((e - t.length + k : Nat) : Int)) (by rw [wrap_i64 (by omega) (by omega)]; omega) (st_fld (st_load R10 rfl rfl (st_asB ?_)))
          have hd1 : (S.take (e - t.length + k)).drop (e - t.length) = t.take k := by
            conv => rhs; rw [← ht, List.drop_take, List.take_take, Nat.min_eq_left (by omega)]
            rw [List.drop_take, show e - t.length + k - (e - t.length) = k by omega]
          have hd2 : e - (t.drop k).length = e - t.length + k := by rw [List.length_drop]; omega
          by_cases hm : c.toNat / 32 % 2 = 0
          · rw [if_pos hm] at hq
            have e32 : decide (((c.toNat / 32 % 2 : Nat) : Int) = 1) = false := by rw [hm]; rfl
            refine bif_t (by rw [e32]; rfl) ?_
            refine st_nil (st_fld (st_load R0 rfl rfl (st_asS (st_nil (st_fld (st_load R0 rfl rfl (st_asI ?_)))))))
            refine st_subs2 (by omega) (by omega) ?_
            rw [hd1]
            refine st_fld (st_store R10 rfl (by simp) rfl rfl rfl fun h7 hl7 U7 R10 => ?_)
            have R0 := R0.upd U7 (by omega)
            have R6 := R6.upd U7 (by omega)
            refine st_nil (st_fld (st_store R0 rfl (by simp) rfl rfl rfl fun h8 hl8 U8 R0 => ?_))
            have R10 := R10.upd U8 (by omega)
            have R6 := R6.upd U8 (by omega)
            refine st_loadN R10 rfl (st_storeN R6 rfl rfl (by simp [AV.cellOK]) fun h9 hl9 U9 R6 => st_loadN R6 rfl (.inl ?_))
            have R0 := R0.upd U9 (by omega)
            refine hq _ h9 (((U.trans U7 fun i hi he => absurd he (by omega)).trans U8 fun _ _ h => h).trans U9 fun i hi he => absurd he (by omega)) ?_ ?_
            · rw [hd2]; exact R0
            · rw [e32]; exact DV.leaf h9 _ _ _ _ _
          · rw [if_neg hm] at hq
            have e32 : decide (((c.toNat / 32 % 2 : Nat) : Int) = 1) = true := by
              rw [decide_eq_true_eq]; omega
            refine bif_f (by rw [e32]; rfl) ?_
            rw [e32] at R10
            have := ih.2 lvl (n + 1) (e - t.length) (e - t.length + k) S [] [] (.sl none 0 none) (h4.length + 1) id0 h.length h4.length (c.toNat / 64 : Nat) (c.toNat % 32 : Nat) z5 h h6 Q
              (by omega) (by omega) (by omega) hS (by simp; omega) (by omega) (by omega) (by omega) (by omega) (by omega) (by omega) (by omega) (by omega) (by omega) R0 R6 rfl R10 (Arr.nil 5 h6) (fun i hi => hi.elim) .nil ?_
            · exact this
            · rw [hd1]
              cases hd : decK f lvl (n + 1) (t.take k) with
              | error x =>
                rw [hd] at hq
                exact fun h' U' => hq h' (U.trans U' fun i hi he => by omega)
              | ok y =>
                obtain ⟨ks, n'⟩ := y
                rw [hd] at hq
                exact fun cs h' U' R' D' => hq cs h' (U.trans U' fun i hi he => by omega) (by rw [hd2]; exact R') (D'.upd (Upd.refl (fun _ => False) h') fun i hi _ => ⟨fun h => h, by omega⟩)
    · intro lvl n a last S ks rows v base id0 i6 i10 c t z h0 h Q hal hls hf hS hrl hlv hn b0 b6 b10 n06 n010 n610 hbl R0 R6 hz R10 A hvb D hq
      have hlen : ((S.take last).drop a).length = last - a := by rw [List.length_drop, List.length_take]; omega
      refine G_ref33_Scan_value.i0 ?_
      simp only [G_ref33_Scan_value.t0, G_ref33_Scan_value.j0]
      refine st_nil (st_fld (st_load R0 rfl rfl (st_asI ?_)))
      unfold decK at hq
      cases hs : (S.take last).drop a with
      | nil =>
        rw [hs] at hq hlen
        simp at hlen
        have : a = last := by omega
        subst this
        refine bif_f (by simp) (st_loadN R10 rfl (st_storeN R6 hz.symm rfl (by simp [AV.cellOK]; exact Arr.cellOK A) fun h1 hl1 U1 R6 => ?_))
        refine st_loadN R6 rfl (.inl (hq _ h1 (U1.mono fun i _ h => .inr (.inl h)) (R0.upd U1 n06) ?_))
        rw [List.append_nil]
        have A1 := A.upd U1 fun i hi he => by have := hvb i hi; omega
        exact .mk (D.upd U1 fun i hi hl => ⟨by omega, hi.1⟩) (.inl A1.rd) (fun i hi => ⟨hvb i hi, A1.rd.lt hi⟩) (Arr.cellOK A)
      | cons x s =>
        rw [hs] at hq hlen
        simp only [List.length_cons] at hlen
        simp only at hq
        refine bif_t (by simp; omega) (inc (by omega) ?_)
        refine ih.1 (lvl + 1) n a last S id0 h _ hal hls (by omega) hS (by omega) hn R0 ?_
        rw [hs]
        cases hv : decV f (lvl + 1) n (x :: s) with
        | error e =>
          rw [hv] at hq
          have he := (dec_err f).1 _ _ _ _ (by simp only [List.length_cons]; omega) hv
          intro h1 U1
          refine st_ext0 (st_ext1 (st_asI (st_alloc fun h2 hl2 U2 R84 => st_storeN R84 rfl rfl rfl fun h3 hl3 U3 _ => ?_)))
          have := U1.1
          have R6 := ((R6.upd U1 (by omega)).upd U2 fun h => h).upd U3 (by omega)
          refine bif_t (by simp [he]) (st_storeN R6 hz.symm rfl rfl fun h4 hl4 U4 R6 => st_loadN R6 rfl (.inl (hq h4 ?_)))
          refine (((U1.mono fun i hi he => .inl he).trans U2 fun i hi he => he.elim).trans U3 fun i hi he => absurd he (by omega)).trans U4 fun i hi he => .inr (.inl he)
        | ok y =>
          obtain ⟨d, t', n'⟩ := y
          rw [hv] at hq
          simp only at hq
          have hsh := (dec_short f).1 _ _ _ _ _ _ hv
          have hrest := decV_rest hv
          simp only [List.length_cons] at hsh
          have ht' : (S.take last).drop (last - t'.length) = t' := by
            conv => rhs; rw [hrest, ← hs, List.drop_drop, show a + (((S.take last).drop a).length - t'.length) = last - t'.length by rw [List.length_drop, List.length_take]; omega]
          intro cs h1 U1 R0 Dd
          have hl1 := U1.1
          refine st_ext0 (st_ext1 (st_asI (st_alloc fun h2 hl2 U2 R84 => st_storeN R84 rfl Dd.len Dd.cells fun h3 hl3 U3 R84 => ?_)))
          have R0 := (R0.upd U2 fun h => h).upd U3 (by omega)
          have R6 := ((R6.upd U1 (by omega)).upd U2 fun h => h).upd U3 (by omega)
          have R10 := ((R10.upd U1 (by omega)).upd U2 fun h => h).upd U3 (by omega)
          have hvl : ∀ i, SlAt v i → i < h.length := fun i hi => A.rd.lt hi
          have A3 := ((A.upd U1 fun i hi he => by have := hvb i hi; omega).upd U2 fun _ _ h => h).upd U3 fun i hi he => by have := hvl i hi; omega
          have D3 := ((D.upd (F' := fun i => (base ≤ i ∧ ¬ SlAt v i) ∧ i < h.length) U1 fun i hi hl => ⟨by omega, hi, hl⟩).upd (F' := fun i => (base ≤ i ∧ ¬ SlAt v i) ∧ i < h.length) U2 fun i hi _ => ⟨fun h => h, hi⟩).upd (F' := fun i => base ≤ i ∧ ¬ SlAt v i) U3 fun i hi hl => ⟨by omega, hi.1⟩
          have Dd3 := (Dd.upd (F' := fun i => h.length ≤ i ∧ i < h1.length) U2 fun i hi hl => ⟨fun h => h, hi, hl⟩).upd (F' := fun i => h.length ≤ i) U3 fun i hi _ => ⟨by omega, hi.1⟩
          refine bif_f (by simp) (st_fld (st_load R10 rfl rfl (st_loadN R84 Dd.len.symm ?_)))
          refine A3.push (x := .ag cs) (by decide) Dd.fill Dd.len Dd.cells (by omega) (by omega) fun v' h4 U4 A4 F4 => ?_
          have R10 := R10.upd U4 fun hs => by have := hvb i10 hs; omega
          have R0 := R0.upd U4 fun hs => by have := hvb id0 hs; omega
          have R6 := R6.upd U4 fun hs => by have := hvb i6 hs; omega
          have D4 := D3.upd (F' := fun i => base ≤ i ∧ ¬ SlAt v' i) U4 fun i hi hl => ⟨hi.2, hi.1, fun hs => by
            rcases F4 i hs with h | h
            · exact hi.2 h
            · omega⟩
          have Dd4 := Dd3.upd (F' := fun i => base ≤ i ∧ ¬ SlAt v' i) U4 fun i hi hl => ⟨fun hs => by have := hvl i hs; omega, by omega, fun hs => by
            rcases F4 i hs with h | h
            · have := hvl i h; omega
            · omega⟩
          refine st_fld (st_store R10 rfl (by simp) (by rcases A4 with ⟨rfl, _⟩ | ⟨_, _, rfl, _⟩ <;> rfl) (by rcases A4 with ⟨rfl, _⟩ | ⟨_, _, rfl, _⟩ <;> rfl) (Arr.cellOK A4) fun h5 hl5 U5 R10 => ?_)
          have hv'b : ∀ i, SlAt v' i → base ≤ i := fun i hs => by
            rcases F4 i hs with h | h
            · exact hvb i h
            · omega
          have A5 := A4.upd U5 fun i hi he => by have := hv'b i hi; omega
          have D5 := (D4.app Dd4).upd (F' := fun i => base ≤ i ∧ ¬ SlAt v' i) U5 fun i hi hl => ⟨by omega, hi⟩
          have UU : Upd (fun i => i = id0 ∨ i = i6 ∨ i = i10 ∨ base ≤ i) h h5 := ((((U1.mono fun i hi he => .inl he).trans U2 fun i hi he => he.elim).trans U3 fun i hi he => absurd he (by omega)).trans U4 fun i hi he => .inr (.inr (.inr (hvb i he)))).trans U5 fun i hi he => .inr (.inr (.inl he))
          refine ih.2 lvl n' (last - t'.length) last S (ks ++ [d]) (rows ++ [cs]) v' base id0 i6 i10 c t z h0 h5 Q (by omega) hls (by omega) hS (by simp; omega) hlv (by omega) b0 b6 b10 n06 n010 n610 (by have := UU.1; omega) (R0.upd U5 n010) (R6.upd U5 n610) hz R10 ?_ hv'b D5 ?_
          · have A5 : Arr 5 h5 v' (rows.flatten ++ cs) (rows.length + 1) := A5
            simpa using A5
          · rw [ht']
            cases hk : decK f lvl n' t' with
            | error e =>
              rw [hk] at hq
              exact fun h' U' => hq h' (UU.trans U' fun _ _ h => h)
            | ok y =>
              obtain ⟨ks', n''⟩ := y
              rw [hk] at hq
              exact fun cs' h' U' R' D' => hq cs' h' (UU.trans U' fun _ _ h => h) R' (by simpa using D')

/-! ### Decode -/

def DOut (h : AHeap) (Q : AV → AHeap → Prop) : Except Int Der → Prop
  | .error e => ∀ h', Upd (fun _ => False) h h' → Q (.tu [.ag z5, .i .i64 e]) h'
  | .ok d => ∀ cs h', Upd (fun _ => False) h h' → DV h' (fun i => h.length ≤ i) d cs → Q (.tu [.ag cs, .i .i64 0]) h'

theorem decode_c {s : List UInt8} {h : AHeap} {Q : AV → AHeap → Prop} (hq : DOut h Q (decS s)) : C G_der_Decode.id [.s s] h Q := by
  refine G_der_Decode.call ?_
  simp only [G_der_Decode.t, G_der_Decode.j0]
  refine st_alloc fun h1 hl1 U1 R0 => ?_
  have err : ∀ (e : Int) (hx : AHeap) (K : AV → AHeap → Prop), (∀ h4, Upd (fun _ => False) h h4 → K (.ag z5) h4) → Upd (fun i => h.length ≤ i) h1 hx → RecAt hx h.length z5 →
      pStore 5 (.p (some ⟨h.length, 5, 0⟩)) (.ag z5) hx fun h4 => pLoadN 5 (.p (some ⟨h.length, 5, 0⟩)) h4 fun v6 => K v6 h4 := by
    intro e hx K hk U Rx
    refine st_storeN Rx rfl rfl rfl fun h4 hl4 U4 R4 => st_loadN R4 rfl (hk h4 ?_)
    exact ((U1.mono (M' := fun i => h.length ≤ i) fun _ _ h => h.elim).trans U fun _ _ h => h).trans U4 (fun i hi he => by subst he; exact Nat.le_refl _) |>.mono fun i hi he => by omega
  unfold decS at hq
  by_cases hl : 65535 < s.length
  · rw [if_pos hl] at hq
    exact bif_t (by simp; omega) (err 3 h1 _ (fun h4 U => .inl (hq h4 U)) (Upd.refl _ _) R0)
  rw [if_neg hl] at hq
  refine bif_f (by simp; omega) (st_box rfl fun h2 hl2 U2 R2 => ?_)
  have R0 := R0.upd U2 fun h => h
  refine (value_n (2 * s.length + 1)).1 1 0 s h1.length h2 _ (Nat.le_refl _) (by omega) (by omega) (by omega) R2 ?_
  cases hv : decV (2 * s.length + 1) 1 0 s with
  | error e =>
    rw [hv] at hq
    have he := (dec_err _).1 _ _ _ _ (Nat.le_refl _) hv
    intro h3 U3
    refine st_ext0 (st_ext1 (st_asS (st_ext2 (st_asI (st_alloc fun h4 hl4 U4 R4 => st_storeN R4 rfl rfl rfl fun h5 hl5 U5 R5 => ?_)))))
    have := U3.1
    have R0 := ((R0.upd U3 (by omega)).upd U4 fun h => h).upd U5 (by omega)
    refine bif_f (by simp [he]) ?_
    refine G_der_Decode.i0 ?_
    simp only [G_der_Decode.t0, G_der_Decode.j1]
    refine bif_f rfl ?_
    refine G_der_Decode.i1 ?_
    simp only [G_der_Decode.t1]
    refine bif_t (by simp [he]) (err e h5 _ (fun h6 U => .inl (hq h6 U)) ?_ R0)
    exact (((U2.mono fun _ _ h => h.elim).trans U3 fun i hi he => by omega).trans U4 fun _ _ h => h.elim).trans U5 fun i hi he => by omega
  | ok y =>
    obtain ⟨d, r, n'⟩ := y
    rw [hv] at hq
    intro cs h3 U3 _ D
    refine st_ext0 (st_ext1 (st_asS (st_ext2 (st_asI (st_alloc fun h4 hl4 U4 R4 => st_storeN R4 rfl D.len D.cells fun h5 hl5 U5 R5 => ?_)))))
    have := U3.1
    have R0 := ((R0.upd U3 (by omega)).upd U4 fun h => h).upd U5 (by omega)
    have UU : Upd (fun i => h.length ≤ i) h1 h5 := (((U2.mono fun _ _ h => h.elim).trans U3 fun i hi he => by omega).trans U4 fun _ _ h => h.elim).trans U5 fun i hi he => by omega
    have D5 := (D.upd (F' := fun i => h2.length ≤ i ∧ i < h3.length) U4 fun i hi hl => ⟨fun h => h, hi, hl⟩).upd (F' := fun i => h2.length ≤ i ∧ i < h3.length) U5 fun i hi _ => ⟨by omega, hi⟩
    refine bif_t (by simp) ?_
    refine G_der_Decode.i0 ?_
    simp only [G_der_Decode.t0, G_der_Decode.j1]
    refine bif_both (fun e => ?_) fun e => ?_
    · have hr : r ≠ [] := by simpa using e
      simp only [if_neg hr] at hq
      refine G_der_Decode.i1 ?_
      simp only [G_der_Decode.t1]
      exact bif_t (by simp) (err 2 h5 _ (fun h6 U => .inl (hq h6 U)) UU R0)
    · have hr : r = [] := by simpa using e
      simp only [if_pos hr] at hq
      refine G_der_Decode.i1 ?_
      simp only [G_der_Decode.t1]
      refine bif_f (by simp) (st_loadN R5 D.len.symm (st_storeN R0 rfl D.len D.cells fun h6 hl6 U6 R6 => st_loadN R6 D.len.symm (.inl (hq cs h6 ?_ ?_))))
      · exact ((U1.mono (M' := fun i => h.length ≤ i) fun _ _ h => h.elim).trans UU fun _ _ h => h).trans U6 (fun i hi he => by omega) |>.mono fun i hi he => by omega
      · exact D5.upd U6 fun i hi _ => ⟨by omega, by omega⟩

theorem Rdecode_c {s : List UInt8} {h : AHeap} {Q : AV → AHeap → Prop} (hq : DOut h Q (decS s)) : C G_ref33_Decode.id [.s s] h Q := by
  refine G_ref33_Decode.call ?_
  simp only [G_ref33_Decode.t]
  refine st_alloc fun h1 hl1 U1 R0 => ?_
  have err : ∀ (hx : AHeap) (K : AV → AHeap → Prop), (∀ h4, Upd (fun _ => False) h h4 → K (.ag z5) h4) → Upd (fun i => h.length ≤ i) h1 hx → RecAt hx h.length z5 →
      pStore 5 (.p (some ⟨h.length, 5, 0⟩)) (.ag z5) hx fun h4 => pLoadN 5 (.p (some ⟨h.length, 5, 0⟩)) h4 fun v6 => K v6 h4 := by
    intro hx K hk U Rx
    refine st_storeN Rx rfl rfl rfl fun h4 hl4 U4 R4 => st_loadN R4 rfl (hk h4 ?_)
    exact ((U1.mono (M' := fun i => h.length ≤ i) fun _ _ h => h.elim).trans U fun _ _ h => h).trans U4 (fun i hi he => by subst he; exact Nat.le_refl _) |>.mono fun i hi he => by omega
  unfold decS at hq
  by_cases hl : 65535 < s.length
  · rw [if_pos hl] at hq
    exact bif_t (by simp; omega) (err h1 _ (fun h4 U => .inl (hq h4 U)) (Upd.refl _ _) R0)
  rw [if_neg hl] at hq
  refine bif_f (by simp; omega) (st_box rfl fun h2 hl2 U2 R2 => ?_)
  have R0 := R0.upd U2 fun h => h
  have es : (s.take s.length).drop 0 = s := by simp
  refine (valueR_n (2 * s.length + 1)).1 1 0 0 s.length s h1.length h2 _ (by omega) (by omega) (by omega) (by omega) (by omega) (by omega) R2 ?_
  rw [es]
  cases hv : decV (2 * s.length + 1) 1 0 s with
  | error e =>
    rw [hv] at hq
    have he := (dec_err _).1 _ _ _ _ (Nat.le_refl _) hv
    intro h3 U3
    refine st_ext0 (st_ext1 (st_asI (st_alloc fun h4 hl4 U4 R4 => st_storeN R4 rfl rfl rfl fun h5 hl5 U5 R5 => ?_)))
    have := U3.1
    have R0 := ((R0.upd U3 (by omega)).upd U4 fun h => h).upd U5 (by omega)
    refine bif_t (by simp [he]) (err h5 _ (fun h6 U => .inl (hq h6 U)) ?_ R0)
    exact (((U2.mono fun _ _ h => h.elim).trans U3 fun i hi he => by omega).trans U4 fun _ _ h => h.elim).trans U5 fun i hi he => by omega
  | ok y =>
    obtain ⟨d, r, n'⟩ := y
    rw [hv] at hq
    have hsh := (dec_short _).1 _ _ _ _ _ _ hv
    intro cs h3 U3 R2 D
    refine st_ext0 (st_ext1 (st_asI (st_alloc fun h4 hl4 U4 R4 => st_storeN R4 rfl D.len D.cells fun h5 hl5 U5 R5 => ?_)))
    have := U3.1
    have R0 := ((R0.upd U3 (by omega)).upd U4 fun h => h).upd U5 (by omega)
    have R2 := (R2.upd U4 fun h => h).upd U5 (by omega)
    have UU : Upd (fun i => h.length ≤ i) h1 h5 := (((U2.mono fun _ _ h => h.elim).trans U3 fun i hi he => by omega).trans U4 fun _ _ h => h.elim).trans U5 fun i hi he => by omega
    have D5 := (D.upd (F' := fun i => h2.length ≤ i ∧ i < h3.length) U4 fun i hi hl => ⟨fun h => h, hi, hl⟩).upd (F' := fun i => h2.length ≤ i ∧ i < h3.length) U5 fun i hi _ => ⟨by omega, hi⟩
    refine bif_f (by simp) (st_nil (st_fld (st_load R2 rfl rfl (st_asI ?_))))
    by_cases hr : r = []
    · simp only [if_pos hr] at hq
      subst hr
      refine bif_f (by simp) (st_loadN R5 D.len.symm (st_storeN R0 rfl D.len D.cells fun h6 hl6 U6 R6 => st_loadN R6 D.len.symm (.inl (hq cs h6 ?_ ?_))))
      · exact ((U1.mono (M' := fun i => h.length ≤ i) fun _ _ h => h.elim).trans UU fun _ _ h => h).trans U6 (fun i hi he => by omega) |>.mono fun i hi he => by omega
      · exact D5.upd U6 fun i hi _ => ⟨by omega, by omega⟩
    · simp only [if_neg hr] at hq
      have := List.length_pos_iff.2 hr
      exact bif_t (by simp; omega) (err h5 _ (fun h6 U => .inl (hq h6 U)) UU R0)

end
end Go.Proofs.YtffgchcidkapjaaDoor

/- Checking values. -/
set_option linter.unusedVariables false
set_option linter.unusedSimpArgs false
set_option linter.unusedSectionVars false
set_option maxRecDepth 20000
namespace Go.Proofs.YtffgchcidkapjaaDoor
open Go.GAM Go.RowKit

mutual
def chkV : Nat → Nat → Der → Int × Nat
  | lvl, n, .mk c t m s ks => if c < 0 ∨ 3 < c ∨ t < 0 ∨ 30 < t then (4, n + 1) else
    if (m = true ∧ s ≠ []) ∨ (m = false ∧ ks ≠ []) then (13, n + 1) else
    if 24 < lvl then (9, n + 1) else if 256 < n + 1 then (3, n + 1) else chkK (lvl + 1) (n + 1) ks
def chkK : Nat → Nat → List Der → Int × Nat
  | _, n, [] => (0, n)
  | lvl, n, k :: r => if (chkV lvl n k).1 ≠ 0 then chkV lvl n k else chkK lvl (chkV lvl n k).2 r
end

theorem chk_n : ∀ m, (∀ (d : Der) (lvl n : Nat), d.sz ≤ m → (chkV lvl n d).1 = 0 → (chkV lvl n d).2 ≤ 256) ∧ (∀ (ks : List Der) (lvl n : Nat), szs ks ≤ m → (chkK lvl n ks).1 = 0 → (chkK lvl n ks).2 ≤ n ∨ (chkK lvl n ks).2 ≤ 256) := by
  intro m
  induction m with
  | zero =>
    refine ⟨fun d lvl n hd => absurd hd (by have := szs_pos d; omega), fun ks lvl n hk _ => ?_⟩
    cases ks with
    | nil => unfold chkK; exact .inl (Nat.le_refl _)
    | cons k r => have := szs_pos k; unfold szs at hk; omega
  | succ m ih =>
    have hV : ∀ (d : Der) (lvl n : Nat), d.sz ≤ m + 1 → (chkV lvl n d).1 = 0 → (chkV lvl n d).2 ≤ 256 := by
      intro d lvl n hd h
      obtain ⟨c, t, mm, s, ks⟩ := d
      unfold Der.sz at hd
      unfold chkV at h ⊢
      split at h
      · cases h
      rename_i c1
      split at h
      · cases h
      rename_i c2
      split at h
      · cases h
      rename_i c3
      split at h
      · cases h
      rename_i c4
      rw [if_neg c1, if_neg c2, if_neg c3, if_neg c4]
      have := ih.2 ks (lvl + 1) (n + 1) (by omega) h
      omega
    refine ⟨hV, fun ks => ?_⟩
    induction ks with
    | nil => intro lvl n _ _; unfold chkK; exact .inl (Nat.le_refl _)
    | cons k r ihr =>
      intro lvl n hk h
      unfold szs at hk
      unfold chkK at h ⊢
      split at h
      · rename_i h1; exact absurd h h1
      · rename_i h1
        rw [if_neg h1]
        have h1 : (chkV lvl n k).1 = 0 := by simpa using h1
        have := hV k lvl n (by omega) h1
        have := ihr lvl _ (by omega) h
        omega

section
variable {h0 : AHeap}

theorem chk_step {k : Der} {r : List Der} {lvl n : Nat} : chkK lvl n (k :: r) = if (chkV lvl n k).1 ≠ 0 then chkV lvl n k else chkK lvl (chkV lvl n k).2 r := by
  rw [chkK]

/-! ### the reference's -/

theorem Rcheck_n : ∀ m, m ≤ 1000000 → ∀ (d : Der) (cs : List AV) (F : Nat → Prop) (lvl n id0 : Nat) (h : AHeap) (Q : AV → AHeap → Prop), d.sz ≤ m → lvl ≤ 1000 → n ≤ 256 → RecAt h id0 [.i .i64 (n : Int)] → DV h F d cs → (∀ i, F i → i ≠ id0) →
    (∀ h', Upd (· = id0) h h' → RecAt h' id0 [.i .i64 ((chkV lvl n d).2 : Int)] → Q (.i .i64 (chkV lvl n d).1) h') → C G_ref33_Count_check.id [.p (some ⟨id0, 1, 0⟩), .ag cs, .i .i64 (lvl : Int)] h Q := by
  intro m
  induction m with
  | zero => intro _ d cs F lvl n id0 h Q hd; have := szs_pos d; omega
  | succ m ih =>
    intro hm d cs F lvl n id0 h Q hd hlv hn R D hF hq
    cases D with
    | @mk c t mm s ks v rows Dk sv fv ov =>
    refine G_ref33_Count_check.call ?_
    simp only [G_ref33_Count_check.t, G_ref33_Count_check.j0]
    unfold Der.sz at hd
    have hkl := szs_len ks
    have hln := Dk.length
    have id0l := R.lt
    refine st_box rfl fun h1 hl1 U1 B => ?_
    have R1 := R.upd U1 fun h => h
    refine st_nil (st_fld (st_load R1 rfl rfl (st_asI (inc (by omega) (st_nil (st_fld (st_store R1 rfl (by simp) rfl rfl rfl fun h2 hl2 U2 R2 => ?_)))))))
    have R2 : RecAt h2 id0 [.i .i64 ((n + 1 : Nat) : Int)] := R2
    have B := B.upd U2 (by omega)
    have U : Upd (· = id0) h h2 := (U1.mono fun _ _ h => h.elim).trans U2 fun _ _ h => h
    have S2 := sv.upd U fun i hs _ => hF i (fv i hs).1
    have D2 := Dk.upd (F' := F) U fun i hi _ => ⟨hF i hi, hi⟩
    unfold chkV at hq
    have lens : ∀ K : Int → Prop, K (ks.length : Int) → pLenSl v K := fun K hk => S2.len (by rw [← hln]; exact hk)
    have hks : ∀ k ∈ ks, k.sz ≤ m := fun k hk => by have := szs_mem hk; omega
    have goK : 24 < lvl ∨ ∀ (r : List Der) (i n2 : Nat) (h2 : AHeap), ks.drop i = r → i ≤ ks.length → n2 ≤ 256 → Upd (· = id0) h h2 → RecAt h2 h.length [.i .i64 c, .i .i64 t, .b mm, .s s, v] → RecAt h2 id0 [.i .i64 (n2 : Int)] →
        (∀ h', Upd (· = id0) h h' → RecAt h' id0 [.i .i64 ((chkK (lvl + 1) n2 r).2 : Int)] → Q (.i .i64 (chkK (lvl + 1) n2 r).1) h') → G_ref33_Count_check.p2 (kRet h Q) (.p (some ⟨id0, 1, 0⟩)) lvl (.p (some ⟨h.length, 5, 0⟩)) i h2 := by
      by_cases h24 : 24 < lvl
      · exact .inl h24
      refine .inr ?_
      intro r
      induction r with
      | nil =>
        intro i n2 h2 hr hi hn2 U B R hk
        have hle := drop_end hr
        have S2 := sv.upd U fun i hs _ => hF i (fv i hs).1
        refine G_ref33_Count_check.i2 ?_
        simp only [G_ref33_Count_check.t2, G_ref33_Count_check.j2]
        refine st_fld (st_load B rfl rfl (S2.len (bif_f (by simp; omega) (.inl ?_))))
        have := hk h2 U (by unfold chkK; exact R)
        unfold chkK at this
        exact this
      | cons k r ihr =>
        intro i n2 h2 hr hi hn2 U B R hk
        have hlt := drop_lt hr
        have hn' := drop_next hr
        have hki := at_of_drop hr
        have S2 := sv.upd U fun i hs _ => hF i (fv i hs).1
        have D2 := Dk.upd (F' := F) U fun i hi _ => ⟨hF i hi, hi⟩
        obtain ⟨r1, g1, e1⟩ := D2.get hki
        obtain ⟨id1, ver1, off1, cap1, b1, rfl, A1⟩ := S2.at (by omega)
        have q1 := rows_get rows i r1 D2.len5 g1
        have hk0 := List.mem_of_getElem? hki
        refine G_ref33_Count_check.i2 ?_
        simp only [G_ref33_Count_check.t2, G_ref33_Count_check.j2]
        refine st_fld (st_load B rfl rfl (S2.len (bif_t (by simp; omega) ?_)))
        refine st_fld (st_load B rfl rfl (st_idx A1 (by omega) (st_elemN A1 (by omega) q1 (inc (by omega) ?_))))
        refine ih (by omega) k r1 F (lvl + 1) n2 id0 h2 _ (hks k hk0) (by omega) hn2 R e1 hF fun h3 U3 R3 => st_asI ?_
        have UU := U.trans U3 fun _ _ h => h
        have B := B.upd U3 (by omega)
        rw [chk_step] at hk
        by_cases he : (chkV (lvl + 1) n2 k).1 ≠ 0
        · rw [if_pos he] at hk
          exact bif_t (by simp [he]) (.inl (hk h3 UU R3))
        · rw [if_neg he] at hk
          have he0 : (chkV (lvl + 1) n2 k).1 = 0 := by simpa using he
          refine bif_f (by simp [he0]) (inc (by omega) ?_)
          exact ihr (i + 1) _ h3 hn' (by omega) ((chk_n k.sz).1 k _ _ (Nat.le_refl _) he0) UU B R3 hk
    have p1 : ¬ (c < 0 ∨ 3 < c ∨ t < 0 ∨ 30 < t) → ∀ b, b = decide ((mm = true ∧ s ≠ []) ∨ (mm = false ∧ ks ≠ [])) → G_ref33_Count_check.p1 (kRet h Q) (.p (some ⟨id0, 1, 0⟩)) lvl (.p (some ⟨h.length, 5, 0⟩)) b h2 := by
      intro c1 b hb
      rw [if_neg c1] at hq
      refine G_ref33_Count_check.i1 ?_
      simp only [G_ref33_Count_check.t1, G_ref33_Count_check.j2]
      refine bif_both (fun e => ?_) fun e => ?_
      · subst e
        rw [if_pos (by simpa using hb.symm)] at hq
        exact .inl (hq h2 U R2)
      · subst e
        rw [if_neg (of_decide_eq_false hb.symm)] at hq
        by_cases c3 : 24 < lvl
        · rw [if_pos c3] at hq
          exact bif_t (by simp; omega) (.inl (hq h2 U R2))
        rw [if_neg c3] at hq
        refine bif_f (by simp; omega) (st_nil (st_fld (st_load R2 rfl rfl (st_asI ?_))))
        by_cases c4 : 256 < n + 1
        · rw [if_pos c4] at hq
          exact bif_t (by simp; omega) (.inl (hq h2 U R2))
        rw [if_neg c4] at hq
        refine bif_f (by simp; omega) ?_
        exact goK.resolve_left c3 ks 0 (n + 1) h2 rfl (by omega) (by omega) U B R2 hq
    have p0 : ∀ b, b = decide (c < 0 ∨ 3 < c ∨ t < 0 ∨ 30 < t) → G_ref33_Count_check.p0 (kRet h Q) (.p (some ⟨id0, 1, 0⟩)) lvl (.p (some ⟨h.length, 5, 0⟩)) b h2 := by
      intro b hb
      refine G_ref33_Count_check.i0 ?_
      simp only [G_ref33_Count_check.t0, G_ref33_Count_check.j1]
      refine bif_both (fun e => ?_) fun e => ?_
      · subst e
        rw [if_pos (by simpa using hb.symm)] at hq
        exact .inl (hq h2 U R2)
      · subst e
        have p1 := p1 (of_decide_eq_false hb.symm)
        refine st_fld (st_load B rfl rfl (st_asB ?_))
        cases mm with
        | true =>
          refine bif_t rfl (st_fld (st_load B rfl rfl (st_asS ?_)))
          refine bif_both (fun e => p1 _ ?_) fun e => st_fld (st_load B rfl rfl (st_asB (bif_f rfl (p1 _ ?_))))
          · have : s ≠ [] := by simpa using e
            simp [this]
          · have : s = [] := by simpa using e
            simp [this]
        | false =>
          refine bif_f rfl (st_fld (st_load B rfl rfl (st_asB (bif_t rfl (st_fld (st_load B rfl rfl (lens _ (p1 _ ?_))))))))
          rw [decide_eq_decide]
          simp only [Bool.false_eq_true, false_and, true_and, false_or]
          rw [← List.length_pos_iff]; omega
    refine st_fld (st_load B rfl rfl (st_asI ?_))
    refine bif_both (fun e => p0 _ ?_) fun e1 => st_fld (st_load B rfl rfl (st_asI ?_))
    · simp only [decide_eq_true_eq] at e
      simp [e]
    refine bif_both (fun e => p0 _ ?_) fun e2 => st_fld (st_load B rfl rfl (st_asI ?_))
    · simp only [decide_eq_true_eq] at e
      simp [e]
    refine bif_both (fun e => p0 _ ?_) fun e3 => st_fld (st_load B rfl rfl (st_asI (p0 _ ?_)))
    · simp only [decide_eq_true_eq] at e
      simp [e]
    simp only [decide_eq_false_iff_not] at e1 e2 e3
    rw [decide_eq_decide]; omega

/-! ### the program's -/

theorem check_n : ∀ m, m ≤ 1000000 → ∀ (d : Der) (cs : List AV) (F : Nat → Prop) (lvl n id0 : Nat) (h : AHeap) (Q : AV → AHeap → Prop), d.sz ≤ m → lvl ≤ 1000 → n ≤ 256 → RecAt h id0 [.i .i64 (n : Int)] → DV h F d cs → (∀ i, F i → i ≠ id0) →
    (∀ h', Upd (· = id0) h h' → RecAt h' id0 [.i .i64 ((chkV lvl n d).2 : Int)] → Q (.i .i64 (chkV lvl n d).1) h') → C G_der_reader_check.id [.p (some ⟨id0, 1, 0⟩), .ag cs, .i .i64 (lvl : Int)] h Q := by
  intro m
  induction m with
  | zero => intro _ d cs F lvl n id0 h Q hd; have := szs_pos d; omega
  | succ m ih =>
    intro hm d cs F lvl n id0 h Q hd hlv hn R D hF hq
    cases D with
    | @mk c t mm s ks v rows Dk sv fv ov =>
    refine G_der_reader_check.call ?_
    simp only [G_der_reader_check.t, G_der_reader_check.j0]
    unfold Der.sz at hd
    have hkl := szs_len ks
    have hln := Dk.length
    have id0l := R.lt
    refine st_box rfl fun h1 hl1 U1 BP => st_box rfl fun h2 hl2 U2 B => st_box rfl fun h3 hl3 U3 BL => ?_
    have U03 : Upd (fun _ => False) h h3 := (U1.trans U2 fun _ _ h => h).trans U3 fun _ _ h => h
    have R3 := R.upd U03 fun h => h
    have BP := (BP.upd U2 fun h => h).upd U3 fun h => h
    have B := B.upd U3 fun h => h
    refine st_load BP rfl rfl ?_
    refine st_nil (st_fld (st_load R3 rfl rfl (st_asI (inc (by omega) (st_nil (st_fld (st_store R3 rfl (by simp) rfl rfl rfl fun h4 hl4 U4 R4 => ?_)))))))
    have R4 : RecAt h4 id0 [.i .i64 ((n + 1 : Nat) : Int)] := R4
    have BP := BP.upd U4 (by omega)
    have B := B.upd U4 (by omega)
    have BL := BL.upd U4 (by omega)
    have U : Upd (· = id0) h h4 := (U03.mono fun _ _ h => h.elim).trans U4 fun _ _ h => h
    have S4 := sv.upd U fun i hs _ => hF i (fv i hs).1
    unfold chkV at hq
    have lens : ∀ K : Int → Prop, K (ks.length : Int) → pLenSl v K := fun K hk => S4.len (by rw [← hln]; exact hk)
    have hks : ∀ k ∈ ks, k.sz ≤ m := fun k hk => by have := szs_mem hk; omega
    have p1 : ¬ (c < 0 ∨ 3 < c ∨ t < 0 ∨ 30 < t) → ∀ b, b = decide ((mm = true ∧ s ≠ []) ∨ (mm = false ∧ ks ≠ [])) → G_der_reader_check.p1 (kRet h Q) (.p (some ⟨h.length, 1, 0⟩)) (.p (some ⟨h1.length, 5, 0⟩)) (.p (some ⟨h2.length, 1, 0⟩)) b h4 := by
      intro c1 b hb
      rw [if_neg c1] at hq
      refine G_der_reader_check.i1 ?_
      simp only [G_der_reader_check.t1]
      refine bif_both (fun e => ?_) fun e => ?_
      · subst e
        rw [if_pos (by simpa using hb.symm)] at hq
        exact .inl (hq h4 U R4)
      · subst e
        rw [if_neg (of_decide_eq_false hb.symm)] at hq
        refine st_load BL rfl rfl (st_asI ?_)
        by_cases c3 : 24 < lvl
        · rw [if_pos c3] at hq
          exact bif_t (by simp; omega) (.inl (hq h4 U R4))
        rw [if_neg c3] at hq
        refine bif_f (by simp; omega) (st_load BP rfl rfl (st_nil (st_fld (st_load R4 rfl rfl (st_asI ?_)))))
        by_cases c4 : 256 < n + 1
        · rw [if_pos c4] at hq
          exact bif_t (by simp; omega) (.inl (hq h4 U R4))
        rw [if_neg c4] at hq
        refine bif_f (by simp; omega) (st_alloc fun h5 hl5 U5 RE => st_store RE rfl (by simp) rfl rfl rfl fun h6 hl6 U6 RE => ?_)
        have RE : RecAt h6 h4.length [.i .i64 0] := RE
        have BP := (BP.upd U5 fun h => h).upd U6 (by omega)
        have B := (B.upd U5 fun h => h).upd U6 (by omega)
        have BL := (BL.upd U5 fun h => h).upd U6 (by omega)
        have R6 := (R4.upd U5 fun h => h).upd U6 (by omega)
        have U6 : Upd (· = id0) h h6 := (U.trans U5 fun _ _ h => h.elim).trans U6 fun i hi he => absurd he (by omega)
        refine st_fld (st_load B rfl rfl ?_)
        have S6 := sv.upd U6 fun i hs _ => hF i (fv i hs).1
        refine G_der_all_api_Der_.call ?_
        simp only [G_der_all_api_Der_.t, G_der_all_api_Der_.j0]
        refine S6.len ?_
        rw [← hln]
        -- behind the call of all
        generalize hK : (fun (v76 : AV) (h77 : AHeap) => asB v76 fun c78 => pLoad1 (.p (some ⟨h4.length, 1, 0⟩)) h77 fun v80 => asI .i64 v80 fun n81 => kRet h Q (.i .i64 n81) h77) = K
        have hKe : ∀ b (h7 : AHeap) (e : Int) (n' : Nat), Upd (· = id0) h h7 → RecAt h7 h4.length [.i .i64 e] → RecAt h7 id0 [.i .i64 (n' : Int)] → (∀ h', Upd (· = id0) h h' → RecAt h' id0 [.i .i64 (n' : Int)] → Q (.i .i64 e) h') → K (.b b) h7 := by
          intro b h7 e n' U7 RE R7 hq
          rw [← hK]
          exact st_asB (st_load RE rfl rfl (st_asI (.inl (hq h7 U7 R7))))
        clear hK
        have go : ∀ (r : List Der) (i n2 : Nat) (hh : AHeap), ks.drop i = r → i ≤ ks.length → n2 ≤ 256 → Upd (· = id0) h hh → h6.length ≤ hh.length → RecAt hh h.length [.p (some ⟨id0, 1, 0⟩)] → RecAt hh h2.length [.i .i64 (lvl : Int)] → RecAt hh h4.length [.i .i64 0] → RecAt hh id0 [.i .i64 (n2 : Int)] →
            (∀ h', Upd (· = id0) h h' → RecAt h' id0 [.i .i64 ((chkK (lvl + 1) n2 r).2 : Int)] → Q (.i .i64 (chkK (lvl + 1) n2 r).1) h') →
            G_der_all_api_Der_.p0 (kRet h6 K) (.fn (.func G_der_reader_check_1.id) [] [.p (some ⟨h.length, 1, 0⟩), .p (some ⟨h2.length, 1, 0⟩), .p (some ⟨h4.length, 1, 0⟩)]) v ks.length i hh := by
          intro r
          induction r with
          | nil =>
            intro i n2 hh hr hi hn2 U hlh BP BL RE R hk
            have hle := drop_end hr
            refine G_der_all_api_Der_.i0 ?_
            simp only [G_der_all_api_Der_.t0]
            refine bif_f (by simp; omega) (.inl (hKe true hh 0 n2 U RE R ?_))
            unfold chkK at hk
            exact hk
          | cons k r ihr =>
            intro i n2 hh hr hi hn2 U hlh BP BL RE R hk
            have hlt := drop_lt hr
            have hn' := drop_next hr
            have hki := at_of_drop hr
            have S2 := sv.upd U fun i hs _ => hF i (fv i hs).1
            have D2 := Dk.upd (F' := fun i => F i ∧ i < h.length) U fun i hi hl => ⟨hF i hi, hi, hl⟩
            obtain ⟨r1, g1, e1⟩ := D2.get hki
            obtain ⟨id1, ver1, off1, cap1, b1, rfl, A1⟩ := S2.at (by omega)
            have q1 := rows_get rows i r1 D2.len5 g1
            have hk0 := List.mem_of_getElem? hki
            refine G_der_all_api_Der_.i0 ?_
            simp only [G_der_all_api_Der_.t0, G_der_all_api_Der_.j0]
            refine bif_t (by simp; omega) (st_idx A1 (by omega) (st_elemN A1 (by omega) q1 ?_))
            refine st_alloc fun g1 gl1 V1 RK => st_storeN RK rfl e1.len e1.cells fun g2 gl2 V2 RK => st_loadN RK e1.len.symm ?_
            have V12 : Upd (fun _ => False) hh g2 := (V1.mono (M' := fun i => i = hh.length) fun _ _ h => h.elim).trans V2 (fun _ _ h => h) |>.mono fun i hi he => by omega
            refine callV_c rfl ?_
            show C G_der_reader_check_1.id [.ag r1, .p (some ⟨h.length, 1, 0⟩), .p (some ⟨h2.length, 1, 0⟩), .p (some ⟨h4.length, 1, 0⟩)] g2 _
            refine G_der_reader_check_1.call ?_
            simp only [G_der_reader_check_1.t]
            refine st_box rfl fun g3 gl3 V3 RB => ?_
            have V13 : Upd (fun _ => False) hh g3 := V12.trans V3 fun _ _ h => h
            have BP3 := BP.upd V13 fun h => h
            have BL3 := BL.upd V13 fun h => h
            have RE3 := RE.upd V13 fun h => h
            have R3 := R.upd V13 fun h => h
            have e3 := e1.ext V13
            have RB : RecAt g3 g2.length r1 := RB
            refine st_load BP3 rfl rfl ?_
            have eP : (AV.ag r1).parts.length = 5 := e1.len
            rw [eP]
            refine st_loadN RB e1.len.symm (st_load BL3 rfl rfl (st_asI (inc (by omega) ?_)))
            refine ih (by omega) k r1 (fun i => F i ∧ i < h.length) (lvl + 1) n2 id0 g3 _ (hks k hk0) (by omega) hn2 R3 e3 (fun i hi => hF i hi.1) fun g4 V4 R4 => st_asI ?_
            have gg := V4.1
            have RE4 := RE3.upd V4 (by omega)
            refine st_store RE4 rfl (by simp) rfl rfl rfl fun g5 gl5 V5 RE5 => st_load RE5 rfl rfl (st_asI (.inl (st_asB ?_)))
            have RE5 : RecAt g5 h4.length [.i .i64 (chkV (lvl + 1) n2 k).1] := RE5
            have R5 := R4.upd V5 (by omega)
            have BP5 := (BP3.upd V4 (by omega)).upd V5 (by omega)
            have BL5 := (BL3.upd V4 (by omega)).upd V5 (by omega)
            have UU : Upd (· = id0) h g5 := ((U.trans V13 fun _ _ h => h.elim).trans V4 fun _ _ h => h).trans V5 fun i hi he => absurd he (by omega)
            have gg2 := V13.1
            rw [chk_step] at hk
            by_cases he : (chkV (lvl + 1) n2 k).1 ≠ 0
            · rw [if_pos he] at hk
              exact bif_t (by simp [he]) (.inl (hKe false g5 _ _ UU RE5 R5 hk))
            · rw [if_neg he] at hk
              have he0 : (chkV (lvl + 1) n2 k).1 = 0 := by simpa using he
              rw [he0] at RE5
              refine bif_f (by simp [he0]) (inc (by omega) ?_)
              exact ihr (i + 1) _ g5 hn' (by omega) ((chk_n k.sz).1 k _ _ (Nat.le_refl _) he0) UU (by omega) BP5 BL5 RE5 R5 hk
        exact go ks 0 (n + 1) h6 rfl (by omega) (by omega) U6 (Nat.le_refl _) BP BL RE R6 hq
    have p0 : ∀ b, b = decide (c < 0 ∨ 3 < c ∨ t < 0 ∨ 30 < t) → G_der_reader_check.p0 (kRet h Q) (.p (some ⟨h.length, 1, 0⟩)) (.p (some ⟨h1.length, 5, 0⟩)) (.p (some ⟨h2.length, 1, 0⟩)) b h4 := by
      intro b hb
      refine G_der_reader_check.i0 ?_
      simp only [G_der_reader_check.t0, G_der_reader_check.j1]
      refine bif_both (fun e => ?_) fun e => ?_
      · subst e
        rw [if_pos (by simpa using hb.symm)] at hq
        exact .inl (hq h4 U R4)
      · subst e
        have p1 := p1 (of_decide_eq_false hb.symm)
        refine st_fld (st_load B rfl rfl (st_asB ?_))
        cases mm with
        | true =>
          refine bif_t rfl (st_fld (st_load B rfl rfl (st_asS ?_)))
          refine bif_both (fun e => p1 _ ?_) fun e => st_fld (st_load B rfl rfl (st_asB (bif_f rfl (p1 _ ?_))))
          · have : s ≠ [] := by simpa using e
            simp [this]
          · have : s = [] := by simpa using e
            simp [this]
        | false =>
          refine bif_f rfl (st_fld (st_load B rfl rfl (st_asB (bif_t rfl (st_fld (st_load B rfl rfl (lens _ (p1 _ ?_))))))))
          rw [decide_eq_decide]
          simp only [Bool.false_eq_true, false_and, true_and, false_or]
          rw [← List.length_pos_iff]; omega
    refine st_fld (st_load B rfl rfl (st_asI ?_))
    refine bif_both (fun e => p0 _ ?_) fun e1 => st_fld (st_load B rfl rfl (st_asI ?_))
    · simp only [decide_eq_true_eq] at e
      simp [e]
    refine bif_both (fun e => p0 _ ?_) fun e2 => st_fld (st_load B rfl rfl (st_asI ?_))
    · simp only [decide_eq_true_eq] at e
      simp [e]
    refine bif_both (fun e => p0 _ ?_) fun e3 => st_fld (st_load B rfl rfl (st_asI (p0 _ ?_)))
    · simp only [decide_eq_true_eq] at e
      simp [e]
    simp only [decide_eq_false_iff_not] at e1 e2 e3
    rw [decide_eq_decide]; omega

end
end Go.Proofs.YtffgchcidkapjaaDoor

/- Writing values; Encode. -/
set_option linter.unusedVariables false
set_option linter.unusedSimpArgs false
set_option linter.unusedSectionVars false
set_option maxRecDepth 20000
namespace Go.Proofs.YtffgchcidkapjaaDoor
open Go.GAM Go.RowKit

mutual
def wfV : Der → Prop
  | .mk c t m s ks => (0 ≤ c ∧ c ≤ 3 ∧ 0 ≤ t ∧ t ≤ 30) ∧ (m = true → s = []) ∧ (m = false → ks = []) ∧ wfK ks
def wfK : List Der → Prop
  | [] => True
  | k :: r => wfV k ∧ wfK r
end
mutual
def dsum : Der → Nat
  | .mk _ _ _ s ks => s.length + 10 + dsums ks
def dsums : List Der → Nat
  | [] => 0
  | k :: r => dsum k + dsums r
end
def lenB (n : Nat) : List UInt8 := if n < 128 then [UInt8.ofNat n] else if n < 256 then [129, UInt8.ofNat n] else [130, UInt8.ofNat (n / 256), UInt8.ofNat n]
def hdB (c t : Int) (m : Bool) : UInt8 := UInt8.ofNat (c.toNat * 64 + t.toNat + if m = true then 32 else 0)
mutual
def bytesS : Der → List UInt8
  | .mk c t m s ks => hdB c t m :: lenB (s ++ bytesK ks).length ++ (s ++ bytesK ks)
def bytesK : List Der → List UInt8
  | [] => []
  | k :: r => bytesS k ++ bytesK r
end
def encS (d : Der) : Except Int (List UInt8) :=
  if (chkV 1 0 d).1 ≠ 0 then .error (chkV 1 0 d).1 else if 65535 < (bytesS d).length then .error 3 else .ok (bytesS d)

theorem lenB_len (n : Nat) : (lenB n).length ≤ 3 := by unfold lenB; split <;> (try split) <;> simp
theorem bytes_n : ∀ m, (∀ d : Der, d.sz ≤ m → (bytesS d).length ≤ dsum d) ∧ ∀ ks : List Der, szs ks ≤ m → (bytesK ks).length ≤ dsums ks := by
  intro m
  induction m with
  | zero =>
    refine ⟨fun d hd => absurd hd (by have := szs_pos d; omega), fun ks hk => ?_⟩
    cases ks with
    | nil => simp [bytesK]
    | cons k r => have := szs_pos k; unfold szs at hk; omega
  | succ m ih =>
    have hV : ∀ d : Der, d.sz ≤ m + 1 → (bytesS d).length ≤ dsum d := by
      intro d hd
      obtain ⟨c, t, mm, s, ks⟩ := d
      unfold Der.sz at hd
      have := ih.2 ks (by omega)
      have := lenB_len (s ++ bytesK ks).length
      unfold bytesS dsum
      simp only [List.length_cons, List.length_append] at *
      omega
    refine ⟨hV, fun ks => ?_⟩
    induction ks with
    | nil => intro _; simp [bytesK]
    | cons k r ihr =>
      intro hk
      unfold szs at hk
      have := hV k (by omega)
      have := ihr (by omega)
      unfold bytesK dsums
      rw [List.length_append]; omega
theorem bytes_len (d : Der) : (bytesS d).length ≤ dsum d := (bytes_n d.sz).1 d (Nat.le_refl _)
theorem bytesK_len (ks : List Der) : (bytesK ks).length ≤ dsums ks := (bytes_n (szs ks)).2 ks (Nat.le_refl _)
theorem bytesK_app : ∀ (a b : List Der), bytesK (a ++ b) = bytesK a ++ bytesK b
  | [], b => by simp [bytesK]
  | k :: a, b => by simp [bytesK, bytesK_app a b]
theorem dsums_app : ∀ (a b : List Der), dsums (a ++ b) = dsums a + dsums b
  | [], b => by simp [dsums]
  | k :: a, b => by simp [dsums, dsums_app a b]; omega
theorem dsums_take (ks : List Der) (i : Nat) : dsums (ks.take i) ≤ dsums ks := by
  have := dsums_app (ks.take i) (ks.drop i)
  rw [List.take_append_drop] at this; omega
theorem dsums_mem : ∀ {ks : List Der} {k : Der}, k ∈ ks → dsum k ≤ dsums ks
  | [], k, h => by cases h
  | a :: r, k, h => by
    unfold dsums
    rcases List.mem_cons.1 h with rfl | h
    · omega
    · have := dsums_mem h; omega
theorem wfK_mem : ∀ {ks : List Der} {k : Der}, wfK ks → k ∈ ks → wfV k
  | [], k, _, h => by cases h
  | a :: r, k, hw, h => by
    unfold wfK at hw
    rcases List.mem_cons.1 h with rfl | h
    · exact hw.1
    · exact wfK_mem hw.2 h

theorem chk_wf : ∀ m, (∀ (d : Der) (lvl n : Nat), d.sz ≤ m → (chkV lvl n d).1 = 0 → wfV d) ∧ (∀ (ks : List Der) (lvl n : Nat), szs ks ≤ m → (chkK lvl n ks).1 = 0 → wfK ks) := by
  intro m
  induction m with
  | zero =>
    refine ⟨fun d lvl n hd => absurd hd (by have := szs_pos d; omega), fun ks lvl n hk _ => ?_⟩
    cases ks with
    | nil => unfold wfK; trivial
    | cons k r => have := szs_pos k; unfold szs at hk; omega
  | succ m ih =>
    have hV : ∀ (d : Der) (lvl n : Nat), d.sz ≤ m + 1 → (chkV lvl n d).1 = 0 → wfV d := by
      intro d lvl n hd h
      obtain ⟨c, t, mm, s, ks⟩ := d
      unfold Der.sz at hd
      unfold chkV at h
      split at h
      · cases h
      rename_i c1
      split at h
      · cases h
      rename_i c2
      split at h
      · cases h
      split at h
      · cases h
      unfold wfV
      refine ⟨by omega, fun hm => ?_, fun hm => ?_, ih.2 ks _ _ (by omega) h⟩
      · exact Classical.byContradiction fun hs => c2 (.inl ⟨hm, hs⟩)
      · exact Classical.byContradiction fun hs => c2 (.inr ⟨hm, hs⟩)
    refine ⟨hV, fun ks => ?_⟩
    induction ks with
    | nil => intro lvl n _ _; unfold wfK; trivial
    | cons k r ihr =>
      intro lvl n hk h
      unfold szs at hk
      unfold chkK at h
      unfold wfK
      split at h
      · rename_i h1; exact absurd h h1
      · rename_i h1
        exact ⟨hV k lvl n (by omega) (by simpa using h1), ihr _ _ (by omega) h⟩

theorem hd_or {c t : Nat} (hc : c < 4) (ht : t < 31) : c * 64 ||| t = c * 64 + t ∧ (c * 64 + t) ||| 32 = c * 64 + t + 32 := by
  have : ∀ c, c < 4 → ∀ t, t < 31 → c * 64 ||| t = c * 64 + t ∧ (c * 64 + t) ||| 32 = c * 64 + t + 32 := by decide +kernel
  exact this c hc t ht

section
variable {h0 : AHeap} {Q : AV → AHeap → Prop}

/-! ### the program's -/

theorem write_p3 {acc l : List UInt8} {v : AV} {h : AHeap} (T : Tx h0 h v l) (hl : l.length + acc.length ≤ 1000000) (hq : Q (.s (l ++ acc)) h0) : G_der_write.p3 (kRet h0 Q) acc v h := by
  refine G_der_write.i3 ?_
  simp only [G_der_write.t3]
  exact T.str ⟨by omega, kRet_pure rfl T.upd.ext hq⟩
theorem write_p2 {acc : List UInt8} {x : Nat} {h : AHeap} (U : Upd (fun _ => False) h0 h) (hx : x < 256) (hl : acc.length < 65536) (hq : Q (.s (UInt8.ofNat x :: lenB acc.length ++ acc)) h0) : G_der_write.p2 (kRet h0 Q) acc x h := by
  refine G_der_write.i2 ?_
  simp only [G_der_write.t2, G_der_write.j3]
  rw [wrap_u8_nat x, Nat.mod_eq_of_lt hx, show ((x : Nat) : Int) = ((UInt8.ofNat x).toNat : Int) by rw [UInt8.toNat_ofNat']; omega]
  refine Tx.one U fun v h1 T U1 => ?_
  unfold lenB at hq
  by_cases h1 : acc.length < 128
  · rw [if_pos h1] at hq
    refine bif_t (by simp; omega) (withI_is (wrap_u8_nat _) ?_)
    rw [byte_mod]
    exact T.push (by simp) fun v' h' T' => write_p3 T' (by simp; omega) (by simpa using hq)
  rw [if_neg h1] at hq
  refine bif_f (by simp; omega) ?_
  by_cases h2 : acc.length < 256
  · rw [if_pos h2] at hq
    refine bif_t (by simp; omega) (withI_is (wrap_u8_nat _) ?_)
    rw [byte_mod]
    exact T.push2 (c := 129) (by simp) fun v' h' T' => write_p3 T' (by simp; omega) (by simpa using hq)
  rw [if_neg h2] at hq
  refine bif_f (by simp; omega) ?_
  have h3 : decide ((acc.length : Int) < 65536) = true := by
    rw [decide_eq_true_eq]; omega
  rw [h3, cond_true]
  refine st_shr (k := .i64) (b := 8) (by decide) (withI_is (wrap_u8_nat _) ?_)
  rw [wrap_u8_nat, byte_mod, byte_mod]
  exact T.push3 (c := 130) (by simp) fun v' h' T' => write_p3 T' (by simp; omega) (by simpa using hq)

theorem write_n : ∀ m, m ≤ 1000000 → ∀ (d : Der) (cs : List AV) (F : Nat → Prop) (h : AHeap) (Q : AV → AHeap → Prop), d.sz ≤ m → wfV d → dsum d ≤ 60000 → DV h F d cs → Q (.s (bytesS d)) h → C G_der_write.id [.ag cs] h Q := by
  intro m
  induction m with
  | zero => intro _ d cs F h Q hd; have := szs_pos d; omega
  | succ m ih =>
    intro hm d cs F h Q hd hw hs D hq
    cases D with
    | @mk c t mm s ks v rows Dk sv fv ov =>
    unfold Der.sz at hd
    have hkl := szs_len ks
    have hln := Dk.length
    unfold wfV at hw
    obtain ⟨⟨hc0, hc3, ht0, ht30⟩, hw1, hw2, hw3⟩ := hw
    unfold dsum at hs
    obtain ⟨cn, rfl⟩ : ∃ n : Nat, c = n := ⟨c.toNat, by omega⟩
    obtain ⟨tn, rfl⟩ : ∃ n : Nat, t = n := ⟨t.toNat, by omega⟩
    refine G_der_write.call ?_
    simp only [G_der_write.t, G_der_write.j0]
    refine st_box rfl fun h1 hl1 U1 B => st_fld (st_load B rfl rfl (st_asS (st_fld (st_load B rfl rfl ?_))))
    have S1 := sv.upd U1 fun _ _ _ h => h
    refine S1.len ?_
    rw [← hln]
    have hbl := bytesK_len ks
    have fin : ∀ hh, Upd (fun _ => False) h hh → RecAt hh h.length [.i .i64 (cn : Int), .i .i64 (tn : Int), .b mm, .s s, v] → G_der_write.p1 (kRet h Q) (.p (some ⟨h.length, 5, 0⟩)) (s ++ bytesK ks) hh := by
      intro hh U B
      refine G_der_write.i1 ?_
      simp only [G_der_write.t1, G_der_write.j2]
      obtain ⟨o1, o2⟩ := hd_or (c := cn) (t := tn) (by omega) (by omega)
      refine st_fld (st_load B rfl rfl (st_asI (st_shl (b := 6) (by omega) (by omega) ?_)))
      refine st_fld (st_load B rfl rfl (st_asI (withI_is (n := ((cn * 64 + tn : Nat) : Int)) ?_ ?_)))
      · rw [bits_or (by omega) (by omega), show cn * 2 ^ 6 = cn * 64 from rfl, o1]
      refine st_fld (st_load B rfl rfl (st_asB ?_))
      unfold bytesS hdB at hq
      rw [Int.toNat_natCast, Int.toNat_natCast] at hq
      have hcl : (s ++ bytesK ks).length < 65536 := by rw [List.length_append]; omega
      cases mm with
      | true =>
        refine bif_t rfl ?_
        have := bits_or (x := cn * 64 + tn) (y := 32) (by omega) (by omega)
        rw [o2] at this
        rw [show bitsOp .or .i64 ((cn * 64 + tn : Nat) : Int) 32 = ((cn * 64 + tn + 32 : Nat) : Int) from this]
        exact write_p2 U (by omega) hcl hq
      | false =>
        exact bif_f rfl (write_p2 U (by omega) hcl hq)
    have loop : ∀ (r : List Der) (i : Nat) (hh : AHeap), ks.drop i = r → i ≤ ks.length → Upd (fun _ => False) h hh → RecAt hh h.length [.i .i64 (cn : Int), .i .i64 (tn : Int), .b mm, .s s, v] → G_der_write.p0 (kRet h Q) (.p (some ⟨h.length, 5, 0⟩)) (s ++ bytesK (ks.take i)) v ks.length i hh := by
      intro r
      induction r with
      | nil =>
        intro i hh hr hi U B
        have hle := drop_end hr
        refine G_der_write.i0 ?_
        simp only [G_der_write.t0, G_der_write.j1]
        rw [List.take_of_length_le hle]
        exact bif_f (by simp; omega) (fin hh U B)
      | cons k r ihr =>
        intro i hh hr hi U B
        have hlt := drop_lt hr
        have hn' := drop_next hr
        have hki := at_of_drop hr
        have S2 := sv.upd U fun _ _ _ h => h
        obtain ⟨r1, g1, e1⟩ := (Dk.upd (F' := F) U fun i hi _ => ⟨fun h => h, hi⟩).get hki
        obtain ⟨id1, ver1, off1, cap1, b1, rfl, A1⟩ := S2.at (by omega)
        have q1 := rows_get rows i r1 Dk.len5 g1
        have hk0 := List.mem_of_getElem? hki
        have hsz := szs_mem hk0
        have hds := dsums_mem hk0
        have hbt := bytesK_len (ks.take i)
        have hdt := dsums_take ks i
        have hbk := bytes_len k
        refine G_der_write.i0 ?_
        simp only [G_der_write.t0, G_der_write.j0, G_der_write.j1]
        refine bif_t (by simp; omega) (st_idx A1 (by omega) (st_elemN A1 (by omega) q1 ?_))
        refine st_alloc fun g1 gl1 V1 RK => st_storeN RK rfl e1.len e1.cells fun g2 gl2 V2 RK => st_loadN RK e1.len.symm ?_
        have V12 : Upd (fun _ => False) hh g2 := (V1.mono (M' := fun i => i = hh.length) fun _ _ h => h.elim).trans V2 (fun _ _ h => h) |>.mono fun i hi he => by omega
        refine ih (by omega) k r1 F g2 _ (by omega) (wfK_mem hw3 hk0) (by omega) (e1.ext V12) (st_asS ⟨by rw [List.length_append]; omega, ?_⟩)
        have e : s ++ bytesK (ks.take i) ++ bytesS k = s ++ bytesK (ks.take (i + 1)) := by
          rw [take_snoc hki, bytesK_app, List.append_assoc]
          simp [bytesK]
        rw [e]
        have hbt2 := bytesK_len (ks.take (i + 1))
        have hdt2 := dsums_take ks (i + 1)
        refine bif_f (by rw [List.length_append]; simp; omega) (inc (by omega) ?_)
        exact ihr (i + 1) g2 hn' (by omega) (U.trans V12 fun _ _ h => h) (B.upd V12 fun h => h)
    have := loop ks 0 h1 rfl (by omega) U1 B
    rw [List.take_zero, bytesK, List.append_nil] at this
    exact this

/-! ### the reference's -/

theorem lengthR_c {n : Nat} {h : AHeap} (hn : n < 65536) (hq : Q (.s (lenB n)) h) : C G_ref33_length.id [.i .i64 (n : Int)] h Q := by
  refine G_ref33_length.call ?_
  simp only [G_ref33_length.t, G_ref33_length.j0]
  unfold lenB at hq
  have last : ∀ (v : AV) (l : List UInt8) (hh : AHeap), l.length ≤ 10 → Tx h hh v l → Q (.s (UInt8.ofNat (128 + l.length) :: l)) h → G_ref33_length.p0 (kRet h Q) v 0 hh := by
    intro v l hh hl T hq
    refine G_ref33_length.i0 ?_
    simp only [G_ref33_length.t0]
    refine bif_f rfl (T.arr.rd.len ?_)
    refine withI_is (n := ((128 + l.length : Nat) : Int)) (by rw [wrap_i64 (by omega) (by omega)]; omega) ?_
    rw [wrap_u8_nat, byte_mod]
    refine Tx.one T.upd fun v2 h2 T2 U2 => T2.str ((T.ext U2).str ⟨by simp; omega, kRet_pure rfl T2.upd.ext ?_⟩)
    simpa using hq
  have step : ∀ (v : AV) (l : List UInt8) (x : Nat) (hh : AHeap), 0 < x → x < 65536 → l.length ≤ 10 → Tx h hh v l → (∀ v' h', Tx h h' v' (UInt8.ofNat x :: l) → G_ref33_length.p0 (kRet h Q) v' ((x / 256 : Nat) : Int) h') → G_ref33_length.p0 (kRet h Q) v x hh := by
    intro v l x hh hx0 hx hl T hk
    refine G_ref33_length.i0 ?_
    simp only [G_ref33_length.t0, G_ref33_length.j0]
    refine bif_t (by simp; omega) ?_
    rw [wrap_u8_nat, byte_mod]
    refine Tx.one T.upd fun v2 h2 T2 U2 => ?_
    refine T2.app (T.ext U2).byt (by simp; omega) fun v3 h3 T3 _ => st_shr (k := .i64) (b := 8) (by decide) ?_
    exact hk v3 h3 (by simpa using T3)
  by_cases h1 : n < 128
  · rw [if_pos h1] at hq
    refine bif_t (by simp; omega) ?_
    rw [wrap_u8_nat, byte_mod]
    refine Tx.one (Upd.refl _ _) fun v2 h2 T2 U2 => T2.ret hq
  rw [if_neg h1] at hq
  refine bif_f (by simp; omega) ?_
  refine step _ [] n h (by omega) hn (by simp) (Tx.start h) fun v1 h1 T1 => ?_
  by_cases h2 : n < 256
  · rw [if_pos h2] at hq
    rw [show n / 256 = 0 by omega]
    exact last v1 _ h1 (by simp) T1 hq
  · rw [if_neg h2] at hq
    refine step _ _ (n / 256) h1 (by omega) (by omega) (by simp) T1 fun v2 h2 T2 => ?_
    rw [show n / 256 / 256 = 0 by omega]
    exact last v2 _ h2 (by simp) T2 hq

theorem bytes_p2 {l : List UInt8} {h : AHeap} (E : Ext h0 h) (hq : Q (.s l) h0) : G_ref33_bytes.p2 (kRet h0 Q) l h := by
  refine G_ref33_bytes.i2 ?_
  simp only [G_ref33_bytes.t2]
  exact kRet_pure rfl E hq
theorem bytes_p1 {acc : List UInt8} {x : Nat} {h : AHeap} (U : Upd (fun _ => False) h0 h) (hx : x < 256) (hl : acc.length < 65536) (hq : Q (.s (UInt8.ofNat x :: lenB acc.length ++ acc)) h0) : G_ref33_bytes.p1 (kRet h0 Q) x acc h := by
  have h3 := lenB_len acc.length
  refine G_ref33_bytes.i1 ?_
  simp only [G_ref33_bytes.t1, G_ref33_bytes.j2]
  rw [wrap_u8_nat x, Nat.mod_eq_of_lt hx, show ((x : Nat) : Int) = ((UInt8.ofNat x).toNat : Int) by rw [UInt8.toNat_ofNat']; omega]
  refine ⟨?_, ?_⟩
  · refine Tx.one U fun v h1 T U1 => T.str (lengthR_c hl (st_asS (T.str ⟨rfl, ⟨by simp; omega, ⟨by simp; omega, bytes_p2 T.upd.ext ?_⟩⟩⟩)))
    simpa using hq
  · refine lengthR_c hl (st_asS (Tx.one U fun v h1 T U1 => T.str ⟨by simp; omega, ⟨by simp; omega, bytes_p2 T.upd.ext ?_⟩⟩))
    simpa using hq

theorem Rbytes_n : ∀ m, m ≤ 1000000 → ∀ (d : Der) (cs : List AV) (F : Nat → Prop) (h : AHeap) (Q : AV → AHeap → Prop), d.sz ≤ m → wfV d → dsum d ≤ 60000 → DV h F d cs → Q (.s (bytesS d)) h → C G_ref33_bytes.id [.ag cs] h Q := by
  intro m
  induction m with
  | zero => intro _ d cs F h Q hd; have := szs_pos d; omega
  | succ m ih =>
    intro hm d cs F h Q hd hw hs D hq
    cases D with
    | @mk c t mm s ks v rows Dk sv fv ov =>
    unfold Der.sz at hd
    have hkl := szs_len ks
    have hln := Dk.length
    unfold wfV at hw
    obtain ⟨⟨hc0, hc3, ht0, ht30⟩, hw1, hw2, hw3⟩ := hw
    unfold dsum at hs
    obtain ⟨cn, rfl⟩ : ∃ n : Nat, c = n := ⟨c.toNat, by omega⟩
    obtain ⟨tn, rfl⟩ : ∃ n : Nat, t = n := ⟨t.toNat, by omega⟩
    have hbl := bytesK_len ks
    have hcl : (s ++ bytesK ks).length < 65536 := by rw [List.length_append]; omega
    unfold bytesS hdB at hq
    rw [Int.toNat_natCast, Int.toNat_natCast] at hq
    refine G_ref33_bytes.call ?_
    simp only [G_ref33_bytes.t, G_ref33_bytes.j0, G_ref33_bytes.j1]
    refine st_box rfl fun h1 hl1 U1 B => st_fld (st_load B rfl rfl (st_asI ?_))
    refine withI_is (n := ((64 * cn : Nat) : Int)) (by rw [wrap_i64 (by omega) (by omega)]; omega) (st_fld (st_load B rfl rfl (st_asI ?_)))
    refine withI_is (n := ((cn * 64 + tn : Nat) : Int)) (by rw [wrap_i64 (by omega) (by omega)]; omega) (st_fld (st_load B rfl rfl (st_asS (st_fld (st_load B rfl rfl (st_asB ?_))))))
    cases mm with
    | false =>
      have : ks = [] := hw2 rfl
      subst this
      refine bif_f rfl (bytes_p1 U1 (by omega) ?_ ?_)
      · simpa [bytesK] using hcl
      · simpa [bytesK] using hq
    | true =>
      refine bif_t rfl (withI_is (n := ((cn * 64 + tn + 32 : Nat) : Int)) (by rw [wrap_i64 (by omega) (by omega)]; omega) ?_)
      have loop : ∀ (r : List Der) (i : Nat), ks.drop i = r → i ≤ ks.length → G_ref33_bytes.p0 (kRet h Q) (.p (some ⟨h.length, 5, 0⟩)) ((cn * 64 + tn + 32 : Nat) : Int) (s ++ bytesK (ks.take i)) i h1 := by
        intro r
        induction r with
        | nil =>
          intro i hr hi
          have hle := drop_end hr
          have S1 := sv.upd U1 fun _ _ _ h => h
          refine G_ref33_bytes.i0 ?_
          simp only [G_ref33_bytes.t0, G_ref33_bytes.j1]
          rw [List.take_of_length_le hle]
          refine st_fld (st_load B rfl rfl (S1.len (bif_f (by simp; omega) ?_)))
          exact bytes_p1 U1 (by omega) hcl hq
        | cons k r ihr =>
          intro i hr hi
          have hlt := drop_lt hr
          have hn' := drop_next hr
          have hki := at_of_drop hr
          have S2 := sv.upd U1 fun _ _ _ h => h
          obtain ⟨r1, g1, e1⟩ := (Dk.upd (F' := F) U1 fun i hi _ => ⟨fun h => h, hi⟩).get hki
          obtain ⟨id1, ver1, off1, cap1, b1, rfl, A1⟩ := S2.at (by omega)
          have q1 := rows_get rows i r1 Dk.len5 g1
          have hk0 := List.mem_of_getElem? hki
          have hsz := szs_mem hk0
          have hds := dsums_mem hk0
          have hbt := bytesK_len (ks.take i)
          have hdt := dsums_take ks i
          have hbk := bytes_len k
          refine G_ref33_bytes.i0 ?_
          simp only [G_ref33_bytes.t0, G_ref33_bytes.j0]
          refine st_fld (st_load B rfl rfl (S2.len (bif_t (by simp; omega) ?_)))
          refine st_fld (st_load B rfl rfl (st_idx A1 (by omega) (st_elemN A1 (by omega) q1 ?_)))
          refine ih (by omega) k r1 F h1 _ (by omega) (wfK_mem hw3 hk0) (by omega) e1 (st_asS ⟨by rw [List.length_append]; omega, inc (by omega) ?_⟩)
          have e : s ++ bytesK (ks.take i) ++ bytesS k = s ++ bytesK (ks.take (i + 1)) := by
            rw [take_snoc hki, bytesK_app, List.append_assoc]
            simp [bytesK]
          rw [e]
          exact ihr (i + 1) hn' (by omega)
      have := loop ks 0 rfl (by omega)
      rw [List.take_zero, bytesK, List.append_nil] at this
      exact this

/-! ### Encode -/

def encR : Except Int (List UInt8) → AV
  | .error e => .tu [.s [], .i .i64 e]
  | .ok l => .tu [.s l, .i .i64 0]

theorem encode_c {d : Der} {cs : List AV} {F : Nat → Prop} {h : AHeap} {Q : AV → AHeap → Prop} (hsz : d.sz ≤ 100000) (hs : dsum d ≤ 60000) (D : DV h F d cs) (hF : ∀ i, F i → i < h.length) (hq : Q (encR (encS d)) h) : C G_der_Encode.id [.ag cs] h Q := by
  refine G_der_Encode.call ?_
  simp only [G_der_Encode.t]
  refine st_box rfl fun h1 hl1 U1 B => st_box rfl fun h2 hl2 U2 R => ?_
  have B : RecAt h1 h.length cs := B
  have B2 := B.upd U2 fun h => h
  have hp : (AV.ag cs).parts.length = 5 := D.len
  rw [hp]
  have D2 := (D.ext U1).ext U2
  unfold encS at hq
  refine st_loadN B2 D.len.symm (check_n d.sz (by omega) d cs F 1 0 h1.length h2 _ (Nat.le_refl _) (by omega) (by omega) R D2 (fun i hi => by have := hF i hi; omega) fun h3 U3 R3 => st_asI ?_)
  have E : Ext h h3 := ((((U1.mono (M' := fun i => h.length ≤ i) fun _ _ h => h.elim).trans U2 fun _ _ h => h.elim).trans U3 fun i hi he => by omega).mono (M' := fun i => False) fun i hi he => by omega).ext
  by_cases he : (chkV 1 0 d).1 ≠ 0
  · rw [if_pos he] at hq
    exact bif_t (by simp [he]) (kRet_pure rfl E hq)
  · rw [if_neg he] at hq
    have he0 : (chkV 1 0 d).1 = 0 := by simpa using he
    have hw := (chk_wf d.sz).1 d 1 0 (Nat.le_refl _) he0
    have D3 := D2.upd (F' := F) U3 fun i hi _ => ⟨by have := hF i hi; omega, hi⟩
    have B3 := B2.upd U3 (by omega)
    have hbl := bytes_len d
    refine bif_f (by simp [he0]) (st_loadN B3 D.len.symm (write_n d.sz (by omega) d cs F h3 _ (Nat.le_refl _) hw hs D3 (st_asS ?_)))
    rw [if_neg (by omega)] at hq
    exact bif_f (by simp; omega) (kRet_pure rfl E hq)
theorem Rencode_c {d : Der} {cs : List AV} {F : Nat → Prop} {h : AHeap} {Q : AV → AHeap → Prop} (hsz : d.sz ≤ 100000) (hs : dsum d ≤ 60000) (D : DV h F d cs) (hF : ∀ i, F i → i < h.length) (hq : Q (encR (encS d)) h) : C G_ref33_Encode.id [.ag cs] h Q := by
  refine G_ref33_Encode.call ?_
  simp only [G_ref33_Encode.t]
  refine st_box rfl fun h1 hl1 U1 B => st_box rfl fun h2 hl2 U2 R => ?_
  have B : RecAt h1 h.length cs := B
  have B2 := B.upd U2 fun h => h
  have hp : (AV.ag cs).parts.length = 5 := D.len
  rw [hp]
  have D2 := (D.ext U1).ext U2
  unfold encS at hq
  refine st_loadN B2 D.len.symm (Rcheck_n d.sz (by omega) d cs F 1 0 h1.length h2 _ (Nat.le_refl _) (by omega) (by omega) R D2 (fun i hi => by have := hF i hi; omega) fun h3 U3 R3 => st_asI ?_)
  have E : Ext h h3 := ((((U1.mono (M' := fun i => h.length ≤ i) fun _ _ h => h.elim).trans U2 fun _ _ h => h.elim).trans U3 fun i hi he => by omega).mono (M' := fun i => False) fun i hi he => by omega).ext
  by_cases he : (chkV 1 0 d).1 ≠ 0
  · rw [if_pos he] at hq
    exact bif_t (by simp [he]) (kRet_pure rfl E hq)
  · rw [if_neg he] at hq
    have he0 : (chkV 1 0 d).1 = 0 := by simpa using he
    have hw := (chk_wf d.sz).1 d 1 0 (Nat.le_refl _) he0
    have D3 := D2.upd (F' := F) U3 fun i hi _ => ⟨by have := hF i hi; omega, hi⟩
    have B3 := B2.upd U3 (by omega)
    have hbl := bytes_len d
    refine bif_f (by simp [he0]) (st_loadN B3 D.len.symm (Rbytes_n d.sz (by omega) d cs F h3 _ (Nat.le_refl _) hw hs D3 (st_asS ?_)))
    rw [if_neg (by omega)] at hq
    exact bif_f (by simp; omega) (kRet_pure rfl E hq)

end
end Go.Proofs.YtffgchcidkapjaaDoor

/- Shifts and bits of any numbers. -/
set_option linter.unusedVariables false
set_option linter.unusedSimpArgs false
namespace Go.GAM
open Go.RowKit

theorem st_shlI {a n : Int} {b : Nat} {K : Int → Prop} (hb : b ≤ 64) (hn : a * 2 ^ b = n) (h0 : -9223372036854775808 ≤ n) (h1 : n < 9223372036854775808) (hk : K n) : pShl .i64 a b K := by
  refine ⟨by omega, ?_⟩
  rw [Int.toNat_natCast, show IntKind.i64.bits = 64 from rfl, Nat.min_eq_left hb, hn, wrap_i64 h0 h1]; exact hk
theorem st_shrI {a n : Int} {b : Nat} {K : Int → Prop} (hb : b ≤ 64) (hn : a / ((2 ^ b : Nat) : Int) = n) (hk : K n) : pShr .i64 a b K := by
  refine ⟨by omega, ?_⟩
  have h2 : ((2 : Int) ^ b) = ((2 ^ b : Nat) : Int) := by simp
  rw [Int.toNat_natCast, show IntKind.i64.bits = 64 from rfl, Nat.min_eq_left hb, h2, Int.fdiv_eq_ediv_of_nonneg _ (Int.natCast_nonneg _), hn]; exact hk

theorem wrap_ofInt (z : Int) : IntKind.wrap .i64 ((BitVec.ofInt 64 z).toNat : Int) = IntKind.wrap .i64 z := by
  have e1 : (2 : Int) ^ 64 = 18446744073709551616 := by decide
  have e2 : (2 : Int) ^ (64 - 1) = 9223372036854775808 := by decide
  have e3 : ((2 ^ 64 : Nat) : Int) = 18446744073709551616 := by decide
  rw [BitVec.toNat_ofInt, e3]
  simp only [IntKind.wrap, IntKind.bits, IntKind.signed, Bool.true_and, decide_eq_true_eq, e1, e2]
  rw [Int.toNat_of_nonneg (by omega), Int.emod_emod_of_dvd _ (Int.dvd_refl _)]

/-- a<<8 | c: no bit stands twice. -/
theorem or_low {a : Int} {c : Nat} (hc : c < 256) (h0 : -36028797018963968 ≤ a) (h1 : a < 36028797018963968) : bitsOp .or .i64 (a * 256) (c : Int) = a * 256 + c := by
  show IntKind.wrap .i64 (((BitVec.ofInt 64 (a * 256)) ||| (BitVec.ofInt 64 (c : Int))).toNat : Int) = _
  have hX : BitVec.ofInt 64 (a * 256) = BitVec.ofInt 64 a <<< 8 := by
    rw [BitVec.ofInt_mul, BitVec.shiftLeft_eq_mul_twoPow]; rfl
  have hand : BitVec.ofInt 64 (a * 256) &&& BitVec.ofInt 64 (c : Int) = 0#64 := by
    rw [hX]
    apply BitVec.eq_of_getLsbD_eq
    intro i hi
    rw [BitVec.getLsbD_and, BitVec.getLsbD_shiftLeft]
    by_cases h8 : i < 8
    · simp [h8]
    · have : (BitVec.ofInt 64 (c : Int)).getLsbD i = false := by
        rw [BitVec.getLsbD, bits_nat (by omega)]
        apply Nat.testBit_lt_two_pow
        have : 2 ^ 8 ≤ 2 ^ i := Nat.pow_le_pow_right (by omega) (by omega)
        omega
      rw [this]; simp
  rw [← BitVec.add_eq_or_of_and_eq_zero _ _ hand, ← BitVec.ofInt_add, wrap_ofInt, wrap_i64 (by omega) (by omega)]

theorem wrap_u8_mod (z : Int) : IntKind.wrap .u8 z = ((UInt8.ofNat (z % 256).toNat).toNat : Int) := by
  rw [UInt8.toNat_ofNat']
  have : IntKind.wrap .u8 z = z % 256 := by
    show z.emod (2 ^ 8) = _
    rfl
  rw [this]; omega
theorem wrap_i8 (c : UInt8) : IntKind.wrap .i8 (c.toNat : Int) = if c.toNat < 128 then (c.toNat : Int) else (c.toNat : Int) - 256 := by
  have hc := c.toNat_lt
  have e1 : (2 : Int) ^ 8 = 256 := by decide
  have e2 : (2 : Int) ^ (8 - 1) = 128 := by decide
  simp only [IntKind.wrap, IntKind.bits, IntKind.signed, Bool.true_and, decide_eq_true_eq, e1, e2]
  split <;> split <;> omega

end Go.GAM

/- plain; numbers; texts. -/
set_option linter.unusedVariables false
set_option linter.unusedSimpArgs false
set_option linter.unusedSectionVars false
set_option maxRecDepth 20000
namespace Go.Proofs.YtffgchcidkapjaaDoor
open Go.GAM Go.RowKit

def Der.data : Der → List UInt8 | .mk _ _ _ s _ => s
def dPlain (tag : Int) : Der → Bool | .mk c t m s ks => decide (c = 0) && (decide (t = tag) && (!m && decide (ks.length = 0)))
/-- The cells of a value without kids. -/
def leafC (c t : Int) (m : Bool) (s : List UInt8) : List AV := [.i .i64 c, .i .i64 t, .b m, .s s, .sl none 0 none]

section
variable {h0 : AHeap} {Q : AV → AHeap → Prop}

theorem plain_c {d : Der} {cs : List AV} {F : Nat → Prop} {tag : Int} {h : AHeap} (D : DV h F d cs) (hq : Q (.b (dPlain tag d)) h) : C G_der_plain.id [.ag cs, .i .i64 tag] h Q := by
  cases D with
  | @mk c t m s ks v rows Dk sv fv ov =>
  refine G_der_plain.call ?_
  simp only [G_der_plain.t, G_der_plain.j0]
  refine st_box rfl fun h1 hl1 U1 B => ?_
  have S1 := sv.upd U1 fun _ _ _ h => h
  have p0 : ∀ b, b = (decide (c = 0) && (decide (t = tag) && (!m && decide (ks.length = 0)))) → G_der_plain.p0 (kRet h Q) b h1 := by
    intro b hb
    refine G_der_plain.i0 ?_
    simp only [G_der_plain.t0]
    subst hb
    exact kRet_pure rfl U1.ext hq
  refine st_fld (st_load B rfl rfl (st_asI ?_))
  refine bif_both (fun e1 => st_fld (st_load B rfl rfl (st_asI ?_))) fun e1 => p0 _ (by rw [e1]; rfl)
  refine bif_both (fun e2 => st_fld (st_load B rfl rfl (st_asB ?_))) fun e2 => p0 _ (by rw [e1, e2]; rfl)
  refine bif_both (fun e3 => st_fld (st_load B rfl rfl (S1.len (p0 _ ?_)))) fun e3 => p0 _ (by rw [e1, e2, e3]; rfl)
  rw [e1, e2, e3, ← Dk.length]
  simp
theorem Rplain_c {d : Der} {cs : List AV} {F : Nat → Prop} {tag : Int} {h : AHeap} (D : DV h F d cs) (hq : Q (.b (dPlain tag d)) h) : C G_ref33_plain.id [.ag cs, .i .i64 tag] h Q := by
  cases D with
  | @mk c t m s ks v rows Dk sv fv ov =>
  refine G_ref33_plain.call ?_
  simp only [G_ref33_plain.t, G_ref33_plain.j0]
  refine st_box rfl fun h1 hl1 U1 B => ?_
  have S1 := sv.upd U1 fun _ _ _ h => h
  have p0 : ∀ b, b = (decide (c = 0) && (decide (t = tag) && (!m && decide (ks.length = 0)))) → G_ref33_plain.p0 (kRet h Q) b h1 := by
    intro b hb
    refine G_ref33_plain.i0 ?_
    simp only [G_ref33_plain.t0]
    subst hb
    exact kRet_pure rfl U1.ext hq
  refine st_fld (st_load B rfl rfl (st_asI ?_))
  refine bif_both (fun e1 => st_fld (st_load B rfl rfl (st_asI ?_))) fun e1 => p0 _ (by rw [e1]; rfl)
  refine bif_both (fun e2 => st_fld (st_load B rfl rfl (st_asB ?_))) fun e2 => p0 _ (by rw [e1, e2]; rfl)
  refine bif_both (fun e3 => st_fld (st_load B rfl rfl (S1.len (p0 _ ?_)))) fun e3 => p0 _ (by rw [e1, e2, e3]; rfl)
  rw [e1, e2, e3, ← Dk.length]
  simp

/-- The value in a box of its own, read. -/
theorem DV.box {d : Der} {cs : List AV} {F : Nat → Prop} {h : AHeap} (D : DV h F d cs) {K : AV → AHeap → Prop} (hk : ∀ h1, h1.length = h.length + 1 → Upd (fun _ => False) h h1 → RecAt h1 h.length cs → DV h1 F d cs → K (.p (some ⟨h.length, 5, 0⟩)) h1) : pBox (.ag cs) h K := by
  refine st_box rfl fun h1 hl1 U1 B => ?_
  have hp : (AV.ag cs).parts.length = 5 := D.len
  rw [hp]
  exact hk h1 hl1 U1 B (D.ext U1)
theorem DV.dat {d : Der} {cs : List AV} {F : Nat → Prop} {h : AHeap} (D : DV h F d cs) : cs[3]? = some (.s d.data) := by cases D; rfl

/-! ### Int -/

def intBad (s : List UInt8) : Bool := match s with
  | [] => true
  | [_] => false
  | a :: b :: r => decide (6 < (a :: b :: r).length) || ((decide (a.toNat = 0) && decide (b.toNat < 128)) || (decide (a.toNat = 255) && decide (128 ≤ b.toNat)))
theorem intBad_2 (a b : UInt8) (r : List UInt8) : intBad (a :: b :: r) = (decide (6 < (a :: b :: r).length) || ((decide (a.toNat = 0) && decide (b.toNat < 128)) || (decide (a.toNat = 255) && decide (128 ≤ b.toNat)))) := rfl
def intF (n : Int) (l : List UInt8) : Int := l.foldl (fun n c => n * 256 + (c.toNat : Int)) n
def intV : List UInt8 → Int
  | [] => 0
  | a :: r => intF (if a.toNat < 128 then (a.toNat : Int) else (a.toNat : Int) - 256) r
def intS (d : Der) : Int × Bool := if dPlain 2 d = true ∧ intBad d.data = false then (intV d.data, true) else (0, false)

theorem intF_bd : ∀ (l : List UInt8) (n : Int) (k : Nat), -(256 ^ k : Nat) ≤ n → n < (256 ^ k : Nat) → -((256 ^ (k + l.length) : Nat) : Int) ≤ intF n l ∧ intF n l < ((256 ^ (k + l.length) : Nat) : Int)
  | [], n, k, h0, h1 => ⟨h0, h1⟩
  | c :: r, n, k, h0, h1 => by
    have hc := c.toNat_lt
    have e : 256 ^ (k + 1) = 256 ^ k * 256 := Nat.pow_succ ..
    have := intF_bd r (n * 256 + (c.toNat : Int)) (k + 1) (by omega) (by omega)
    rw [show k + (c :: r).length = k + 1 + r.length by simp; omega]
    exact this

theorem int_p2 {s : List UInt8} {h : AHeap} {v : Int} (hs : s.length ≤ 6) (hq : Q (.tu [.i .i64 v, .b true]) h) {h1 : AHeap} (E : Ext h h1) : ∀ (r : List UInt8) (i : Nat) (n : Int), s.drop i = r → i ≤ 6 → -((256 ^ i : Nat) : Int) ≤ n → n < ((256 ^ i : Nat) : Int) → intF n r = v → G_der_Int.p2 (kRet h Q) s n i h1 := by
  intro r
  induction r with
  | nil =>
    intro i n hr hi h0 h2 hv
    have := drop_end hr
    refine G_der_Int.i2 ?_
    simp only [G_der_Int.t2]
    have : n = v := hv
    subst this
    exact bif_f (by simp; omega) (kRet_pure rfl E hq)
  | cons c r ih =>
    intro i n hr hi h0 h2 hv
    have hlt := drop_lt hr
    have hn := drop_next hr
    have hc := c.toNat_lt
    have hp : 256 ^ i ≤ 256 ^ 5 := Nat.pow_le_pow_right (by omega) (by omega)
    have e : 256 ^ (i + 1) = 256 ^ i * 256 := Nat.pow_succ ..
    refine G_der_Int.i2 ?_
    simp only [G_der_Int.t2, G_der_Int.j2]
    refine bif_t (by simp; omega) ?_
    refine st_shlI (n := n * 256) (b := 8) (by omega) rfl (by omega) (by omega) (st_at hr ?_)
    refine withI_is (n := n * 256 + (c.toNat : Int)) (by rw [wrap_i64 (by omega) (by omega), or_low (by omega) (by omega) (by omega)]) (inc (by omega) ?_)
    exact ih (i + 1) _ hn (by omega) (by omega) (by omega) hv

def intR (x : Int × Bool) : AV := .tu [.i .i64 x.1, .b x.2]
theorem int_c {d : Der} {cs : List AV} {F : Nat → Prop} {h : AHeap} (D : DV h F d cs) (hs : d.data.length ≤ 100000) (hq : Q (intR (intS d)) h) : C G_der_Int.id [.ag cs] h Q := by
  refine G_der_Int.call ?_
  simp only [G_der_Int.t, G_der_Int.j0]
  refine D.box fun h1 hl1 U1 B D1 => st_fld (st_load B D.len.symm D.dat (st_asS (st_loadN B D.len.symm (plain_c D1 (st_asB ?_)))))
  have E := U1.ext
  unfold intS at hq
  generalize d.data = s at *
  have p1 : ∀ b, b = true → (b = intBad s ∨ dPlain 2 d = false) → G_der_Int.p0 (kRet h Q) s b h1 := by
    intro b hb hp
    subst hb
    refine G_der_Int.i0 ?_
    simp only [G_der_Int.t0]
    rw [if_neg (by rcases hp with h | h <;> simp [h] <;> simp [← h])] at hq
    exact bif_t rfl (kRet_pure rfl E hq)
  have p2 : intBad s = false → dPlain 2 d = true → s.length ≤ 6 → ∀ a r, s = a :: r → G_der_Int.p1 (kRet h Q) s false h1 := by
    intro hb hp hl a r hsr
    have ha := a.toNat_lt
    rw [if_pos ⟨hp, hb⟩] at hq
    refine G_der_Int.i1 ?_
    simp only [G_der_Int.t1, G_der_Int.j2]
    refine bif_f rfl (st_at (i := 0) hsr ?_)
    rw [wrap_i8]
    have hw : -128 ≤ (if a.toNat < 128 then (a.toNat : Int) else (a.toNat : Int) - 256) ∧ (if a.toNat < 128 then (a.toNat : Int) else (a.toNat : Int) - 256) < 128 := by split <;> omega
    refine withI_is (wrap_i64 (by omega) (by omega)) ?_
    refine int_p2 (v := intV s) hl hq E r 1 _ (by rw [hsr]; rfl) (by omega) ?_ ?_ (by rw [hsr]; rfl)
    · rw [Nat.pow_one]; omega
    · rw [Nat.pow_one]; omega
  refine bif_both (fun e => p1 _ rfl (.inr (by simpa using e))) fun e => ?_
  have hp : dPlain 2 d = true := by simpa using e
  obtain hs2 | ⟨a, r, hs2⟩ : s = [] ∨ ∃ a r, s = a :: r := by
    cases s with
    | nil => exact .inl rfl
    | cons a r => exact .inr ⟨a, r, rfl⟩
  · exact bif_t (by rw [hs2]; rfl) (p1 _ rfl (.inl (by rw [hs2]; rfl)))
  ·
    refine bif_f (by rw [hs2]; rfl) ?_
    by_cases hl : 6 < s.length
    · rw [decide_eq_true (show (6 : Int) < s.length by omega)]
      refine p1 _ rfl (.inl ?_)
      rw [hs2] at hl ⊢
      cases r with
      | nil => simp at hl
      | cons b r => rw [intBad_2, decide_eq_true hl]; rfl
    rw [decide_eq_false (show ¬ (6 : Int) < s.length by omega)]
    refine G_der_Int.i0 ?_
    simp only [G_der_Int.t0, G_der_Int.j1]
    refine bif_f rfl ?_
    have q1 : ∀ b, b = intBad s → G_der_Int.p1 (kRet h Q) s b h1 := by
      intro b hb
      cases b with
      | false => exact p2 hb.symm hp (by omega) a r hs2
      | true =>
        refine G_der_Int.i1 ?_
        simp only [G_der_Int.t1]
        rw [if_neg (by simp [← hb])] at hq
        exact bif_t rfl (kRet_pure rfl E hq)
    cases hr2 : r with
    | nil =>
      refine bif_f (by rw [hs2, hr2]; rfl) (q1 _ ?_)
      rw [hs2, hr2]; rfl
    | cons b r' =>
      have hs3 : s = a :: b :: r' := by rw [hs2, hr2]
      have hb : intBad s = ((decide (a.toNat = 0) && decide (b.toNat < 128)) || (decide (a.toNat = 255) && decide (128 ≤ b.toNat))) := by
        rw [hs3] at hl ⊢
        rw [intBad_2, decide_eq_false hl]; rfl
      rw [hb] at q1
      have d0 : s.drop 0 = a :: b :: r' := hs3
      have d1 : s.drop 1 = b :: r' := by rw [hs3]; rfl
      refine bif_t (by rw [hs3]; simp; omega) (st_at (i := 0) d0 ?_)
      refine bif_both (fun e1 => st_at (i := 1) d1 ?_) fun e1 => st_at (i := 0) d0 ?_
      · simp only [decide_eq_true_eq] at e1
        have a0 : a.toNat = 0 := by omega
        refine bif_both (fun e2 => q1 _ ?_) fun e2 => st_at (i := 0) d0 ?_
        · simp only [decide_eq_true_eq] at e2
          have : b.toNat < 128 := by omega
          simp [a0, this]
        · simp only [decide_eq_false_iff_not] at e2
          have : ¬ b.toNat < 128 := by omega
          refine bif_f (by simp; omega) (q1 _ (by simp [a0, this]))
      · simp only [decide_eq_false_iff_not] at e1
        have a0 : a.toNat ≠ 0 := by omega
        refine bif_both (fun e2 => st_at (i := 1) d1 (q1 _ ?_)) fun e2 => q1 _ ?_
        · simp only [decide_eq_true_eq] at e2
          have : a.toNat = 255 := by omega
          simp [this]
          omega
        · simp only [decide_eq_false_iff_not] at e2
          have : a.toNat ≠ 255 := by omega
          simp [a0, this]

theorem Rint_p2 {s : List UInt8} {h : AHeap} {v : Int} (hs : s.length ≤ 6) (hq : Q (.tu [.i .i64 v, .b true]) h) {h1 : AHeap} (E : Ext h h1) : ∀ (r : List UInt8) (i : Nat) (n : Int), s.drop i = r → i ≤ 6 → -((256 ^ i : Nat) : Int) ≤ n → n < ((256 ^ i : Nat) : Int) → intF n r = v → G_ref33_Int.p2 (kRet h Q) s n i h1 := by
  intro r
  induction r with
  | nil =>
    intro i n hr hi h0 h2 hv
    have := drop_end hr
    refine G_ref33_Int.i2 ?_
    simp only [G_ref33_Int.t2]
    have : n = v := hv
    subst this
    exact bif_f (by simp; omega) (kRet_pure rfl E hq)
  | cons c r ih =>
    intro i n hr hi h0 h2 hv
    have hlt := drop_lt hr
    have hn := drop_next hr
    have hc := c.toNat_lt
    have hp : 256 ^ i ≤ 256 ^ 5 := Nat.pow_le_pow_right (by omega) (by omega)
    have e : 256 ^ (i + 1) = 256 ^ i * 256 := Nat.pow_succ ..
    refine G_ref33_Int.i2 ?_
    simp only [G_ref33_Int.t2, G_ref33_Int.j2]
    refine bif_t (by simp; omega) ?_
    refine withI_is (wrap_i64 (by omega) (by omega)) (st_at hr ?_)
    refine withI_is (n := n * 256 + (c.toNat : Int)) (by rw [wrap_i64 (n := (c.toNat : Int)) (by omega) (by omega), wrap_i64 (by omega) (by omega)]) (inc (by omega) ?_)
    exact ih (i + 1) _ hn (by omega) (by omega) (by omega) hv

theorem Rint_c {d : Der} {cs : List AV} {F : Nat → Prop} {h : AHeap} (D : DV h F d cs) (hs : d.data.length ≤ 100000) (hq : Q (intR (intS d)) h) : C G_ref33_Int.id [.ag cs] h Q := by
  refine G_ref33_Int.call ?_
  simp only [G_ref33_Int.t, G_ref33_Int.j0]
  refine D.box fun h1 hl1 U1 B D1 => st_fld (st_load B D.len.symm D.dat (st_asS (st_loadN B D.len.symm (Rplain_c D1 (st_asB ?_)))))
  have E := U1.ext
  unfold intS at hq
  generalize d.data = s at *
  have p1 : ∀ b, b = true → (b = intBad s ∨ dPlain 2 d = false) → G_ref33_Int.p0 (kRet h Q) s b h1 := by
    intro b hb hp
    subst hb
    refine G_ref33_Int.i0 ?_
    simp only [G_ref33_Int.t0]
    rw [if_neg (by rcases hp with h | h <;> simp [h] <;> simp [← h])] at hq
    exact bif_t rfl (kRet_pure rfl E hq)
  have p2 : intBad s = false → dPlain 2 d = true → s.length ≤ 6 → ∀ a r, s = a :: r → G_ref33_Int.p0 (kRet h Q) s false h1 := by
    intro hb hp hl a r hsr
    have ha := a.toNat_lt
    rw [if_pos ⟨hp, hb⟩] at hq
    have q : ∀ n : Int, (n = 0 ∧ a.toNat < 128 ∨ n = -1 ∧ 128 ≤ a.toNat) → G_ref33_Int.p1 (kRet h Q) s n h1 := by
      intro n hn
      refine G_ref33_Int.i1 ?_
      simp only [G_ref33_Int.t1, G_ref33_Int.j2]
      refine Rint_p2 (v := intV s) hl hq E s 0 n rfl (by omega) (by rw [Nat.pow_zero]; omega) ?_ ?_
      · rw [Nat.pow_zero]
        omega
      · rw [hsr]
        show intF (n * 256 + (a.toNat : Int)) r = intF _ r
        congr 1
        split <;> omega
    refine G_ref33_Int.i0 ?_
    simp only [G_ref33_Int.t0, G_ref33_Int.j1]
    refine bif_f rfl (st_at (i := 0) hsr ?_)
    refine bif_both (fun e => q _ (.inr ⟨rfl, ?_⟩)) fun e => q _ (.inl ⟨rfl, ?_⟩)
    · simp only [decide_eq_true_eq] at e; omega
    · simp only [decide_eq_false_iff_not] at e; omega
  have q1 : dPlain 2 d = true → s.length ≤ 6 → ∀ a r, s = a :: r → ∀ b, b = intBad s → G_ref33_Int.p0 (kRet h Q) s b h1 := by
    intro hp hl a r hsr b hb
    cases b with
    | false => exact p2 hb.symm hp hl a r hsr
    | true => exact p1 _ rfl (.inl hb)
  refine bif_both (fun e => p1 _ rfl (.inr (by simpa using e))) fun e => ?_
  have hp : dPlain 2 d = true := by simpa using e
  obtain hs2 | ⟨a, r, hs2⟩ : s = [] ∨ ∃ a r, s = a :: r := by
    cases s with
    | nil => exact .inl rfl
    | cons a r => exact .inr ⟨a, r, rfl⟩
  · exact bif_t (by rw [hs2]; rfl) (p1 _ rfl (.inl (by rw [hs2]; rfl)))
  ·
    refine bif_f (by rw [hs2]; simp; omega) ?_
    by_cases hl : 6 < s.length
    · rw [decide_eq_true (show (6 : Int) < s.length by omega)]
      refine bif_t rfl (p1 _ rfl (.inl ?_))
      rw [hs2] at hl ⊢
      cases r with
      | nil => simp at hl
      | cons b r => rw [intBad_2, decide_eq_true hl]; rfl
    rw [decide_eq_false (show ¬ (6 : Int) < s.length by omega)]
    refine bif_f rfl ?_
    have q1 := q1 hp (by omega) a r hs2
    cases hr2 : r with
    | nil =>
      refine bif_f (by rw [hs2, hr2]; rfl) (q1 _ ?_)
      rw [hs2, hr2]; rfl
    | cons b r' =>
      have hs3 : s = a :: b :: r' := by rw [hs2, hr2]
      have hb : intBad s = ((decide (a.toNat = 0) && decide (b.toNat < 128)) || (decide (a.toNat = 255) && decide (128 ≤ b.toNat))) := by
        rw [hs3] at hl ⊢
        rw [intBad_2, decide_eq_false hl]; rfl
      rw [hb] at q1
      have d0 : s.drop 0 = a :: b :: r' := hs3
      have d1 : s.drop 1 = b :: r' := by rw [hs3]; rfl
      refine bif_t (by rw [hs3]; simp; omega) (st_at (i := 0) d0 ?_)
      refine bif_both (fun e1 => st_at (i := 1) d1 ?_) fun e1 => st_at (i := 0) d0 ?_
      · simp only [decide_eq_true_eq] at e1
        have a0 : a.toNat = 0 := by omega
        refine bif_both (fun e2 => q1 _ ?_) fun e2 => st_at (i := 0) d0 ?_
        · simp only [decide_eq_true_eq] at e2
          have : b.toNat < 128 := by omega
          simp [a0, this]
        · simp only [decide_eq_false_iff_not] at e2
          have : ¬ b.toNat < 128 := by omega
          refine bif_f (by simp; omega) (q1 _ (by simp [a0, this]))
      · simp only [decide_eq_false_iff_not] at e1
        have a0 : a.toNat ≠ 0 := by omega
        refine bif_both (fun e2 => st_at (i := 1) d1 (q1 _ ?_)) fun e2 => q1 _ ?_
        · simp only [decide_eq_true_eq] at e2
          have : a.toNat = 255 := by omega
          simp [this]
          omega
        · simp only [decide_eq_false_iff_not] at e2
          have : a.toNat ≠ 255 := by omega
          simp [a0, this]

end
end Go.Proofs.YtffgchcidkapjaaDoor

/- IntOf; texts. -/
set_option linter.unusedVariables false
set_option linter.unusedSimpArgs false
set_option linter.unusedSectionVars false
set_option maxRecDepth 20000
namespace Go.Proofs.YtffgchcidkapjaaDoor
open Go.GAM Go.RowKit

def beI : Nat → Int → List UInt8
  | 0, _ => []
  | k + 1, n => UInt8.ofNat ((n / ((2 ^ (8 * k) : Nat) : Int)) % 256).toNat :: beI k n
def fitI (k : Nat) (n : Int) : Prop := -((2 ^ (8 * k - 1) : Nat) : Int) ≤ n ∧ n < ((2 ^ (8 * k - 1) : Nat) : Int)
instance (k : Nat) (n : Int) : Decidable (fitI k n) := by unfold fitI; infer_instance
def kI (n : Int) : Nat := if fitI 1 n then 1 else if fitI 2 n then 2 else if fitI 3 n then 3 else if fitI 4 n then 4 else if fitI 5 n then 5 else 6
def intBig (n : Int) : Prop := n < -140737488355328 ∨ 140737488355328 ≤ n
instance (n : Int) : Decidable (intBig n) := by unfold intBig; infer_instance
def intOfS (n : Int) : List AV := if intBig n then leafC 0 0 false [] else leafC 0 2 false (beI (kI n) n)

theorem beI_len : ∀ k n, (beI k n).length = k
  | 0, n => rfl
  | k + 1, n => by simp [beI, beI_len k n]
theorem kI_bd (n : Int) : 1 ≤ kI n ∧ kI n ≤ 6 := by
  unfold kI
  repeat' split
  all_goals omega
theorem kI_fit {n : Int} (h : ¬ intBig n) : fitI (kI n) n := by
  unfold kI
  repeat' split
  all_goals first | assumption | skip
  unfold intBig at h
  unfold fitI
  omega
theorem kI_least {n : Int} {j : Nat} (h1 : 1 ≤ j) (h2 : j < kI n) : ¬ fitI j n := by
  unfold kI at h2
  split at h2
  · omega
  rename_i f1
  by_cases e1 : j = 1
  · subst e1; exact f1
  split at h2
  · omega
  rename_i f2
  by_cases e2 : j = 2
  · subst e2; exact f2
  split at h2
  · omega
  rename_i f3
  by_cases e3 : j = 3
  · subst e3; exact f3
  split at h2
  · omega
  rename_i f4
  by_cases e4 : j = 4
  · subst e4; exact f4
  split at h2
  · omega
  rename_i f5
  have : j = 5 := by omega
  subst this; exact f5

section
variable {h0 : AHeap} {Q : AV → AHeap → Prop}

theorem pw47 {k : Nat} (h : k ≤ 6) : 2 ^ (8 * k - 1) ≤ 140737488355328 ∧ 0 < 2 ^ (8 * k - 1) := by
  have : (2 : Nat) ^ (8 * k - 1) ≤ 2 ^ 47 := Nat.pow_le_pow_right (by omega) (by omega)
  exact ⟨by simpa using this, Nat.two_pow_pos _⟩

/-- The record is written and read: a value without kids is handed back. -/
theorem ret_leaf {h h1 hx : AHeap} {id : Nat} {z : List AV} {c t : Int} {s : List UInt8} (hz : z.length = 5) (R : RecAt hx id z) (hid : h.length ≤ id) (U : Upd (fun _ => False) h hx) (hq : Q (.ag (leafC c t false s)) h) :
    pStore 5 (.p (some ⟨id, 5, 0⟩)) (.ag [.i .i64 c, .i .i64 t, .b false, .s s, .sl none 0 none]) hx fun h5 => pLoadN 5 (.p (some ⟨id, 5, 0⟩)) h5 fun v7 => kRet h Q v7 h5 := by
  refine st_storeN R hz.symm rfl rfl fun h5 hl5 U5 R5 => st_loadN R5 rfl (kRet_pure rfl ?_ hq)
  exact ((U.trans U5 fun i hi he => absurd he (by omega)) : Upd (fun _ => False) h h5).ext

theorem intOf_p3 {n : Int} {h h1 : AHeap} {id : Nat} (hid : h.length ≤ id) (U1 : Upd (fun _ => False) h h1) (R : RecAt h1 id z5) : ∀ (m : Nat) (v : AV) (l : List UInt8) (hx : AHeap), m ≤ 6 → l.length + m ≤ 10 → Tx h1 hx v l → Q (.ag (leafC 0 2 false (l ++ beI m n))) h →
    G_der_IntOf.p3 (kRet h Q) n (.p (some ⟨id, 5, 0⟩)) v ((m : Int) - 1) hx := by
  intro m
  induction m with
  | zero =>
    intro v l hx hm hl T hq
    refine G_der_IntOf.i3 ?_
    simp only [G_der_IntOf.t3]
    refine bif_f (by simp) (T.str ?_)
    exact ret_leaf (h1 := h1) rfl (R.upd T.upd fun h => h) hid (U1.trans T.upd fun _ _ h => h) (by simpa [beI] using hq)
  | succ m ih =>
    intro v l hx hm hl T hq
    refine G_der_IntOf.i3 ?_
    simp only [G_der_IntOf.t3, G_der_IntOf.j3]
    have e1 : ((m + 1 : Nat) : Int) - 1 = (m : Int) := by omega
    rw [e1]
    refine bif_t (by simp) (withI_is (n := ((8 * m : Nat) : Int)) (by rw [wrap_i64 (by omega) (by omega)]; omega) (st_shrI (by omega) rfl ?_))
    rw [wrap_u8_mod]
    refine T.push (by omega) fun v' h' T' => withI_is (wrap_i64 (by omega) (by omega)) (ih v' _ h' (by omega) (by simp; omega) T' ?_)
    simpa [beI] using hq

theorem intOf_c {n : Int} {h : AHeap} (hq : Q (.ag (intOfS n)) h) : C G_der_IntOf.id [.i .i64 n] h Q := by
  refine G_der_IntOf.call ?_
  simp only [G_der_IntOf.t, G_der_IntOf.j0]
  refine st_alloc fun h1 hl1 U1 R => ?_
  unfold intOfS at hq
  have p1 : ¬ intBig n → ∀ m k, k + m = kI n → 1 ≤ k → G_der_IntOf.p1 (kRet h Q) n (.p (some ⟨h.length, 5, 0⟩)) k h1 := by
    intro hb m
    rw [if_neg hb] at hq
    have hkb := kI_bd n
    induction m with
    | zero =>
      intro k hk h1k
      have hk : k = kI n := by omega
      have hf := kI_fit hb
      rw [← hk] at hf hq hkb
      unfold fitI at hf
      have hp := pw47 hkb.2
      generalize hy : 2 ^ (8 * k - 1) = y at hf hp
      refine G_der_IntOf.i1 ?_
      simp only [G_der_IntOf.t1, G_der_IntOf.j2]
      refine withI_is (n := ((8 * k : Nat) : Int)) (by rw [wrap_i64 (by omega) (by omega)]; omega) ?_
      refine withI_is (n := ((8 * k - 1 : Nat) : Int)) (by rw [wrap_i64 (by omega) (by omega)]; omega) ?_
      refine st_shlI (n := -(y : Int)) (by omega) (by rw [← hy]; simp) (by omega) (by omega) ?_
      refine bif_f (by simp; omega) ?_
      refine withI_is (n := ((8 * k : Nat) : Int)) (by rw [wrap_i64 (by omega) (by omega)]; omega) ?_
      refine withI_is (n := ((8 * k - 1 : Nat) : Int)) (by rw [wrap_i64 (by omega) (by omega)]; omega) ?_
      refine st_shlI (n := (y : Int)) (by omega) (by rw [← hy]; simp) (by omega) (by omega) ?_
      rw [decide_eq_false (by omega)]
      refine G_der_IntOf.i2 ?_
      simp only [G_der_IntOf.t2, G_der_IntOf.j3]
      refine bif_f rfl (withI_is (wrap_i64 (by omega) (by omega)) ?_)
      exact intOf_p3 (h1 := h1) (Nat.le_refl _) U1 R k _ [] h1 (by omega) (by simp; omega) (Tx.start h1) hq
    | succ m ih =>
      intro k hk h1k
      have hf := kI_least (n := n) (j := k) h1k (by omega)
      unfold fitI at hf
      have hp := pw47 (k := k) (by omega)
      generalize hy : 2 ^ (8 * k - 1) = y at hf hp
      have next : G_der_IntOf.p2 (kRet h Q) n (.p (some ⟨h.length, 5, 0⟩)) k true h1 := by
        refine G_der_IntOf.i2 ?_
        simp only [G_der_IntOf.t2, G_der_IntOf.j1]
        exact bif_t rfl (inc (by omega) (ih (k + 1) (by omega) (by omega)))
      refine G_der_IntOf.i1 ?_
      simp only [G_der_IntOf.t1, G_der_IntOf.j2]
      refine withI_is (n := ((8 * k : Nat) : Int)) (by rw [wrap_i64 (by omega) (by omega)]; omega) ?_
      refine withI_is (n := ((8 * k - 1 : Nat) : Int)) (by rw [wrap_i64 (by omega) (by omega)]; omega) ?_
      refine st_shlI (n := -(y : Int)) (by omega) (by rw [← hy]; simp) (by omega) (by omega) ?_
      refine bif_both (fun e => next) fun e => ?_
      simp only [decide_eq_false_iff_not] at e
      refine withI_is (n := ((8 * k : Nat) : Int)) (by rw [wrap_i64 (by omega) (by omega)]; omega) ?_
      refine withI_is (n := ((8 * k - 1 : Nat) : Int)) (by rw [wrap_i64 (by omega) (by omega)]; omega) ?_
      refine st_shlI (n := (y : Int)) (by omega) (by rw [← hy]; simp) (by omega) (by omega) ?_
      rw [decide_eq_true (by omega)]
      exact next
  have p0 : ∀ b, b = decide (intBig n) → G_der_IntOf.p0 (kRet h Q) n (.p (some ⟨h.length, 5, 0⟩)) b h1 := by
    intro b hb
    refine G_der_IntOf.i0 ?_
    simp only [G_der_IntOf.t0, G_der_IntOf.j1]
    refine bif_both (fun e => ?_) fun e => ?_
    · subst e
      rw [if_pos (by simpa using hb.symm)] at hq
      exact ret_leaf (h1 := h1) rfl R (Nat.le_refl _) U1 hq
    · subst e
      exact p1 (of_decide_eq_false hb.symm) (kI n - 1) 1 (by have := kI_bd n; omega) (by omega)
  refine bif_both (fun e => p0 _ ?_) fun e => p0 _ ?_
  · simp only [decide_eq_true_eq] at e
    symm; rw [decide_eq_true_eq]; exact .inl e
  · simp only [decide_eq_false_iff_not] at e
    rw [decide_eq_decide]; unfold intBig; omega

theorem RintOf_p3 {n : Int} {h h1 : AHeap} {id : Nat} (hid : h.length ≤ id) (U1 : Upd (fun _ => False) h h1) (R : RecAt h1 id z5) : ∀ (m : Nat) (v : AV) (l : List UInt8) (hx : AHeap), m ≤ 6 → l.length + m ≤ 10 → Tx h1 hx v l → Q (.ag (leafC 0 2 false (l ++ beI m n))) h →
    G_ref33_IntOf.p3 (kRet h Q) n (.p (some ⟨id, 5, 0⟩)) v ((m : Int) - 1) hx := by
  intro m
  induction m with
  | zero =>
    intro v l hx hm hl T hq
    refine G_ref33_IntOf.i3 ?_
    simp only [G_ref33_IntOf.t3]
    refine bif_f (by simp) (T.str ?_)
    exact ret_leaf (h1 := h1) rfl (R.upd T.upd fun h => h) hid (U1.trans T.upd fun _ _ h => h) (by simpa [beI] using hq)
  | succ m ih =>
    intro v l hx hm hl T hq
    refine G_ref33_IntOf.i3 ?_
    simp only [G_ref33_IntOf.t3, G_ref33_IntOf.j3]
    have e1 : ((m + 1 : Nat) : Int) - 1 = (m : Int) := by omega
    rw [e1]
    refine bif_t (by simp) (withI_is (n := ((8 * m : Nat) : Int)) (by rw [wrap_i64 (by omega) (by omega)]; omega) ?_)
    rw [wrap_u64 (by omega) (by omega)]
    refine st_shrI (by omega) rfl ?_
    rw [wrap_u8_mod]
    refine T.push (by omega) fun v' h' T' => withI_is (wrap_i64 (by omega) (by omega)) (ih v' _ h' (by omega) (by simp; omega) T' ?_)
    simpa [beI] using hq

theorem RintOf_c {n : Int} {h : AHeap} (hq : Q (.ag (intOfS n)) h) : C G_ref33_IntOf.id [.i .i64 n] h Q := by
  refine G_ref33_IntOf.call ?_
  simp only [G_ref33_IntOf.t, G_ref33_IntOf.j0]
  refine st_alloc fun h1 hl1 U1 R => ?_
  unfold intOfS at hq
  have p1 : ¬ intBig n → ∀ m k, k + m = kI n → 1 ≤ k → G_ref33_IntOf.p1 (kRet h Q) n (.p (some ⟨h.length, 5, 0⟩)) k h1 := by
    intro hb m
    rw [if_neg hb] at hq
    have hkb := kI_bd n
    induction m with
    | zero =>
      intro k hk h1k
      have hk : k = kI n := by omega
      have hf := kI_fit hb
      rw [← hk] at hf hq hkb
      unfold fitI at hf
      have hp := pw47 hkb.2
      generalize hy : 2 ^ (8 * k - 1) = y at hf hp
      refine G_ref33_IntOf.i1 ?_
      simp only [G_ref33_IntOf.t1, G_ref33_IntOf.j2]
      refine bif_t (by simp; omega) (withI_is (n := ((8 * k : Nat) : Int)) (by rw [wrap_i64 (by omega) (by omega)]; omega) ?_)
      refine withI_is (n := ((8 * k - 1 : Nat) : Int)) (by rw [wrap_i64 (by omega) (by omega)]; omega) ?_
      rw [wrap_u64 (by omega) (by omega)]
      refine st_shlI (n := (y : Int)) (by omega) (by rw [← hy]; simp) (by omega) (by omega) ?_
      refine withI_is (n := -(y : Int)) (by rw [wrap_i64 (by omega) (by omega)]; omega) ?_
      refine bif_f (by simp; omega) ?_
      rw [decide_eq_false (by omega)]
      refine G_ref33_IntOf.i2 ?_
      simp only [G_ref33_IntOf.t2, G_ref33_IntOf.j3]
      refine bif_f rfl (withI_is (wrap_i64 (by omega) (by omega)) ?_)
      exact RintOf_p3 (h1 := h1) (Nat.le_refl _) U1 R k _ [] h1 (by omega) (by simp; omega) (Tx.start h1) hq
    | succ m ih =>
      intro k hk h1k
      have hf := kI_least (n := n) (j := k) h1k (by omega)
      unfold fitI at hf
      have hp := pw47 (k := k) (by omega)
      generalize hy : 2 ^ (8 * k - 1) = y at hf hp
      have next : G_ref33_IntOf.p2 (kRet h Q) n (.p (some ⟨h.length, 5, 0⟩)) k true h1 := by
        refine G_ref33_IntOf.i2 ?_
        simp only [G_ref33_IntOf.t2, G_ref33_IntOf.j1]
        exact bif_t rfl (inc (by omega) (ih (k + 1) (by omega) (by omega)))
      refine G_ref33_IntOf.i1 ?_
      simp only [G_ref33_IntOf.t1, G_ref33_IntOf.j2]
      refine bif_t (by simp; omega) (withI_is (n := ((8 * k : Nat) : Int)) (by rw [wrap_i64 (by omega) (by omega)]; omega) ?_)
      refine withI_is (n := ((8 * k - 1 : Nat) : Int)) (by rw [wrap_i64 (by omega) (by omega)]; omega) ?_
      rw [wrap_u64 (by omega) (by omega)]
      refine st_shlI (n := (y : Int)) (by omega) (by rw [← hy]; simp) (by omega) (by omega) ?_
      refine withI_is (n := -(y : Int)) (by rw [wrap_i64 (by omega) (by omega)]; omega) ?_
      refine bif_both (fun e => next) fun e => ?_
      simp only [decide_eq_false_iff_not] at e
      rw [decide_eq_true (by omega)]
      exact next
  have p0 : ∀ b, b = decide (intBig n) → G_ref33_IntOf.p0 (kRet h Q) n (.p (some ⟨h.length, 5, 0⟩)) b h1 := by
    intro b hb
    refine G_ref33_IntOf.i0 ?_
    simp only [G_ref33_IntOf.t0, G_ref33_IntOf.j1]
    refine bif_both (fun e => ?_) fun e => ?_
    · subst e
      rw [if_pos (by simpa using hb.symm)] at hq
      exact ret_leaf (h1 := h1) rfl R (Nat.le_refl _) U1 hq
    · subst e
      exact p1 (of_decide_eq_false hb.symm) (kI n - 1) 1 (by have := kI_bd n; omega) (by omega)
  refine bif_both (fun e => p0 _ ?_) fun e => p0 _ ?_
  · simp only [decide_eq_true_eq] at e
    symm; rw [decide_eq_true_eq]; exact .inl e
  · simp only [decide_eq_false_iff_not] at e
    rw [decide_eq_decide]; unfold intBig; omega

/-! ### texts -/

theorem all_byte_c {f : Nat} {p : UInt8 → Bool} {v : AV} {l : List UInt8} {h : AHeap} (hf : Nat.blt f yid0 = true) (hc : ∀ (c : UInt8) (h : AHeap) (K : AV → AHeap → Prop), K (.b (p c)) h → C f [.i .u8 (c.toNat : Int)] h K) (B : Byt h v l) (hl : l.length ≤ 100000) (hq : Q (.b (l.all p)) h) :
    C G_der_all_byte_.id [v, .fn (.func f) [] []] h Q := by
  refine G_der_all_byte_.call ?_
  simp only [G_der_all_byte_.t, G_der_all_byte_.j0]
  refine Rd.len B ?_
  have go : ∀ (r : List UInt8) (i : Nat), l.drop i = r → i ≤ l.length → (l.all p = r.all p) → G_der_all_byte_.p0 (kRet h Q) (.fn (.func f) [] []) v l.length i h := by
    intro r
    induction r with
    | nil =>
      intro i hr hi he
      have := drop_end hr
      refine G_der_all_byte_.i0 ?_
      simp only [G_der_all_byte_.t0]
      rw [he] at hq
      exact bif_f (by simp; omega) (.inl hq)
    | cons c r ih =>
      intro i hr hi he
      have hlt := drop_lt hr
      have hn := drop_next hr
      refine G_der_all_byte_.i0 ?_
      simp only [G_der_all_byte_.t0, G_der_all_byte_.j0]
      refine bif_t (by simp; omega) (Rd.byte B (at_of_drop hr) (callV_c hf (hc c h _ (st_asB ?_))))
      rw [List.all_cons] at he
      cases hp : p c with
      | false =>
        rw [hp] at he
        rw [he] at hq
        exact bif_t rfl (.inl hq)
      | true =>
        rw [hp, Bool.true_and] at he
        exact bif_f rfl (inc (by omega) (ih (i + 1) hn (by omega) he))
  exact go l 0 rfl (by omega) rfl

def textB (c : UInt8) : Bool := decide (32 ≤ c.toNat) && decide (c.toNat ≤ 126)
def textS (d : Der) : List UInt8 × Bool := if (dPlain 12 d || (dPlain 19 d || dPlain 22 d)) = true ∧ d.data.all textB = true then (d.data, true) else ([], false)
def textR (x : List UInt8 × Bool) : AV := .tu [.s x.1, .b x.2]
theorem text1_c (c : UInt8) (h : AHeap) (K : AV → AHeap → Prop) (hk : K (.b (textB c)) h) : C G_der_Text_1.id [.i .u8 (c.toNat : Int)] h K := by
  refine G_der_Text_1.call ?_
  simp only [G_der_Text_1.t, G_der_Text_1.j0]
  have p0 : ∀ b, b = textB c → G_der_Text_1.p0 (kRet h K) b h := by
    intro b hb
    refine G_der_Text_1.i0 ?_
    simp only [G_der_Text_1.t0]
    subst hb
    exact .inl hk
  unfold textB at p0
  refine bif_both (fun e => p0 _ ?_) fun e => p0 _ ?_
  · simp only [decide_eq_true_eq] at e
    rw [decide_eq_true (by omega : 32 ≤ c.toNat), Bool.true_and, decide_eq_decide]; omega
  · simp only [decide_eq_false_iff_not] at e
    rw [decide_eq_false (by omega : ¬ 32 ≤ c.toNat)]; rfl

theorem text_c {d : Der} {cs : List AV} {F : Nat → Prop} {h : AHeap} (D : DV h F d cs) (hs : d.data.length ≤ 100000) (hq : Q (textR (textS d)) h) : C G_der_Text.id [.ag cs] h Q := by
  refine G_der_Text.call ?_
  simp only [G_der_Text.t, G_der_Text.j0]
  refine D.box fun h1 hl1 U1 B D1 => ?_
  unfold textS at hq
  have p0 : ∀ b, b = !(dPlain 12 d || (dPlain 19 d || dPlain 22 d)) → G_der_Text.p0 (kRet h Q) (.p (some ⟨h.length, 5, 0⟩)) b h1 := by
    intro b hb
    refine G_der_Text.i0 ?_
    simp only [G_der_Text.t0]
    refine bif_both (fun e => ?_) fun e => ?_
    · subst e
      rw [if_neg (fun hh => by rw [hh.1] at hb; cases hb)] at hq
      exact kRet_pure rfl U1.ext hq
    · subst e
      have hp : (dPlain 12 d || (dPlain 19 d || dPlain 22 d)) = true := by
        revert hb
        generalize (dPlain 12 d || (dPlain 19 d || dPlain 22 d)) = x
        cases x <;> simp
      refine st_fld (st_load B D.len.symm D.dat (st_asS (Tx.ofStr fun v h2 T => ?_)))
      refine all_byte_c (p := textB) rfl text1_c T.byt hs (st_asB ?_)
      have E := (U1.trans T.upd fun _ _ h => h).ext
      have B2 := B.upd T.upd fun h => h
      cases ha : d.data.all textB with
      | false =>
        rw [if_neg (fun hh => by rw [ha] at hh; cases hh.2)] at hq
        exact bif_t rfl (kRet_pure rfl E hq)
      | true =>
        rw [if_pos ⟨hp, ha⟩] at hq
        exact bif_f rfl (st_fld (st_load B2 D.len.symm D.dat (st_asS (kRet_pure rfl E hq))))
  refine st_loadN B D.len.symm (plain_c D1 (st_asB ?_))
  refine bif_both (fun e => st_loadN B D.len.symm (plain_c D1 (st_asB ?_))) fun e => p0 _ ?_
  · have e : dPlain 12 d = false := by simpa using e
    rw [e, Bool.false_or] at p0
    refine bif_both (fun e => st_loadN B D.len.symm (plain_c D1 (st_asB (p0 _ ?_)))) fun e => p0 _ ?_
    · have e : dPlain 19 d = false := by simpa using e
      rw [e]; rfl
    · have e : dPlain 19 d = true := by simpa using e
      rw [e]; rfl
  · have e : dPlain 12 d = true := by simpa using e
    rw [e]; rfl

theorem Rtext_c {d : Der} {cs : List AV} {F : Nat → Prop} {h : AHeap} (D : DV h F d cs) (hs : d.data.length ≤ 100000) (hq : Q (textR (textS d)) h) : C G_ref33_Text.id [.ag cs] h Q := by
  refine G_ref33_Text.call ?_
  simp only [G_ref33_Text.t, G_ref33_Text.j0]
  refine D.box fun h1 hl1 U1 B D1 => ?_
  unfold textS at hq
  have E := U1.ext
  have p0 : ∀ b, b = !(dPlain 12 d || (dPlain 19 d || dPlain 22 d)) → G_ref33_Text.p0 (kRet h Q) (.p (some ⟨h.length, 5, 0⟩)) b h1 := by
    intro b hb
    refine G_ref33_Text.i0 ?_
    simp only [G_ref33_Text.t0, G_ref33_Text.j1]
    refine bif_both (fun e => ?_) fun e => ?_
    · subst e
      rw [if_neg (fun hh => by rw [hh.1] at hb; cases hb)] at hq
      exact kRet_pure rfl E hq
    · subst e
      have hp : (dPlain 12 d || (dPlain 19 d || dPlain 22 d)) = true := by
        revert hb
        generalize (dPlain 12 d || (dPlain 19 d || dPlain 22 d)) = x
        cases x <;> simp
      have go : ∀ (r : List UInt8) (i : Nat), d.data.drop i = r → i ≤ d.data.length → (d.data.all textB = r.all textB) → G_ref33_Text.p1 (kRet h Q) (.p (some ⟨h.length, 5, 0⟩)) i h1 := by
        intro r
        induction r with
        | nil =>
          intro i hr hi he
          have := drop_end hr
          refine G_ref33_Text.i1 ?_
          simp only [G_ref33_Text.t1]
          rw [if_pos ⟨hp, by rw [he]; rfl⟩] at hq
          refine st_fld (st_load B D.len.symm D.dat (st_asS (bif_f (by simp; omega) (st_fld (st_load B D.len.symm D.dat (st_asS (kRet_pure rfl E hq)))))))
        | cons c r ih =>
          intro i hr hi he
          have hlt := drop_lt hr
          have hn := drop_next hr
          rw [List.all_cons] at he
          have p2 : ∀ b, b = !textB c → G_ref33_Text.p2 (kRet h Q) (.p (some ⟨h.length, 5, 0⟩)) i b h1 := by
            intro b hb
            refine G_ref33_Text.i2 ?_
            simp only [G_ref33_Text.t2, G_ref33_Text.j1]
            cases hp : textB c with
            | false =>
              rw [hp] at he hb
              rw [if_neg (fun hh => by rw [he] at hh; cases hh.2)] at hq
              exact bif_t hb (kRet_pure rfl E hq)
            | true =>
              rw [hp] at hb
              rw [hp, Bool.true_and] at he
              exact bif_f hb (inc (by omega) (ih (i + 1) hn (by omega) he))
          unfold textB at p2
          refine G_ref33_Text.i1 ?_
          simp only [G_ref33_Text.t1, G_ref33_Text.j2]
          refine st_fld (st_load B D.len.symm D.dat (st_asS (bif_t (by simp; omega) (st_fld (st_load B D.len.symm D.dat (st_asS (st_at hr ?_)))))))
          refine bif_both (fun e => p2 _ ?_) fun e => st_fld (st_load B D.len.symm D.dat (st_asS (st_at hr (p2 _ ?_))))
          · simp only [decide_eq_true_eq] at e
            rw [decide_eq_false (by omega : ¬ 32 ≤ c.toNat)]; rfl
          · simp only [decide_eq_false_iff_not] at e
            rw [decide_eq_true (by omega : 32 ≤ c.toNat), Bool.true_and, ← decide_not, decide_eq_decide]; omega
      exact go d.data 0 rfl (by omega) rfl
  refine st_loadN B D.len.symm (Rplain_c D1 (st_asB ?_))
  refine bif_both (fun e => st_loadN B D.len.symm (Rplain_c D1 (st_asB ?_))) fun e => p0 _ ?_
  · have e : dPlain 12 d = false := by simpa using e
    rw [e, Bool.false_or] at p0
    refine bif_both (fun e => st_loadN B D.len.symm (Rplain_c D1 (st_asB (p0 _ ?_)))) fun e => p0 _ ?_
    · have e : dPlain 19 d = false := by simpa using e
      rw [e]; rfl
    · have e : dPlain 19 d = true := by simpa using e
      rw [e]; rfl
  · have e : dPlain 12 d = true := by simpa using e
    rw [e]; rfl

end
end Go.Proofs.YtffgchcidkapjaaDoor

/- The calendar; TimeOf. -/
set_option linter.unusedVariables false
set_option linter.unusedSimpArgs false
set_option linter.unusedSectionVars false
set_option maxRecDepth 20000
namespace Go.Proofs.YtffgchcidkapjaaDoor
open Go.GAM Go.RowKit

def leapN (y : Nat) : Bool := decide (y % 4 = 0) && (!decide (y % 100 = 0) || decide (y % 400 = 0))
def daysN (y m : Nat) : Nat := if m = 2 then (if leapN y = true then 29 else 28) else if m = 4 ∨ m = 6 ∨ m = 9 ∨ m = 11 then 30 else 31
def yearN (y : Nat) : Nat := if leapN y = true then 366 else 365
/-- The days from 1970 on to a year's beginning. -/
def befN (y : Nat) : Nat := 365 * (y - 1970) + ((y - 1) / 4 + (y - 1) / 400) - (y - 1) / 100 - 477
/-- The days from a year's beginning on to a month's. -/
def monN (y : Nat) : Nat → Nat
  | 0 => 0
  | k + 1 => monN y k + if k = 0 then 0 else daysN y k

theorem bef_succ {y : Nat} (h : 1970 ≤ y) : befN (y + 1) = befN y + yearN y := by
  unfold befN yearN leapN
  by_cases h4 : y % 4 = 0
  · by_cases h100 : y % 100 = 0
    · by_cases h400 : y % 400 = 0
      · simp [h4, h100, h400]; omega
      · simp [h4, h100, h400]; omega
    · simp [h4, h100]; omega
  · simp [h4]; omega
theorem bef_0 : befN 1970 = 0 := by decide
theorem yearN_bd (y : Nat) : 365 ≤ yearN y ∧ yearN y ≤ 366 := by unfold yearN; split <;> omega
theorem daysN_bd (y m : Nat) : 28 ≤ daysN y m ∧ daysN y m ≤ 31 := by
  unfold daysN
  repeat' split
  all_goals omega
theorem mon_succ {y m : Nat} (h : 1 ≤ m) : monN y (m + 1) = monN y m + daysN y m := by
  show monN y m + (if m = 0 then 0 else daysN y m) = _
  rw [if_neg (by omega)]
theorem mon_1 (y : Nat) : monN y 1 = 0 := rfl
theorem mon_13 (y : Nat) : monN y 13 = yearN y := by
  simp only [monN, daysN, yearN]
  cases leapN y <;> rfl
theorem mon_mono {y a b : Nat} (h : 1 ≤ a) (hab : a ≤ b) : monN y a ≤ monN y b := by
  obtain ⟨k, rfl⟩ : ∃ k, b = a + k := ⟨b - a, by omega⟩
  clear hab
  induction k with
  | zero => exact Nat.le_refl _
  | succ k ih =>
    have := mon_succ (y := y) (m := a + k) (by omega)
    rw [show a + (k + 1) = a + k + 1 by omega]; omega
theorem bef_mono {a b : Nat} (h : 1970 ≤ a) (hab : a ≤ b) : befN a + 365 * (b - a) ≤ befN b := by
  obtain ⟨k, rfl⟩ : ∃ k, b = a + k := ⟨b - a, by omega⟩
  clear hab
  induction k with
  | zero => simp
  | succ k ih =>
    have := bef_succ (y := a + k) (by omega)
    have := (yearN_bd (a + k)).1
    rw [show a + (k + 1) = a + k + 1 by omega]; omega
theorem bef_up {a b : Nat} (h : 1970 ≤ a) (hab : a ≤ b) : befN b ≤ befN a + 366 * (b - a) := by
  obtain ⟨k, rfl⟩ : ∃ k, b = a + k := ⟨b - a, by omega⟩
  clear hab
  induction k with
  | zero => simp
  | succ k ih =>
    have := bef_succ (y := a + k) (by omega)
    have := (yearN_bd (a + k)).2
    rw [show a + (k + 1) = a + k + 1 by omega]; omega

section
variable {h0 : AHeap} {Q : AV → AHeap → Prop}

theorem rem_n {a b : Nat} {K : Int → Prop} (hb : b ≠ 0) (hk : K ((a % b : Nat) : Int)) : pRem (a : Int) (b : Int) K :=
  st_rem (by omega) (by rw [Int.tmod_eq_emod_of_nonneg (by omega)]; rfl) hk
theorem quo_n {a b : Nat} {K : Int → Prop} (hb : b ≠ 0) (ha : a < 9223372036854775808) (hk : K ((a / b : Nat) : Int)) : pQuo .i64 (a : Int) (b : Int) K := by
  have h := Nat.div_le_self a b
  refine st_quo (by omega) ?_ hk
  rw [Int.tdiv_eq_ediv_of_nonneg (by omega), ← Int.natCast_ediv]
  generalize a / b = y at h
  rw [wrap_i64 (by omega) (by omega)]

theorem leap_c {y : Nat} {h : AHeap} (hq : Q (.b (leapN y)) h) : C G_der_leap.id [.i .i64 (y : Int)] h Q := by
  refine G_der_leap.call ?_
  simp only [G_der_leap.t, G_der_leap.j0]
  have p0 : ∀ b, b = leapN y → G_der_leap.p0 (kRet h Q) b h := by
    intro b hb
    refine G_der_leap.i0 ?_
    simp only [G_der_leap.t0]
    subst hb
    exact .inl hq
  unfold leapN at p0
  refine rem_n (b := 4) (by omega) (bif_both (fun e1 => rem_n (b := 100) (by omega) ?_) fun e1 => p0 _ ?_)
  · simp only [decide_eq_true_eq] at e1
    rw [decide_eq_true (by omega : y % 4 = 0), Bool.true_and] at p0
    refine bif_both (fun e2 => p0 _ ?_) fun e2 => rem_n (b := 400) (by omega) (p0 _ ?_)
    · have e2 : ((y % 100 : Nat) : Int) ≠ 0 := by simpa using e2
      rw [decide_eq_false (by omega : ¬ y % 100 = 0)]; rfl
    · have e2 : ((y % 100 : Nat) : Int) = 0 := by simpa using e2
      rw [decide_eq_true (by omega : y % 100 = 0)]
      show decide _ = decide _
      rw [decide_eq_decide]; omega
  · simp only [decide_eq_false_iff_not] at e1
    rw [decide_eq_false (by omega : ¬ y % 4 = 0)]; rfl
theorem Rleap_c {y : Nat} {h : AHeap} (hq : Q (.b (leapN y)) h) : C G_ref33_leap.id [.i .i64 (y : Int)] h Q := by
  refine G_ref33_leap.call ?_
  simp only [G_ref33_leap.t, G_ref33_leap.j0]
  have p0 : ∀ b, b = leapN y → G_ref33_leap.p0 (kRet h Q) b h := by
    intro b hb
    refine G_ref33_leap.i0 ?_
    simp only [G_ref33_leap.t0]
    subst hb
    exact .inl hq
  unfold leapN at p0
  refine rem_n (b := 4) (by omega) (bif_both (fun e1 => rem_n (b := 100) (by omega) ?_) fun e1 => p0 _ ?_)
  · simp only [decide_eq_true_eq] at e1
    rw [decide_eq_true (by omega : y % 4 = 0), Bool.true_and] at p0
    refine bif_both (fun e2 => p0 _ ?_) fun e2 => rem_n (b := 400) (by omega) (p0 _ ?_)
    · have e2 : ((y % 100 : Nat) : Int) ≠ 0 := by simpa using e2
      rw [decide_eq_false (by omega : ¬ y % 100 = 0)]; rfl
    · have e2 : ((y % 100 : Nat) : Int) = 0 := by simpa using e2
      rw [decide_eq_true (by omega : y % 100 = 0)]
      show decide _ = decide _
      rw [decide_eq_decide]; omega
  · simp only [decide_eq_false_iff_not] at e1
    rw [decide_eq_false (by omega : ¬ y % 4 = 0)]; rfl

theorem days_c {y m : Nat} {h : AHeap} (hq : Q (.i .i64 (daysN y m : Nat)) h) : C G_der_days.id [.i .i64 (y : Int), .i .i64 (m : Int)] h Q := by
  refine G_der_days.call ?_
  simp only [G_der_days.t, G_der_days.j0]
  unfold daysN at hq
  have p0 : m ≠ 2 → ∀ b, b = decide (m = 4 ∨ m = 6 ∨ m = 9 ∨ m = 11) → G_der_days.p0 (kRet h Q) b h := by
    intro h2 b hb
    rw [if_neg h2] at hq
    refine G_der_days.i0 ?_
    simp only [G_der_days.t0]
    refine bif_both (fun e => ?_) fun e => ?_
    · subst e; rw [if_pos (by simpa using hb.symm)] at hq; exact .inl hq
    · subst e; rw [if_neg (of_decide_eq_false hb.symm)] at hq; exact .inl hq
  refine bif_both (fun e => leap_c (st_asB ?_)) fun e => ?_
  · rw [if_pos (by simp only [decide_eq_true_eq] at e; omega)] at hq
    refine bif_both (fun e => ?_) fun e => ?_
    · rw [if_pos e] at hq; exact .inl hq
    · rw [if_neg (by rw [e]; simp)] at hq; exact .inl hq
  have p0 := p0 (by simp only [decide_eq_false_iff_not] at e; omega)
  have fin : ∀ b : Bool, (b = true ↔ (m = 4 ∨ m = 6 ∨ m = 9 ∨ m = 11)) → G_der_days.p0 (kRet h Q) b h := fun b hb => p0 b (by
    cases b with
    | true => rw [decide_eq_true (hb.1 rfl)]
    | false => rw [decide_eq_false (fun hh => by have := hb.2 hh; cases this)])
  refine bif_both (fun e1 => fin _ ?_) fun e1 => bif_both (fun e2 => fin _ ?_) fun e2 => bif_both (fun e3 => fin _ ?_) fun e3 => fin _ ?_
  all_goals (simp only [decide_eq_true_eq, decide_eq_false_iff_not] at *; omega)
theorem Rdays_c {y m : Nat} {h : AHeap} (hq : Q (.i .i64 (daysN y m : Nat)) h) : C G_ref33_days.id [.i .i64 (y : Int), .i .i64 (m : Int)] h Q := by
  refine G_ref33_days.call ?_
  simp only [G_ref33_days.t, G_ref33_days.j0]
  unfold daysN at hq
  have p0 : m ≠ 2 → ∀ b, b = decide (m = 4 ∨ m = 6 ∨ m = 9 ∨ m = 11) → G_ref33_days.p0 (kRet h Q) b h := by
    intro h2 b hb
    rw [if_neg h2] at hq
    refine G_ref33_days.i0 ?_
    simp only [G_ref33_days.t0]
    refine bif_both (fun e => ?_) fun e => ?_
    · subst e; rw [if_pos (by simpa using hb.symm)] at hq; exact .inl hq
    · subst e; rw [if_neg (of_decide_eq_false hb.symm)] at hq; exact .inl hq
  refine bif_both (fun e => Rleap_c (st_asB ?_)) fun e => ?_
  · rw [if_pos (by simp only [decide_eq_true_eq] at e; omega)] at hq
    refine bif_both (fun e => ?_) fun e => ?_
    · rw [if_pos e] at hq; exact .inl hq
    · rw [if_neg (by rw [e]; simp)] at hq; exact .inl hq
  have p0 := p0 (by simp only [decide_eq_false_iff_not] at e; omega)
  have fin : ∀ b : Bool, (b = true ↔ (m = 4 ∨ m = 6 ∨ m = 9 ∨ m = 11)) → G_ref33_days.p0 (kRet h Q) b h := fun b hb => p0 b (by
    cases b with
    | true => rw [decide_eq_true (hb.1 rfl)]
    | false => rw [decide_eq_false (fun hh => by have := hb.2 hh; cases this)])
  refine bif_both (fun e1 => fin _ ?_) fun e1 => bif_both (fun e2 => fin _ ?_) fun e2 => bif_both (fun e3 => fin _ ?_) fun e3 => fin _ ?_
  all_goals (simp only [decide_eq_true_eq, decide_eq_false_iff_not] at *; omega)

theorem past_c {k : Nat} {h : AHeap} (hk : k ≤ 100000) (hq : Q (.i .i64 ((k / 4 + k / 400 - k / 100 : Nat) : Int)) h) : C G_der_before_1.id [.i .i64 (k : Int)] h Q := by
  refine G_der_before_1.call ?_
  simp only [G_der_before_1.t]
  refine quo_n (b := 4) (by omega) (by omega) (quo_n (b := 100) (by omega) (by omega) ?_)
  refine withI_is (n := ((k / 4 - k / 100 : Nat) : Int)) (by rw [wrap_i64 (by omega) (by omega)]; omega) (quo_n (b := 400) (by omega) (by omega) ?_)
  refine withI_is (n := ((k / 4 + k / 400 - k / 100 : Nat) : Int)) (by rw [wrap_i64 (by omega) (by omega)]; omega) (.inl hq)
theorem before_c {y : Nat} {h : AHeap} (h1 : 1970 ≤ y) (h2 : y ≤ 90000) (hq : Q (.i .i64 (befN y : Nat)) h) : C G_der_before.id [.i .i64 (y : Int)] h Q := by
  refine G_der_before.call ?_
  simp only [G_der_before.t]
  unfold befN at hq
  refine withI_is (n := ((y - 1970 : Nat) : Int)) (by rw [wrap_i64 (by omega) (by omega)]; omega) ?_
  refine withI_is (n := ((365 * (y - 1970) : Nat) : Int)) (by rw [wrap_i64 (by omega) (by omega)]; omega) ?_
  refine withI_is (n := ((y - 1 : Nat) : Int)) (by rw [wrap_i64 (by omega) (by omega)]; omega) ?_
  refine callV_c rfl (past_c (by omega) (st_asI ?_))
  refine withI_is (n := ((365 * (y - 1970) + ((y - 1) / 4 + (y - 1) / 400 - (y - 1) / 100) : Nat) : Int)) (by rw [wrap_i64 (by omega) (by omega)]; omega) ?_
  refine callV_c rfl (past_c (k := 1969) (by omega) (st_asI ?_))
  refine withI_is (n := ((365 * (y - 1970) + ((y - 1) / 4 + (y - 1) / 400) - (y - 1) / 100 - 477 : Nat) : Int)) (by rw [wrap_i64 (by omega) (by omega)]; omega) (.inl hq)

def twoS (k : Nat) : List UInt8 := [UInt8.ofNat (48 + k / 10 % 10), UInt8.ofNat (48 + k % 10)]
theorem Tx.two {h0 h : AHeap} (U : Upd (fun _ => False) h0 h) {c d : UInt8} {K : AV → AHeap → Prop} (hk : ∀ v h', Tx h0 h' v [c, d] → K v h') : pBuildSl 1 2 [.i .u8 0, .i .u8 0] [(0, 1, .i .u8 (c.toNat : Int)), (1, 1, .i .u8 (d.toNat : Int))] h K := by
  refine ⟨rfl, hk _ _ ⟨U.trans (Upd.app _ _) fun _ _ h => h, .inr ⟨h.length, newBlk [byteAV c, byteAV d] 1 true, rfl, by simp [byteAV]; rfl, rfl, rfl, rfl, Nat.le_refl _, rfl, rfl⟩, fun i hi => ?_⟩⟩
  cases hi; exact U.1
theorem two_c {k : Nat} {h : AHeap} (hk : k < 100) (hq : Q (.s (twoS k)) h) : C G_der_TimeOf_1.id [.i .i64 (k : Int)] h Q := by
  refine G_der_TimeOf_1.call ?_
  simp only [G_der_TimeOf_1.t]
  refine quo_n (b := 10) (by omega) (by omega) ?_
  refine withI_is (n := ((48 + k / 10 % 10 : Nat) : Int)) (by rw [wrap_i64 (by omega) (by omega)]; omega) (rem_n (b := 10) (by omega) ?_)
  refine withI_is (n := ((48 + k % 10 : Nat) : Int)) (by rw [wrap_i64 (by omega) (by omega)]; omega) ?_
  rw [wrap_u8_nat, wrap_u8_nat, byte_mod, byte_mod]
  exact Tx.two (Upd.refl _ _) fun v h' T => T.ret hq
theorem Rtwo_c {k : Nat} {h : AHeap} (hk : k < 1000000) (hq : Q (.s (twoS k)) h) : C G_ref33_two.id [.i .i64 (k : Int)] h Q := by
  refine G_ref33_two.call ?_
  simp only [G_ref33_two.t]
  refine quo_n (b := 10) (by omega) (by omega) (rem_n (b := 10) (by omega) ?_)
  refine withI_is (n := ((48 + k / 10 % 10 : Nat) : Int)) (by rw [wrap_i64 (by omega) (by omega)]; omega) (rem_n (b := 10) (by omega) ?_)
  refine withI_is (n := ((48 + k % 10 : Nat) : Int)) (by rw [wrap_i64 (by omega) (by omega)]; omega) ?_
  rw [wrap_u8_nat, wrap_u8_nat, byte_mod, byte_mod]
  exact Tx.two (Upd.refl _ _) fun v h' T => T.ret hq
theorem two_mod (y : Nat) : twoS (y % 100) = twoS y := by
  unfold twoS
  rw [show y % 100 / 10 % 10 = y / 10 % 10 by omega, show y % 100 % 10 = y % 10 by omega]

/-! ### TimeOf -/

/-- The date of a day. -/
structure Date (day y m d : Nat) : Prop where
  y0 : 1970 ≤ y
  y1 : befN y ≤ day
  y2 : day < befN (y + 1)
  m0 : 1 ≤ m
  m1 : m ≤ 12
  d0 : day = befN y + monN y m + d
  d1 : d < daysN y m

theorem date_is (day : Nat) : ∃ y m d, Date day y m d := by
  have hy : ∃ y, 1970 ≤ y ∧ befN y ≤ day ∧ day < befN (y + 1) := by
    have go : ∀ k, (∃ y, 1970 ≤ y ∧ befN y ≤ day ∧ day < befN (y + 1)) ∨ befN (1970 + k) ≤ day := by
      intro k
      induction k with
      | zero => right; rw [Nat.add_zero, bef_0]; omega
      | succ k ih =>
        rcases ih with h | h
        · exact .inl h
        · by_cases hd : day < befN (1970 + k + 1)
          · exact .inl ⟨1970 + k, by omega, h, hd⟩
          · exact .inr (by rw [show 1970 + (k + 1) = 1970 + k + 1 by omega]; omega)
    rcases go (day + 1) with h | h
    · exact h
    · have := bef_mono (a := 1970) (b := 1970 + (day + 1)) (by omega) (by omega)
      omega
  obtain ⟨y, h1, h2, h3⟩ := hy
  have hb := bef_succ h1
  have hm : ∃ m, 1 ≤ m ∧ m ≤ 12 ∧ monN y m ≤ day - befN y ∧ day - befN y < monN y (m + 1) := by
    have go : ∀ k, k ≤ 12 → (∃ m, 1 ≤ m ∧ m ≤ 12 ∧ monN y m ≤ day - befN y ∧ day - befN y < monN y (m + 1)) ∨ monN y (1 + k) ≤ day - befN y := by
      intro k
      induction k with
      | zero => intro _; right; rw [Nat.add_zero, mon_1]; omega
      | succ k ih =>
        intro hk
        rcases ih (by omega) with h | h
        · exact .inl h
        · by_cases hd : day - befN y < monN y (1 + k + 1)
          · exact .inl ⟨1 + k, by omega, by omega, h, hd⟩
          · exact .inr (by rw [show 1 + (k + 1) = 1 + k + 1 by omega]; omega)
    rcases go 12 (by omega) with h | h
    · exact h
    · have := mon_13 y
      rw [show 1 + 12 = 13 from rfl] at h
      omega
  obtain ⟨m, m0, m1, m2, m3⟩ := hm
  have := mon_succ (y := y) m0
  exact ⟨y, m, day - befN y - monN y m, h1, h2, h3, m0, m1, by omega, by omega⟩

def clockS (y m d r : Nat) : List UInt8 := twoS y ++ twoS m ++ twoS (d + 1) ++ twoS (r / 3600) ++ twoS (r / 60 % 60) ++ twoS (r % 60) ++ [90]
def timeOfS (y m d r : Nat) : List AV := if y < 2050 then leafC 0 23 false (clockS y m d r) else leafC 0 24 false (twoS (y / 100) ++ clockS y m d r)

theorem twoS_len (k : Nat) : (twoS k).length = 2 := rfl

theorem bef_lt {a b : Nat} (h : 1970 ≤ a) (hb : 1970 ≤ b) (hab : befN a ≤ befN b) : a ≤ b := by
  rcases Nat.lt_or_ge b a with h1 | h1
  · have := bef_mono hb (Nat.le_of_lt h1); omega
  · exact h1

theorem timeOf_zero {n : Int} {h : AHeap} (hn : n < 0 ∨ 253402300799 < n) (hn2 : n < 9223372036854775808) (hn3 : -9223372036854775808 ≤ n) (hq : Q (.ag (leafC 0 0 false [])) h) : C G_der_TimeOf.id [.i .i64 n] h Q := by
  refine G_der_TimeOf.call ?_
  simp only [G_der_TimeOf.t, G_der_TimeOf.j0]
  refine st_alloc fun h1 hl1 U1 R => ?_
  have p0 : G_der_TimeOf.p0 (kRet h Q) n (.p (some ⟨h.length, 5, 0⟩)) true h1 := by
    refine G_der_TimeOf.i0 ?_
    simp only [G_der_TimeOf.t0]
    exact bif_t rfl (ret_leaf (h1 := h1) rfl R (Nat.le_refl _) U1 hq)
  refine bif_both (fun e => p0) fun e => ?_
  simp only [decide_eq_false_iff_not] at e
  obtain ⟨k, rfl⟩ : ∃ k : Nat, n = k := ⟨n.toNat, by omega⟩
  refine quo_n (b := 86400) (by omega) (by omega) (before_c (y := 10000) (by omega) (by omega) (st_asI ?_))
  rw [decide_eq_true (by rw [show befN 10000 = 2932897 by decide]; omega)]
  exact p0

theorem Date.y4 {day y m d : Nat} (D : Date day y m d) (h : day ≤ 2932896) : y ≤ 9999 := by
  have h1 := D.y1
  have h2 : befN 10000 = 2932897 := by decide
  rcases Nat.lt_or_ge y 10000 with h | h
  · omega
  · have := bef_mono (a := 10000) (by omega) h; omega

theorem timeOf_c {n y m d : Nat} {h : AHeap} (hn : n ≤ 253402300799) (D : Date (n / 86400) y m d) (hq : Q (.ag (timeOfS y m d (n % 86400))) h) : C G_der_TimeOf.id [.i .i64 (n : Int)] h Q := by
  have hday : n / 86400 ≤ 2932896 := by omega
  have hy := D.y4 hday
  have hr : n % 86400 < 86400 := Nat.mod_lt _ (by omega)
  refine G_der_TimeOf.call ?_
  simp only [G_der_TimeOf.t, G_der_TimeOf.j0]
  refine st_alloc fun h1 hl1 U1 R => ?_
  refine bif_f (by simp) (quo_n (b := 86400) (by omega) (by omega) (before_c (y := 10000) (by omega) (by omega) (st_asI ?_)))
  rw [decide_eq_false (by rw [show befN 10000 = 2932897 by decide]; omega)]
  refine G_der_TimeOf.i0 ?_
  simp only [G_der_TimeOf.t0, G_der_TimeOf.j1]
  refine bif_f rfl (quo_n (b := 86400) (by omega) (by omega) (rem_n (b := 86400) (by omega) ?_))
  generalize n / 86400 = day at *
  generalize n % 86400 = r at *
  refine quo_n (b := 366) (by omega) (by omega) ?_
  refine withI_is (n := ((1970 + day / 366 : Nat) : Int)) (by rw [wrap_i64 (by omega) (by omega)]; omega) ?_
  obtain ⟨y0, y1, y2, m0, m1, d0, d1⟩ := D
  have p2 : ∀ k m', m' + k = m → 1 ≤ m' → G_der_TimeOf.p2 (kRet h Q) (.p (some ⟨h.length, 5, 0⟩)) ((monN y m + d - monN y m' : Nat) : Int) r y m' h1 := by
    intro k
    induction k with
    | zero =>
      intro m' hm' _
      have : m' = m := by omega
      subst this
      refine G_der_TimeOf.i2 ?_
      simp only [G_der_TimeOf.t2]
      refine days_c (st_asI (bif_f (by rw [decide_eq_false_iff_not]; omega) ?_))
      have hd31 := daysN_bd y m'
      refine rem_n (b := 100) (by omega) (callV_c rfl (two_c (by omega) (st_asS (callV_c rfl (two_c (by omega) (st_asS ⟨by simp [twoS_len], ?_⟩))))))
      refine withI_is (n := ((d + 1 : Nat) : Int)) (by rw [wrap_i64 (by omega) (by omega)]; omega) (callV_c rfl (two_c (by omega) (st_asS ⟨by simp [twoS_len], ?_⟩)))
      refine quo_n (b := 3600) (by omega) (by omega) (callV_c rfl (two_c (by omega) (st_asS ⟨by simp [twoS_len], ?_⟩)))
      refine quo_n (b := 60) (by omega) (by omega) (rem_n (b := 60) (by omega) (callV_c rfl (two_c (by omega) (st_asS ⟨by simp [twoS_len], ?_⟩))))
      refine rem_n (b := 60) (by omega) (callV_c rfl (two_c (by omega) (st_asS ⟨by simp [twoS_len], ⟨by simp [twoS_len], ?_⟩⟩)))
      rw [two_mod]
      unfold timeOfS at hq
      by_cases hy50 : y < 2050
      · rw [if_pos hy50] at hq
        exact bif_t (by rw [decide_eq_true_eq]; omega) (ret_leaf (h1 := h1) rfl R (Nat.le_refl _) U1 hq)
      · rw [if_neg hy50] at hq
        refine bif_f (by rw [decide_eq_false_iff_not]; omega) (quo_n (b := 100) (by omega) (by omega) (callV_c rfl (two_c (by omega) (st_asS ⟨by simp [twoS_len], ?_⟩))))
        exact ret_leaf (h1 := h1) rfl R (Nat.le_refl _) U1 hq
    | succ k ih =>
      intro m' hm' h1m
      have hms := mon_succ (y := y) h1m
      have hmm := mon_mono (y := y) (a := m' + 1) (b := m) (by omega) (by omega)
      refine G_der_TimeOf.i2 ?_
      simp only [G_der_TimeOf.t2, G_der_TimeOf.j2]
      refine days_c (st_asI (bif_t (by rw [decide_eq_true_eq]; omega) (days_c (st_asI ?_))))
      refine withI_is (n := ((monN y m + d - monN y (m' + 1) : Nat) : Int)) (by rw [wrap_i64 (by omega) (by omega)]; omega) (inc (by omega) ?_)
      exact ih (m' + 1) (by omega) (by omega)
  have p1 : ∀ k y', y' + k = y → 1970 ≤ y' → G_der_TimeOf.p1 (kRet h Q) (.p (some ⟨h.length, 5, 0⟩)) day r y' h1 := by
    intro k
    induction k with
    | zero =>
      intro y' hy' _
      have : y' = y := by omega
      subst this
      refine G_der_TimeOf.i1 ?_
      simp only [G_der_TimeOf.t1, G_der_TimeOf.j2]
      refine inc (by omega) (before_c (by omega) (by omega) (st_asI (bif_f (by rw [decide_eq_false_iff_not]; omega) (before_c (by omega) (by omega) (st_asI ?_)))))
      refine withI_is (n := ((monN y' m + d - monN y' 1 : Nat) : Int)) (by rw [wrap_i64 (by omega) (by omega), mon_1]; omega) ?_
      exact p2 (m - 1) 1 (by omega) (by omega)
    | succ k ih =>
      intro y' hy' h1y
      have := bef_mono (a := y' + 1) (b := y) (by omega) (by omega)
      refine G_der_TimeOf.i1 ?_
      simp only [G_der_TimeOf.t1, G_der_TimeOf.j1]
      refine inc (by omega) (before_c (by omega) (by omega) (st_asI (bif_t (by rw [decide_eq_true_eq]; omega) ?_)))
      exact inc (by omega) (ih (y' + 1) (by omega) (by omega))
  have hle : 1970 + day / 366 ≤ y := by
    have h1 := bef_up (a := 1970) (b := 1970 + day / 366) (by omega) (by omega)
    rw [bef_0] at h1
    rcases Nat.lt_or_ge y (1970 + day / 366) with h2 | h2
    · have := bef_mono (a := y + 1) (b := 1970 + day / 366) (by omega) (by omega)
      omega
    · exact h2
  exact p1 (y - (1970 + day / 366)) (1970 + day / 366) (by omega) (by omega)

theorem RtimeOf_zero {n : Int} {h : AHeap} (hn : n < 0 ∨ 253402300799 < n) (hq : Q (.ag (leafC 0 0 false [])) h) : C G_ref33_TimeOf.id [.i .i64 n] h Q := by
  refine G_ref33_TimeOf.call ?_
  simp only [G_ref33_TimeOf.t, G_ref33_TimeOf.j0]
  refine st_alloc fun h1 hl1 U1 R => ?_
  have p0 : G_ref33_TimeOf.p0 (kRet h Q) n (.p (some ⟨h.length, 5, 0⟩)) true h1 := by
    refine G_ref33_TimeOf.i0 ?_
    simp only [G_ref33_TimeOf.t0]
    exact bif_t rfl (ret_leaf (h1 := h1) rfl R (Nat.le_refl _) U1 hq)
  refine bif_both (fun e => p0) fun e => ?_
  simp only [decide_eq_false_iff_not] at e
  rw [decide_eq_true (by omega)]
  exact p0

theorem RtimeOf_c {n y m d : Nat} {h : AHeap} (hn : n ≤ 253402300799) (D : Date (n / 86400) y m d) (hq : Q (.ag (timeOfS y m d (n % 86400))) h) : C G_ref33_TimeOf.id [.i .i64 (n : Int)] h Q := by
  have hday : n / 86400 ≤ 2932896 := by omega
  have hy := D.y4 hday
  have hr : n % 86400 < 86400 := Nat.mod_lt _ (by omega)
  refine G_ref33_TimeOf.call ?_
  simp only [G_ref33_TimeOf.t, G_ref33_TimeOf.j0]
  refine st_alloc fun h1 hl1 U1 R => ?_
  refine bif_f (by simp) ?_
  rw [decide_eq_false (by omega)]
  refine G_ref33_TimeOf.i0 ?_
  simp only [G_ref33_TimeOf.t0, G_ref33_TimeOf.j1]
  refine bif_f rfl (quo_n (b := 86400) (by omega) (by omega) ?_)
  obtain ⟨y0, y1, y2, m0, m1, d0, d1⟩ := D
  generalize hD : n / 86400 = day at *
  have p2 : ∀ k m', m' + k = m → 1 ≤ m' → G_ref33_TimeOf.p3 (kRet h Q) n (.p (some ⟨h.length, 5, 0⟩)) ((monN y m + d - monN y m' : Nat) : Int) y m' h1 := by
    intro k
    induction k with
    | zero =>
      intro m' hm' _
      have : m' = m := by omega
      subst this
      refine G_ref33_TimeOf.i3 ?_
      simp only [G_ref33_TimeOf.t3]
      refine Rdays_c (st_asI (bif_f (by rw [decide_eq_false_iff_not]; omega) ?_))
      have hd31 := daysN_bd y m'
      refine rem_n (b := 86400) (by omega) ?_
      generalize n % 86400 = r at *
      refine Rtwo_c (by omega) (st_asS (Rtwo_c (by omega) (st_asS ⟨by simp [twoS_len], ?_⟩)))
      refine withI_is (n := ((d + 1 : Nat) : Int)) (by rw [wrap_i64 (by omega) (by omega)]; omega) (Rtwo_c (by omega) (st_asS ⟨by simp [twoS_len], ?_⟩))
      refine quo_n (b := 3600) (by omega) (by omega) (Rtwo_c (by omega) (st_asS ⟨by simp [twoS_len], ?_⟩))
      refine quo_n (b := 60) (by omega) (by omega) (rem_n (b := 60) (by omega) (Rtwo_c (by omega) (st_asS ⟨by simp [twoS_len], ?_⟩)))
      refine rem_n (b := 60) (by omega) (Rtwo_c (by omega) (st_asS ⟨by simp [twoS_len], ⟨by simp [twoS_len], ?_⟩⟩))
      unfold timeOfS at hq
      by_cases hy50 : y < 2050
      · rw [if_pos hy50] at hq
        exact bif_f (by rw [decide_eq_false_iff_not]; omega) (ret_leaf (h1 := h1) rfl R (Nat.le_refl _) U1 hq)
      · rw [if_neg hy50] at hq
        refine bif_t (by rw [decide_eq_true_eq]; omega) (quo_n (b := 100) (by omega) (by omega) (Rtwo_c (by omega) (st_asS ⟨by simp [twoS_len], ?_⟩)))
        exact ret_leaf (h1 := h1) rfl R (Nat.le_refl _) U1 hq
    | succ k ih =>
      intro m' hm' h1m
      have hms := mon_succ (y := y) h1m
      have hmm := mon_mono (y := y) (a := m' + 1) (b := m) (by omega) (by omega)
      refine G_ref33_TimeOf.i3 ?_
      simp only [G_ref33_TimeOf.t3, G_ref33_TimeOf.j3]
      refine Rdays_c (st_asI (bif_t (by rw [decide_eq_true_eq]; omega) (Rdays_c (st_asI ?_))))
      refine withI_is (n := ((monN y m + d - monN y (m' + 1) : Nat) : Int)) (by rw [wrap_i64 (by omega) (by omega)]; omega) (inc (by omega) ?_)
      exact ih (m' + 1) (by omega) (by omega)
  have p1 : ∀ k y', y' + k = y → 1970 ≤ y' → G_ref33_TimeOf.p1 (kRet h Q) n (.p (some ⟨h.length, 5, 0⟩)) ((day - befN y' : Nat) : Int) y' h1 := by
    intro k
    induction k with
    | zero =>
      intro y' hy' _
      have : y' = y := by omega
      subst this
      have hb := bef_succ y0
      have go : ∀ x : Nat, x = yearN y' → G_ref33_TimeOf.p2 (kRet h Q) n (.p (some ⟨h.length, 5, 0⟩)) ((day - befN y' : Nat) : Int) y' x h1 := by
        intro x hx
        refine G_ref33_TimeOf.i2 ?_
        simp only [G_ref33_TimeOf.t2, G_ref33_TimeOf.j3]
        refine bif_t (by rw [decide_eq_true_eq]; omega) ?_
        have := p2 (m - 1) 1 (by omega) (by omega)
        rw [mon_1, show monN y' m + d - 0 = day - befN y' by omega] at this
        exact this
      unfold yearN at go
      refine G_ref33_TimeOf.i1 ?_
      simp only [G_ref33_TimeOf.t1, G_ref33_TimeOf.j2]
      refine Rleap_c (st_asB (bif_both (fun e => go 366 ?_) fun e => go 365 ?_))
      · rw [if_pos e]
      · rw [if_neg (by rw [e]; simp)]
    | succ k ih =>
      intro y' hy' h1y
      have hb := bef_succ h1y
      have := bef_mono (a := y' + 1) (b := y) (by omega) (by omega)
      have go : ∀ x : Nat, x = yearN y' → G_ref33_TimeOf.p2 (kRet h Q) n (.p (some ⟨h.length, 5, 0⟩)) ((day - befN y' : Nat) : Int) y' x h1 := by
        intro x hx
        refine G_ref33_TimeOf.i2 ?_
        simp only [G_ref33_TimeOf.t2, G_ref33_TimeOf.j1]
        refine bif_f (by rw [decide_eq_false_iff_not]; omega) ?_
        refine withI_is (n := ((day - befN (y' + 1) : Nat) : Int)) (by rw [wrap_i64 (by omega) (by omega)]; omega) (inc (by omega) (ih (y' + 1) (by omega) (by omega)))
      unfold yearN at go
      refine G_ref33_TimeOf.i1 ?_
      simp only [G_ref33_TimeOf.t1, G_ref33_TimeOf.j2]
      refine Rleap_c (st_asB (bif_both (fun e => go 366 ?_) fun e => go 365 ?_))
      · rw [if_pos e]
      · rw [if_neg (by rw [e]; simp)]
  have := p1 (y - 1970) 1970 (by omega) (by omega)
  rw [bef_0, Nat.sub_zero] at this
  exact this

end
end Go.Proofs.YtffgchcidkapjaaDoor

/- Time. -/
set_option linter.unusedVariables false
set_option linter.unusedSimpArgs false
set_option linter.unusedSectionVars false
set_option maxRecDepth 20000
namespace Go.GAM
/-- x[lo:] of a slice that is read. -/
theorem Rd.dropAt {sz : Nat} {h : AHeap} {v : AV} {cs : List AV} {len : Nat} (R : Rd sz h v cs len) (hz : 0 < sz) {lo : Nat} (h1 : lo ≤ len) {K : AV → Prop} (hk : ∀ v', Rd sz h v' (cs.drop (lo * sz)) (len - lo) → K v') : pSliceSl sz v (some (.i .i64 (lo : Int))) none none h K := by
  rcases R with ⟨rfl, h0, rfl⟩ | ⟨id, ver, off, cap, b, rfl, g2, g3, g4, g5, g6, g7⟩
  · have : lo = 0 := by omega
    subst this
    exact ⟨by simp, rfl, rfl, rfl, fun h => by simp at h, hk _ (.inl ⟨rfl, by omega, by simp⟩)⟩
  · have e1 : lo * sz ≤ len * sz := Nat.mul_le_mul_right _ h1
    have e3 : (len - lo) * sz = len * sz - lo * sz := Nat.sub_mul _ _ _
    refine ⟨hz, fun h => by simp at h, by omega, by simpa using h1, b, g2, by omega, g4, g3, .inl (Nat.le_refl _), ?_⟩
    refine hk _ (.inr ⟨id, ver, off + lo * sz, cap.map (· - lo), b, by simp, g2, g3, g4, g5, by omega, ?_⟩)
    rw [← g7, List.drop_take, List.drop_drop, e3]
theorem Rd.at {sz : Nat} {h : AHeap} {v : AV} {cs : List AV} {len : Nat} (R : Rd sz h v cs len) (hl : len ≠ 0) : ∃ id ver off cap b, v = .sl (some ⟨id, ver, off⟩) len cap ∧ RdAt sz h id ver off b cs len := by
  rcases R with ⟨_, h0, _⟩ | ⟨id, ver, off, cap, b, h1, h2, h3, h4, h5, h6, h7⟩
  · exact absurd h0 hl
  · exact ⟨id, ver, off, cap, b, h1, h2, h3, h4, h5, h6, h7⟩
/-- A number. -/
def num (n : Nat) : AV := .i .i64 (n : Int)
theorem st_num {h : AHeap} {id ver off : Nat} {b : ABlk} {l : List Nat} {len i n : Nat} {K : Int → Prop} (R : RdAt 1 h id ver off b (l.map num) len) (hi : i < len) (hn : l[i]? = some n) (hk : K (n : Int)) : pLoad1 (.p (some ⟨id, ver, off + i * 1⟩)) h fun y => asI .i64 y K :=
  st_elem (o := 0) R hi Nat.one_pos (c := num n) (by rw [Nat.mul_one, Nat.add_zero, List.getElem?_map, hn]; rfl) (st_asI hk)
theorem Rd.nat {h : AHeap} {v : AV} {l : List Nat} {len i n : Nat} {k : IntKind} {K : Int → Prop} (R : Rd 1 h v (l.map num) len) (hi : i < len) (hn : l[i]? = some n) (hk : K (n : Int)) : pIdxAddrSl 1 v (.i k (i : Int)) h fun a => pLoad1 a h fun y => asI .i64 y K :=
  R.cell Nat.one_pos hi (c := num n) (by rw [Nat.mul_one, List.getElem?_map, hn]; rfl) (st_asI hk)
end Go.GAM
namespace Go.Proofs.YtffgchcidkapjaaDoor
open Go.GAM Go.RowKit

def digB (c : UInt8) : Bool := decide (48 ≤ c.toNat) && decide (c.toNat ≤ 57)
def pairsN : List UInt8 → List Nat
  | a :: b :: r => ((a.toNat - 48) * 10 + (b.toNat - 48)) :: pairsN r
  | _ => []
def secN (y mo da h mi s : Nat) : Nat := (befN y + monN y mo + da - 1) * 86400 + h * 3600 + mi * 60 + s
def badT (y mo da h mi s : Nat) : Prop := y < 1970 ∨ mo < 1 ∨ 12 < mo ∨ da < 1 ∨ daysN y mo < da ∨ 23 < h ∨ 59 < mi ∨ 59 < s
instance (y mo da h mi s : Nat) : Decidable (badT y mo da h mi s) := by unfold badT; infer_instance
def finT (y mo da h mi s : Nat) : Int × Bool := if badT y mo da h mi s then (0, false) else ((secN y mo da h mi s : Nat), true)
def finL (p : List Nat) : Int × Bool := match p with
  | [a, b, mo, da, h, mi, s] => finT (100 * a + b) mo da h mi s
  | _ => (0, false)
/-- A text with the whole year. -/
def fullS (d : Der) : Option (List UInt8) :=
  if dPlain 24 d = true then (if d.data.length = 15 then some d.data else none) else
  if dPlain 23 d = true then (if d.data.length = 13 then some ((if 53 ≤ (d.data.getD 0 0).toNat then [49, 57] else [50, 48]) ++ d.data) else none) else none
def timeS (d : Der) : Int × Bool := match fullS d with
  | none => (0, false)
  | some s => if s.getD 14 0 = 90 ∧ (s.take 14).all digB = true then finL (pairsN (s.take 14)) else (0, false)

theorem monN_bd (y m : Nat) : monN y m ≤ 31 * m := by
  induction m with
  | zero => simp [monN]
  | succ k ih =>
    have := daysN_bd y k
    show monN y k + (if k = 0 then 0 else daysN y k) ≤ _
    split <;> omega
theorem bef_bd {y : Nat} (h : 1970 ≤ y) (h2 : y ≤ 89999) : befN y ≤ 40000000 := by
  have := bef_up (a := 1970) (b := y) (by omega) h
  rw [bef_0] at this; omega

section
variable {h0 : AHeap} {Q : AV → AHeap → Prop}

theorem time1_c (c : UInt8) (h : AHeap) (K : AV → AHeap → Prop) (hk : K (.b (digB c)) h) : C G_der_Time_1.id [.i .u8 (c.toNat : Int)] h K := by
  refine G_der_Time_1.call ?_
  simp only [G_der_Time_1.t, G_der_Time_1.j0]
  have p0 : ∀ b, b = digB c → G_der_Time_1.p0 (kRet h K) b h := by
    intro b hb
    refine G_der_Time_1.i0 ?_
    simp only [G_der_Time_1.t0]
    subst hb
    exact .inl hk
  unfold digB at p0
  refine bif_both (fun e => p0 _ ?_) fun e => p0 _ ?_
  · simp only [decide_eq_true_eq] at e
    rw [decide_eq_true (by omega : 48 ≤ c.toNat), Bool.true_and, decide_eq_decide]; omega
  · simp only [decide_eq_false_iff_not] at e
    rw [decide_eq_false (by omega : ¬ 48 ≤ c.toNat)]; rfl

/-! ### the program's -/

def timeR (x : Int × Bool) : AV := .tu [.i .i64 x.1, .b x.2]

theorem time_p5 {h hx : AHeap} {v : AV} {y x mo da hh mi s : Nat} (E : Ext h hx) (R : Rd 1 hx v ([x, mo, da, hh, mi, s].map num) 6) (hy : 1970 ≤ y) (hy2 : y ≤ 89999) (hmo : mo ≤ 12) (hda : 1 ≤ da ∧ da ≤ 31) (h23 : hh ≤ 99) (h59 : mi ≤ 99) (h60 : s ≤ 99)
    (hq : Q (.tu [.i .i64 (secN y mo da hh mi s : Nat), .b true]) h) : ∀ k m', m' + k = mo → 1 ≤ m' → G_der_Time.p5 (kRet h Q) v y ((befN y + monN y m' + da - 1 : Nat) : Int) m' hx := by
  have hb := bef_bd hy hy2
  intro k
  induction k with
  | zero =>
    intro m' hm h1
    have : m' = mo := by omega
    subst this
    have hm := monN_bd y m'
    refine G_der_Time.i5 ?_
    simp only [G_der_Time.t5]
    refine R.nat (i := 1) (by omega) rfl (bif_f (by rw [decide_eq_false_iff_not]; omega) ?_)
    unfold secN at hq
    refine withI_is (n := (((befN y + monN y m' + da - 1) * 86400 : Nat) : Int)) (by rw [wrap_i64 (by omega) (by omega)]; omega) (R.nat (i := 3) (by omega) rfl ?_)
    refine withI_is (n := ((hh * 3600 : Nat) : Int)) (by rw [wrap_i64 (by omega) (by omega)]; omega) ?_
    refine withI_is (n := (((befN y + monN y m' + da - 1) * 86400 + hh * 3600 : Nat) : Int)) (by rw [wrap_i64 (by omega) (by omega)]; omega) (R.nat (i := 4) (by omega) rfl ?_)
    refine withI_is (n := ((mi * 60 : Nat) : Int)) (by rw [wrap_i64 (by omega) (by omega)]; omega) ?_
    refine withI_is (n := (((befN y + monN y m' + da - 1) * 86400 + hh * 3600 + mi * 60 : Nat) : Int)) (by rw [wrap_i64 (by omega) (by omega)]; omega) (R.nat (i := 5) (by omega) rfl ?_)
    refine withI_is (n := (((befN y + monN y m' + da - 1) * 86400 + hh * 3600 + mi * 60 + s : Nat) : Int)) (by rw [wrap_i64 (by omega) (by omega)]; omega) (kRet_pure rfl E hq)
  | succ k ih =>
    intro m' hm h1
    have hms := mon_succ (y := y) h1
    have hmb := monN_bd y m'
    have hdb := daysN_bd y m'
    refine G_der_Time.i5 ?_
    simp only [G_der_Time.t5, G_der_Time.j5]
    refine R.nat (i := 1) (by omega) rfl (bif_t (by rw [decide_eq_true_eq]; omega) (days_c (st_asI ?_)))
    refine withI_is (n := ((befN y + monN y (m' + 1) + da - 1 : Nat) : Int)) (by rw [wrap_i64 (by omega) (by omega)]; omega) (inc (by omega) ?_)
    exact ih (m' + 1) (by omega) (by omega)

theorem time_p3 {h hx : AHeap} {v : AV} {y x mo da hh mi s : Nat} (E : Ext h hx) (R : Rd 1 hx v ([x, mo, da, hh, mi, s].map num) 6) (hy2 : y ≤ 89999) (hmo2 : mo ≤ 99) (hda2 : da ≤ 99) (h23 : hh ≤ 99) (h59 : mi ≤ 99) (h60 : s ≤ 99)
    (hq : Q (timeR (finT y mo da hh mi s)) h) : G_der_Time.p3 (kRet h Q) v y hx := by
  obtain ⟨id, ver, off, cap, b, rfl, A⟩ := R.at (by omega)
  have R := A.rd cap
  unfold finT timeR at hq
  have p4 : ∀ b : Bool, (b = true ↔ badT y mo da hh mi s) → G_der_Time.p4 (kRet h Q) (.sl (some ⟨id, ver, off⟩) 6 cap) y b hx := by
    intro b hb
    refine G_der_Time.i4 ?_
    simp only [G_der_Time.t4, G_der_Time.j5]
    refine bif_both (fun e => ?_) fun e => ?_
    · rw [if_pos (hb.1 e)] at hq
      exact kRet_pure rfl E hq
    · have hg : ¬ badT y mo da hh mi s := fun hh => by have := hb.2 hh; rw [e] at this; cases this
      rw [if_neg hg] at hq
      unfold badT at hg
      have hdd := daysN_bd y mo
      have hbb := bef_bd (y := y) (by omega) hy2
      refine st_idx A (i := 2) (by omega) (st_num A (by omega) rfl (before_c (by omega) (by omega) (st_asI (st_num A (by omega) rfl ⟨rfl, st_idx A (i := 2) (by omega) ⟨rfl, ?_⟩⟩))))
      refine withI_is (n := ((befN y + da : Nat) : Int)) (by rw [wrap_i64 (by omega) (by omega)]; omega) ?_
      refine withI_is (n := ((befN y + monN y 1 + da - 1 : Nat) : Int)) (by rw [mon_1, wrap_i64 (by omega) (by omega)]; omega) ?_
      exact time_p5 E R (by omega) hy2 (by omega) (by omega) h23 h59 h60 hq (mo - 1) 1 (by omega) (by omega)
  have hdd := daysN_bd y mo
  unfold badT at p4
  refine G_der_Time.i3 ?_
  simp only [G_der_Time.t3, G_der_Time.j4]
  refine bif_both (fun e1 => p4 _ ?_) fun e1 => st_idx A (i := 1) (by omega) (st_num A (by omega) rfl ?_)
  · simp only [decide_eq_true_eq] at e1; simp; omega
  refine bif_both (fun e2 => p4 _ ?_) fun e2 => st_idx A (i := 1) (by omega) (st_num A (by omega) rfl ?_)
  · simp only [decide_eq_true_eq] at e2; simp; omega
  refine bif_both (fun e3 => p4 _ ?_) fun e3 => st_idx A (i := 2) (by omega) (st_num A (by omega) rfl ?_)
  · simp only [decide_eq_true_eq] at e3; simp; omega
  refine bif_both (fun e4 => p4 _ ?_) fun e4 => st_idx A (i := 2) (by omega) (st_num A (by omega) rfl (st_idx A (i := 1) (by omega) (st_num A (by omega) rfl (days_c (st_asI ?_)))))
  · simp only [decide_eq_true_eq] at e4; simp; omega
  simp only [decide_eq_false_iff_not] at e1 e2 e3 e4
  refine st_idx A (i := 1) (by omega) ⟨rfl, st_num A (by omega) rfl ⟨rfl, st_idx A (i := 2) (by omega) ⟨rfl, st_num A (by omega) rfl ⟨rfl, st_idx A (i := 2) (by omega) ⟨rfl, st_num A (by omega) rfl ⟨rfl, st_idx A (i := 1) (by omega) ⟨rfl, st_num A (by omega) rfl ⟨rfl, st_idx A (i := 1) (by omega) ⟨rfl, ?_⟩⟩⟩⟩⟩⟩⟩⟩⟩
  refine bif_both (fun e5 => p4 _ ?_) fun e5 => R.nat (i := 3) (by omega) rfl ?_
  · simp only [decide_eq_true_eq] at e5; simp; omega
  refine bif_both (fun e6 => p4 _ ?_) fun e6 => R.nat (i := 4) (by omega) rfl ?_
  · simp only [decide_eq_true_eq] at e6; simp; omega
  refine bif_both (fun e7 => p4 _ ?_) fun e7 => R.nat (i := 5) (by omega) rfl (p4 _ ?_)
  · simp only [decide_eq_true_eq] at e7; simp; omega
  simp only [decide_eq_false_iff_not] at e5 e6 e7
  rw [decide_eq_true_eq]; omega

theorem digB_bd {c : UInt8} (h : digB c = true) : 48 ≤ c.toNat ∧ c.toNat ≤ 57 := by
  unfold digB at h; simpa using h
theorem pairsN_bd : ∀ (l : List UInt8), l.all digB = true → ∀ n ∈ pairsN l, n ≤ 99
  | [], _, n, hn => by simp [pairsN] at hn
  | [a], _, n, hn => by simp [pairsN] at hn
  | a :: b :: r, h, n, hn => by
    simp only [List.all_cons, Bool.and_eq_true] at h
    have := digB_bd h.1
    have := digB_bd h.2.1
    simp only [pairsN, List.mem_cons] at hn
    rcases hn with rfl | hn
    · omega
    · exact pairsN_bd r h.2.2 n hn

theorem pairsN_len : ∀ l : List UInt8, (pairsN l).length = l.length / 2
  | [] => by simp [pairsN]
  | [a] => by simp [pairsN]
  | a :: b :: r => by
    have := pairsN_len r
    simp only [pairsN, List.length_cons, this]; omega
theorem list7 {α : Type} {l : List α} (h : l.length = 7) : ∃ a b c d e f g, l = [a, b, c, d, e, f, g] := by
  match l, h with
  | [a, b, c, d, e, f, g], _ => exact ⟨a, b, c, d, e, f, g, rfl⟩
theorem list6 {α : Type} {l : List α} (h : l.length = 6) : ∃ a b c d e f, l = [a, b, c, d, e, f] := by
  match l, h with
  | [a, b, c, d, e, f], _ => exact ⟨a, b, c, d, e, f, rfl⟩

/-- The digits, two by two. -/
theorem time_p2 {h hx0 : AHeap} {sz : Nat} : ∀ (k : Nat) (ds : List UInt8) (done : List Nat) (v : AV) (hx : AHeap), ds.length = 2 * k → k ≤ 100 → done.length + k ≤ 100 → ds.all digB = true → NewS hx0 hx v (done.map num) →
    (∀ v hx, NewS hx0 hx v ((done ++ pairsN ds).map num) → G_der_Time.p2 (kRet h Q) sz [] v hx) → G_der_Time.p2 (kRet h Q) sz ds v hx := by
  intro k
  induction k with
  | zero =>
    intro ds done v hx hl _ _ _ S fin
    have : ds = [] := List.eq_nil_of_length_eq_zero (by omega)
    subst this
    exact fin v hx (by simpa [pairsN] using S)
  | succ k ih =>
    intro ds done v hx hl hk hd hall S fin
    match ds, hl with
    | [], hl => simp at hl
    | [a], hl => simp at hl; omega
    | a :: b :: r, hl =>
      simp only [List.all_cons, Bool.and_eq_true] at hall
      have ha := digB_bd hall.1
      have hb := digB_bd hall.2.1
      refine G_der_Time.i2 ?_
      simp only [G_der_Time.t2, G_der_Time.j2]
      refine bif_t (by simp) (st_at (i := 0) rfl ?_)
      refine withI_is (n := ((a.toNat - 48 : Nat) : Int)) (by rw [wrap_u8 (by omega) (by omega)]; omega) ?_
      refine withI_is (n := (((a.toNat - 48) * 10 : Nat) : Int)) (by rw [wrap_i64 (n := ((a.toNat - 48 : Nat) : Int)) (by omega) (by omega), wrap_i64 (by omega) (by omega)]; omega) (st_at (i := 1) rfl ?_)
      refine withI_is (n := ((b.toNat - 48 : Nat) : Int)) (by rw [wrap_u8 (by omega) (by omega)]; omega) ?_
      refine withI_is (n := (((a.toNat - 48) * 10 + (b.toNat - 48) : Nat) : Int)) (by rw [wrap_i64 (n := ((b.toNat - 48 : Nat) : Int)) (by omega) (by omega), wrap_i64 (by omega) (by omega)]; omega) ?_
      refine S.push rfl rfl (by simp; omega) (by simp; omega) fun v' h' S' _ _ => st_subs (lo := 2) (by simp) ?_
      refine ih r (done ++ [(a.toNat - 48) * 10 + (b.toNat - 48)]) v' h' (by simp at hl; omega) (by omega) (by simp; omega) hall.2.2 (by rw [List.map_append]; exact S') fun v2 h2 S2 => fin v2 h2 ?_
      simpa [pairsN] using S2

theorem getD_last {l : List UInt8} {n : Nat} (h : l.length = n + 1) : ∃ c, l[n]? = some c ∧ l.getD n 0 = c := by
  obtain ⟨c, hc⟩ : ∃ c, l[n]? = some c := ⟨_, List.getElem?_eq_getElem (by omega)⟩
  exact ⟨c, hc, getD_some hc⟩

theorem time_c {d : Der} {cs : List AV} {F : Nat → Prop} {h : AHeap} (D : DV h F d cs) (hs : d.data.length ≤ 100000) (hq : Q (timeR (timeS d)) h) : C G_der_Time.id [.ag cs] h Q := by
  refine G_der_Time.call ?_
  simp only [G_der_Time.t, G_der_Time.j0]
  refine D.box fun h1 hl1 U1 B D1 => st_loadN B D.len.symm (plain_c D1 (st_asB ?_))
  -- a size: what follows
  have p1bad : ∀ sz : Nat, timeS d = (0, false) → G_der_Time.p1 (kRet h Q) (.p (some ⟨h.length, 5, 0⟩)) sz true h1 := by
    intro sz he
    rw [he] at hq
    refine G_der_Time.i1 ?_
    simp only [G_der_Time.t1]
    exact bif_t rfl (kRet_pure rfl U1.ext hq)
  have p1 : ∀ n : Nat, (n = 12 ∨ n = 14) → d.data.length = n + 1 →
      (timeS d = if (d.data.take n).all digB = true then (if n = 14 then finL (pairsN (d.data.take 14)) else finL ((if 50 ≤ (pairsN (d.data.take 12)).getD 0 0 then 19 else 20) :: pairsN (d.data.take 12))) else (0, false)) →
      G_der_Time.p1 (kRet h Q) (.p (some ⟨h.length, 5, 0⟩)) ((n + 1 : Nat) : Int) false h1 := by
    intro n hn hl he
    rw [he] at hq
    refine G_der_Time.i1 ?_
    simp only [G_der_Time.t1, G_der_Time.j2]
    refine bif_f rfl (st_fld (st_load B D.len.symm D.dat (st_asS ?_)))
    refine withI_is (n := (n : Int)) (by rw [wrap_i64 (by omega) (by omega)]; omega) (st_subs1 (by omega) (Tx.ofStr fun v h2 T => ?_))
    have E2 := (U1.trans T.upd fun _ _ h => h)
    refine all_byte_c (p := digB) rfl time1_c T.byt (by simp; omega) (st_asB ?_)
    cases ha : (d.data.take n).all digB with
    | false =>
      rw [ha, if_neg (by simp)] at hq
      exact bif_t rfl (kRet_pure rfl E2.ext hq)
    | true =>
      rw [ha, if_pos rfl] at hq
      refine bif_f rfl ?_
      have hbd := pairsN_bd _ ha
      have hpl := pairsN_len (d.data.take n)
      rw [List.length_take, Nat.min_eq_left (by omega)] at hpl
      refine time_p2 (sz := n + 1) (n / 2) (d.data.take n) [] _ h2 (by rw [List.length_take]; omega) (by omega) (by simp; omega) ha (NewS.start h2) fun v hx S => ?_
      rw [List.nil_append] at S
      have E : Ext h hx := (E2.trans S.upd fun _ _ h => h).ext
      have R := S.stk.rd
      rw [List.length_map] at R
      refine G_der_Time.i2 ?_
      simp only [G_der_Time.t2, G_der_Time.j3]
      refine bif_f (by simp) ?_
      rcases hn with rfl | rfl
      · rw [if_neg (by omega)] at hq
        obtain ⟨b, mo, da, hh, mi, s, hp⟩ := list6 hpl
        rw [hp] at hq R hbd
        have bb := hbd b (by simp)
        refine R.nat (i := 0) (by simp) rfl ?_
        refine withI_is (n := ((b + 2000 : Nat) : Int)) (by rw [wrap_i64 (by omega) (by omega)]; omega) (bif_f (by simp) (R.nat (i := 0) (by simp) rfl ?_))
        have hq : Q (timeR (finT ((if 50 ≤ b then 1900 else 2000) + b) mo da hh mi s)) h := by
          have e : finL ((if 50 ≤ b then 19 else 20) :: [b, mo, da, hh, mi, s]) = finT ((if 50 ≤ b then 1900 else 2000) + b) mo da hh mi s := by
            unfold finL
            simp only
            congr 1
            split <;> omega
          rw [← e]; exact hq
        refine bif_both (fun e => R.nat (i := 0) (by simp) rfl ?_) fun e => ?_
        · rw [if_pos (by simp only [decide_eq_true_eq] at e; omega)] at hq
          refine withI_is (n := ((1900 + b : Nat) : Int)) (by rw [wrap_i64 (by omega) (by omega)]; omega) ?_
          exact time_p3 E R (by omega) (hbd _ (by simp)) (hbd _ (by simp)) (hbd _ (by simp)) (hbd _ (by simp)) (hbd _ (by simp)) hq
        · rw [if_neg (by simp only [decide_eq_false_iff_not] at e; omega)] at hq
          rw [Nat.add_comm]
          exact time_p3 E R (by omega) (hbd _ (by simp)) (hbd _ (by simp)) (hbd _ (by simp)) (hbd _ (by simp)) (hbd _ (by simp)) hq
      · rw [if_pos rfl] at hq
        obtain ⟨a, b, mo, da, hh, mi, s, hp⟩ := list7 hpl
        rw [hp] at hq R hbd
        have ba := hbd a (by simp)
        have bb := hbd b (by simp)
        refine R.nat (i := 0) (by simp) rfl ?_
        refine withI_is (n := ((a + 2000 : Nat) : Int)) (by rw [wrap_i64 (by omega) (by omega)]; omega) (bif_t (by simp) (R.nat (i := 0) (by simp) rfl ?_))
        refine withI_is (n := ((100 * a : Nat) : Int)) (by rw [wrap_i64 (by omega) (by omega)]; omega) (R.nat (i := 1) (by simp) rfl ?_)
        refine withI_is (n := ((100 * a + b : Nat) : Int)) (by rw [wrap_i64 (by omega) (by omega)]; omega) (R.dropAt Nat.one_pos (lo := 1) (by simp) fun v' R' => ?_)
        exact time_p3 E R' (by omega) (hbd _ (by simp)) (hbd _ (by simp)) (hbd _ (by simp)) (hbd _ (by simp)) (hbd _ (by simp)) hq
  have p0 : ∀ n : Nat, (n = 12 ∨ n = 14) → (d.data.length ≠ n + 1 → timeS d = (0, false)) →
      (d.data.length = n + 1 → timeS d = if d.data.getD n 0 = 90 ∧ (d.data.take n).all digB = true then (if n = 14 then finL (pairsN (d.data.take 14)) else finL ((if 50 ≤ (pairsN (d.data.take 12)).getD 0 0 then 19 else 20) :: pairsN (d.data.take 12))) else (0, false)) →
      G_der_Time.p0 (kRet h Q) (.p (some ⟨h.length, 5, 0⟩)) ((n + 1 : Nat) : Int) h1 := by
    intro n hn he1 he2
    refine G_der_Time.i0 ?_
    simp only [G_der_Time.t0, G_der_Time.j1]
    refine st_fld (st_load B D.len.symm D.dat (st_asS ?_))
    by_cases hl : d.data.length = n + 1
    · refine bif_f (by rw [hl]; simp) (st_fld (st_load B D.len.symm D.dat (st_asS ?_)))
      refine withI_is (n := (n : Int)) (by rw [wrap_i64 (by omega) (by omega)]; omega) ?_
      obtain ⟨c, hc1, hc2⟩ := getD_last hl
      have he2 := he2 hl
      rw [hc2] at he2
      refine idxStr hc1 ?_
      rw [show (90 : Int) = (((90 : UInt8).toNat : Nat) : Int) from rfl, eq_byte]
      by_cases h90 : c = 90
      · rw [decide_eq_true h90]
        refine p1 n hn hl ?_
        rw [he2]
        simp [h90]
      · rw [decide_eq_false h90]
        refine p1bad _ ?_
        rw [he2, if_neg (fun hh => h90 hh.1)]
    · refine bif_t (by simp; omega) (p1bad _ (he1 hl))
  refine bif_both (fun e => p0 14 (.inr rfl) (fun hl => ?_) fun hl => ?_) fun e => st_loadN B D.len.symm (plain_c D1 (st_asB ?_))
  · unfold timeS fullS
    rw [if_pos e, if_neg hl]
  · unfold timeS fullS
    rw [if_pos e, if_pos hl]
    simp only [if_true]
  · refine bif_both (fun e2 => ?_) fun e2 => p0 12 (.inl rfl) (fun hl => ?_) fun hl => ?_
    · have : timeS d = (0, false) := by
        unfold timeS fullS
        rw [if_neg (by rw [e]; simp), if_neg (by have := e2; simp at this; rw [this]; simp)]
      rw [this] at hq
      exact kRet_pure rfl U1.ext hq
    · unfold timeS fullS
      rw [if_neg (by rw [e]; simp), if_pos (by simpa using e2), if_neg hl]
    · have hp : dPlain 23 d = true := by simpa using e2
      obtain ⟨c0, r, hd⟩ : ∃ c0 r, d.data = c0 :: r := by
        cases hd : d.data with
        | nil => rw [hd] at hl; cases hl
        | cons a r => exact ⟨a, r, rfl⟩
      obtain ⟨c1, r', hr⟩ : ∃ c1 r', r = c1 :: r' := by
        cases r with
        | nil => rw [hd] at hl; cases hl
        | cons a r => exact ⟨a, r, rfl⟩
      unfold timeS fullS
      rw [if_neg (by rw [e]; simp), if_pos hp, if_pos hl]
      simp only
      have h0 : d.data.getD 0 0 = c0 := by rw [hd]; rfl
      have t12 : d.data.take 12 = c0 :: c1 :: r'.take 10 := by rw [hd, hr]; rfl
      rw [h0]
      have key : ∀ x y : UInt8, digB x = true → digB y = true → (([x, y] ++ d.data).getD 14 0 = d.data.getD 12 0) ∧ (([x, y] ++ d.data).take 14).all digB = (d.data.take 12).all digB ∧ pairsN (([x, y] ++ d.data).take 14) = ((x.toNat - 48) * 10 + (y.toNat - 48)) :: pairsN (d.data.take 12) := by
        intro x y hx hy
        exact ⟨rfl, by simp [hx, hy], rfl⟩
      by_cases h53 : 53 ≤ c0.toNat
      · rw [if_pos h53]
        obtain ⟨k1, k2, k3⟩ := key 49 57 (by decide) (by decide)
        rw [k1, k2, k3]
        by_cases hc : d.data.getD 12 0 = 90 ∧ (d.data.take 12).all digB = true
        · rw [if_pos hc, if_pos hc]
          simp only [if_neg (show ¬ (12 = 14) by omega)]
          have hg : (pairsN (d.data.take 12)).getD 0 0 = (c0.toNat - 48) * 10 + (c1.toNat - 48) := by rw [t12]; rfl
          rw [hg, if_pos (by omega)]; rfl
        · rw [if_neg hc, if_neg hc]
      · rw [if_neg h53]
        obtain ⟨k1, k2, k3⟩ := key 50 48 (by decide) (by decide)
        rw [k1, k2, k3]
        by_cases hc : d.data.getD 12 0 = 90 ∧ (d.data.take 12).all digB = true
        · rw [if_pos hc, if_pos hc]
          simp only [if_neg (show ¬ (12 = 14) by omega)]
          have hg : (pairsN (d.data.take 12)).getD 0 0 = (c0.toNat - 48) * 10 + (c1.toNat - 48) := by rw [t12]; rfl
          have hall := hc.2
          rw [t12] at hall
          simp only [List.all_cons, Bool.and_eq_true] at hall
          have := digB_bd hall.1
          have := digB_bd hall.2.1
          rw [hg, if_neg (by omega)]; rfl
        · rw [if_neg hc, if_neg hc]

end
end Go.Proofs.YtffgchcidkapjaaDoor

/- Time, the reference's. -/
set_option linter.unusedVariables false
set_option linter.unusedSimpArgs false
set_option linter.unusedSectionVars false
set_option maxRecDepth 20000
namespace Go.GAM
theorem NewA.store {h0 h : AHeap} {v x : AV} {cs : List AV} {len : Nat} (A : NewA 1 h0 h v cs len) {k : IntKind} {i : Nat} (hi : i < len) (hx : x.parts = [x]) (hs : x.sizeOK = true) (hc : x.cellOK = true) {K : AHeap → Prop} (hk : ∀ h', NewA 1 h0 h' v (cs.set i x) len → K h') :
    pIdxAddrSl 1 v (.i k (i : Int)) h fun p => pStore 1 p x h K :=
  A.arr.store hi hx hs hc fun h' U A' => hk h' ⟨A.upd.trans U fun j hj hs => absurd (A.new j hs) (by omega), A', A.new⟩
end Go.GAM
namespace Go.Proofs.YtffgchcidkapjaaDoor
open Go.GAM Go.RowKit

section
variable {h0 : AHeap} {Q : AV → AHeap → Prop}

theorem seconds_c {y mo da hh mi s : Nat} {h : AHeap} (hy : 1970 ≤ y) (hy2 : y ≤ 89999) (hmo : 1 ≤ mo ∧ mo ≤ 12) (hda : 1 ≤ da ∧ da ≤ 99) (h23 : hh ≤ 99) (h59 : mi ≤ 99) (h60 : s ≤ 99) (hq : Q (.i .i64 (secN y mo da hh mi s : Nat)) h) :
    C G_ref33_Seconds.id [.i .i64 (y : Int), .i .i64 (mo : Int), .i .i64 (da : Int), .i .i64 (hh : Int), .i .i64 (mi : Int), .i .i64 (s : Int)] h Q := by
  have hb := bef_bd hy hy2
  refine G_ref33_Seconds.call ?_
  simp only [G_ref33_Seconds.t, G_ref33_Seconds.j0]
  have p2 : ∀ k m', m' + k = mo → 1 ≤ m' → G_ref33_Seconds.p2 (kRet h Q) y mo da hh mi s ((befN y + monN y m' : Nat) : Int) m' h := by
    intro k
    induction k with
    | zero =>
      intro m' hm _
      have : m' = mo := by omega
      subst this
      have hmb := monN_bd y m'
      unfold secN at hq
      refine G_ref33_Seconds.i2 ?_
      simp only [G_ref33_Seconds.t2]
      refine bif_f (by rw [decide_eq_false_iff_not]; omega) ?_
      refine withI_is (n := ((befN y + monN y m' + da : Nat) : Int)) (by rw [wrap_i64 (by omega) (by omega)]; omega) ?_
      refine withI_is (n := ((befN y + monN y m' + da - 1 : Nat) : Int)) (by rw [wrap_i64 (by omega) (by omega)]; omega) ?_
      refine withI_is (n := (((befN y + monN y m' + da - 1) * 86400 : Nat) : Int)) (by rw [wrap_i64 (by omega) (by omega)]; omega) ?_
      refine withI_is (n := ((hh * 3600 : Nat) : Int)) (by rw [wrap_i64 (by omega) (by omega)]; omega) ?_
      refine withI_is (n := (((befN y + monN y m' + da - 1) * 86400 + hh * 3600 : Nat) : Int)) (by rw [wrap_i64 (by omega) (by omega)]; omega) ?_
      refine withI_is (n := ((mi * 60 : Nat) : Int)) (by rw [wrap_i64 (by omega) (by omega)]; omega) ?_
      refine withI_is (n := (((befN y + monN y m' + da - 1) * 86400 + hh * 3600 + mi * 60 : Nat) : Int)) (by rw [wrap_i64 (by omega) (by omega)]; omega) ?_
      refine withI_is (n := (((befN y + monN y m' + da - 1) * 86400 + hh * 3600 + mi * 60 + s : Nat) : Int)) (by rw [wrap_i64 (by omega) (by omega)]; omega) (.inl hq)
    | succ k ih =>
      intro m' hm h1
      have hms := mon_succ (y := y) h1
      have hmb := monN_bd y m'
      have hdb := daysN_bd y m'
      refine G_ref33_Seconds.i2 ?_
      simp only [G_ref33_Seconds.t2, G_ref33_Seconds.j2]
      refine bif_t (by rw [decide_eq_true_eq]; omega) (Rdays_c (st_asI ?_))
      refine withI_is (n := ((befN y + monN y (m' + 1) : Nat) : Int)) (by rw [wrap_i64 (by omega) (by omega)]; omega) (inc (by omega) ?_)
      exact ih (m' + 1) (by omega) (by omega)
  have p0 : ∀ k y', y' + k = y → 1970 ≤ y' → G_ref33_Seconds.p0 (kRet h Q) y mo da hh mi s ((befN y' : Nat) : Int) y' h := by
    intro k
    induction k with
    | zero =>
      intro y' hy' _
      have : y' = y := by omega
      subst this
      refine G_ref33_Seconds.i0 ?_
      simp only [G_ref33_Seconds.t0, G_ref33_Seconds.j2]
      refine bif_f (by rw [decide_eq_false_iff_not]; omega) ?_
      have := p2 (mo - 1) 1 (by omega) (by omega)
      rw [mon_1, Nat.add_zero] at this
      exact this
    | succ k ih =>
      intro y' hy' h1
      have hbs := bef_succ h1
      have hbb := bef_bd (y := y') h1 (by omega)
      have p1 : ∀ x : Nat, x = befN (y' + 1) → G_ref33_Seconds.p1 (kRet h Q) y mo da hh mi s x y' h := by
        intro x hx
        subst hx
        refine G_ref33_Seconds.i1 ?_
        simp only [G_ref33_Seconds.t1, G_ref33_Seconds.j0]
        exact inc (by omega) (ih (y' + 1) (by omega) (by omega))
      unfold yearN at hbs
      refine G_ref33_Seconds.i0 ?_
      simp only [G_ref33_Seconds.t0, G_ref33_Seconds.j1]
      refine bif_t (by rw [decide_eq_true_eq]; omega) (withI_is (n := ((befN y' + 365 : Nat) : Int)) (by rw [wrap_i64 (by omega) (by omega)]; omega) (Rleap_c (st_asB (bif_both (fun e => ?_) fun e => ?_))))
      · rw [if_pos e] at hbs
        exact inc (by omega) (p1 _ (by omega))
      · rw [if_neg (by rw [e]; simp)] at hbs
        exact p1 _ (by omega)
  have := p0 (y - 1970) 1970 (by omega) (by omega)
  rw [bef_0] at this
  exact this

theorem Rtime_p3end {h hx : AHeap} {v : AV} {s : List UInt8} {y mo da hh mi se : Nat} (E : Ext h hx) (R : Rd 1 hx v ([mo, da, hh, mi, se].map num) 5) (hy2 : y ≤ 89999) (hmo2 : mo ≤ 99) (hda2 : da ≤ 99) (h23 : hh ≤ 99) (h59 : mi ≤ 99) (h60 : se ≤ 99)
    (hq : Q (timeR (finT y mo da hh mi se)) h) : G_ref33_Time.p3 (kRet h Q) s v y (14 : Nat) hx := by
  obtain ⟨id, ver, off, cap, b, rfl, A⟩ := R.at (by omega)
  have R := A.rd cap
  unfold finT timeR at hq
  have p6 : ∀ b : Bool, (b = true ↔ badT y mo da hh mi se) → G_ref33_Time.p6 (kRet h Q) (.sl (some ⟨id, ver, off⟩) 5 cap) y b hx := by
    intro b hb
    refine G_ref33_Time.i6 ?_
    simp only [G_ref33_Time.t6]
    refine bif_both (fun e => ?_) fun e => ?_
    · rw [if_pos (hb.1 e)] at hq
      exact kRet_pure rfl E hq
    · have hg : ¬ badT y mo da hh mi se := fun hh => by have := hb.2 hh; rw [e] at this; cases this
      rw [if_neg hg] at hq
      unfold badT at hg
      refine st_idx A (i := 0) (by omega) (st_num A (by omega) rfl (st_idx A (i := 1) (by omega) (st_num A (by omega) rfl (st_idx A (i := 2) (by omega) (st_num A (by omega) rfl (st_idx A (i := 3) (by omega) (st_num A (by omega) rfl (st_idx A (i := 4) (by omega) (st_num A (by omega) rfl ?_)))))))))
      refine seconds_c (by omega) (by omega) (by omega) (by omega) (by omega) (by omega) (by omega) (st_asI ?_)
      refine st_idx A (i := 4) (by omega) ⟨rfl, st_idx A (i := 3) (by omega) ⟨rfl, st_idx A (i := 2) (by omega) ⟨rfl, st_idx A (i := 1) (by omega) ⟨rfl, st_idx A (i := 0) (by omega) ⟨rfl, kRet_pure rfl E hq⟩⟩⟩⟩⟩
  have hdd := daysN_bd y mo
  unfold badT at p6
  refine G_ref33_Time.i3 ?_
  simp only [G_ref33_Time.t3, G_ref33_Time.j6]
  refine bif_f (by simp) ?_
  refine bif_both (fun e1 => p6 _ ?_) fun e1 => st_idx A (i := 0) (by omega) (st_num A (by omega) rfl ?_)
  · simp only [decide_eq_true_eq] at e1; simp; omega
  refine bif_both (fun e2 => p6 _ ?_) fun e2 => st_idx A (i := 0) (by omega) (st_num A (by omega) rfl ?_)
  · simp only [decide_eq_true_eq] at e2; simp; omega
  refine bif_both (fun e3 => p6 _ ?_) fun e3 => st_idx A (i := 1) (by omega) (st_num A (by omega) rfl ?_)
  · simp only [decide_eq_true_eq] at e3; simp; omega
  refine bif_both (fun e4 => p6 _ ?_) fun e4 => st_idx A (i := 1) (by omega) (st_num A (by omega) rfl (st_idx A (i := 0) (by omega) (st_num A (by omega) rfl (Rdays_c (st_asI ?_)))))
  · simp only [decide_eq_true_eq] at e4; simp; omega
  simp only [decide_eq_false_iff_not] at e1 e2 e3 e4
  refine st_idx A (i := 0) (by omega) ⟨rfl, st_num A (by omega) rfl ⟨rfl, st_idx A (i := 1) (by omega) ⟨rfl, st_num A (by omega) rfl ⟨rfl, st_idx A (i := 1) (by omega) ⟨rfl, st_num A (by omega) rfl ⟨rfl, st_idx A (i := 0) (by omega) ⟨rfl, st_num A (by omega) rfl ⟨rfl, st_idx A (i := 0) (by omega) ⟨rfl, ?_⟩⟩⟩⟩⟩⟩⟩⟩⟩
  refine bif_both (fun e5 => p6 _ ?_) fun e5 => R.nat (i := 2) (by omega) rfl ?_
  · simp only [decide_eq_true_eq] at e5; simp; omega
  refine bif_both (fun e6 => p6 _ ?_) fun e6 => R.nat (i := 3) (by omega) rfl ?_
  · simp only [decide_eq_true_eq] at e6; simp; omega
  refine bif_both (fun e7 => p6 _ ?_) fun e7 => R.nat (i := 4) (by omega) rfl (p6 _ ?_)
  · simp only [decide_eq_true_eq] at e7; simp; omega
  simp only [decide_eq_false_iff_not] at e5 e6 e7
  rw [decide_eq_true_eq]; omega

/-- The reference's loop over the digits. -/
def refT : Nat → Nat → List Nat → List UInt8 → Nat × List Nat
  | _, y, f, [] => (y, f)
  | i, y, f, c :: r => if i < 4 then refT (i + 1) (10 * y + (c.toNat - 48)) f r else if i % 2 = 0 then refT (i + 1) y (f ++ [10 * (c.toNat - 48)]) r else refT (i + 1) y (f.set (f.length - 1) (f.getD (f.length - 1) 0 + (c.toNat - 48))) r

theorem Rtime_p3 {h hx0 : AHeap} {s : List UInt8} (E0 : Upd (fun _ => False) h hx0) (hbad : (s.take 14).all digB = false → Q (.tu [.i .i64 0, .b false]) h) (hl : s.length = 15) :
    ∀ (r : List UInt8) (i y : Nat) (f : List Nat) (v : AV) (hx : AHeap), (s.take 14).drop i = r → i ≤ 14 → (i ≤ 4 → y < 10 ^ i) → (4 ≤ i → y < 10000) → (i ≤ 4 → f = []) → f.length ≤ i → (4 < i → i % 2 = 1 → f ≠ []) → (∀ n ∈ f, n ≤ 99) → (i % 2 = 1 → 4 < i → f.getD (f.length - 1) 0 ≤ 90) → NewA 1 hx0 hx v (f.map num) f.length → ((s.take 14).all digB = r.all digB) →
      ((s.take 14).all digB = true → ∀ v hx, NewA 1 hx0 hx v ((refT i y f r).2.map num) (refT i y f r).2.length → G_ref33_Time.p3 (kRet h Q) s v (refT i y f r).1 (14 : Nat) hx) → G_ref33_Time.p3 (kRet h Q) s v y i hx := by
  intro r
  induction r with
  | nil =>
    intro i y f v hx hr hi _ _ _ _ _ _ _ A he fin
    have hle := drop_end hr
    rw [List.length_take] at hle
    have : i = 14 := by omega
    subst this
    exact fin (by rw [he]; rfl) v hx A
  | cons c r ih =>
    intro i y f v hx hr hi hy1 hy2 hf0 hfl hfne hfb hfo A he fin
    obtain ⟨g1, g2, g3⟩ := sub_at hr
    have hc := c.toNat_lt
    have hdr := drop_of_at g1
    have E : Ext h hx := (E0.trans A.upd fun _ _ h => h).ext
    refine G_ref33_Time.i3 ?_
    simp only [G_ref33_Time.t3, G_ref33_Time.j4]
    refine bif_t (by simp; omega) (st_at hdr ?_)
    have p4bad : digB c = false → G_ref33_Time.p4 (kRet h Q) s v y i true hx := by
      intro hd
      refine G_ref33_Time.i4 ?_
      simp only [G_ref33_Time.t4]
      exact bif_t rfl (kRet_pure rfl E (hbad (by rw [he, List.all_cons, hd]; rfl)))
    have p4ok : digB c = true → G_ref33_Time.p4 (kRet h Q) s v y i false hx := by
      intro hd
      have hdb := digB_bd hd
      have he' : (s.take 14).all digB = r.all digB := by rw [he, List.all_cons, hd, Bool.true_and]
      have p5 : ∀ (y' : Nat) (f' : List Nat) (v' : AV) (h' : AHeap), refT i y f (c :: r) = refT (i + 1) y' f' r → (i + 1 ≤ 4 → y' < 10 ^ (i + 1)) → (4 ≤ i + 1 → y' < 10000) → (i + 1 ≤ 4 → f' = []) → f'.length ≤ i + 1 → (4 < i + 1 → (i + 1) % 2 = 1 → f' ≠ []) → (∀ n ∈ f', n ≤ 99) → ((i + 1) % 2 = 1 → 4 < i + 1 → f'.getD (f'.length - 1) 0 ≤ 90) → NewA 1 hx0 h' v' (f'.map num) f'.length → G_ref33_Time.p5 (kRet h Q) s v' y' i h' := by
        intro y' f' v' h' hT a1 a2 a3 a4 a5 a6 a7 A'
        refine G_ref33_Time.i5 ?_
        simp only [G_ref33_Time.t5, G_ref33_Time.j3]
        refine inc (by omega) (ih (i + 1) y' f' v' h' g3 (by omega) a1 a2 a3 a4 a5 a6 a7 A' he' fun ha v hx A => ?_)
        rw [hT] at fin
        exact fin ha v hx A
      refine G_ref33_Time.i4 ?_
      simp only [G_ref33_Time.t4, G_ref33_Time.j5]
      refine bif_f rfl (st_at hdr ?_)
      refine withI_is (n := ((c.toNat - 48 : Nat) : Int)) (by rw [wrap_i64 (n := (c.toNat : Int)) (by omega) (by omega), wrap_i64 (by omega) (by omega)]; omega) ?_
      by_cases h4 : i < 4
      · have hp : 10 ^ (i + 1) = 10 ^ i * 10 := Nat.pow_succ ..
        have hp4 : 10 ^ (i + 1) ≤ 10 ^ 4 := Nat.pow_le_pow_right (by omega) (by omega)
        have hy := hy1 (by omega)
        refine bif_t (by simp; omega) ?_
        refine withI_is (n := ((10 * y : Nat) : Int)) (by rw [wrap_i64 (by omega) (by omega)]; omega) ?_
        refine withI_is (n := ((10 * y + (c.toNat - 48) : Nat) : Int)) (by rw [wrap_i64 (by omega) (by omega)]; omega) ?_
        exact p5 _ f v hx (by rw [refT, if_pos h4]) (fun _ => by omega) (fun _ => by omega) (fun _ => hf0 (by omega)) (by omega) (fun _ _ => by omega) hfb (fun _ _ => by omega) A
      · refine bif_f (by simp; omega) (rem_n (b := 2) (by omega) ?_)
        by_cases h2 : i % 2 = 0
        · refine bif_t (by simp; omega) ?_
          refine withI_is (n := ((10 * (c.toNat - 48) : Nat) : Int)) (by rw [wrap_i64 (by omega) (by omega)]; omega) ?_
          refine NewA.build A (by decide) (ns := [num (10 * (c.toNat - 48))]) rfl rfl rfl (by omega) (by omega) fun v' h' A' => ?_
          refine p5 y (f ++ [10 * (c.toNat - 48)]) v' h' (by rw [refT, if_neg h4, if_pos h2]) (fun h => by omega) (fun _ => hy2 (by omega)) (fun h => by omega) (by simp; omega) (fun _ _ => by simp) ?_ ?_ ?_
          · intro n hn
            rcases List.mem_append.1 hn with h | h
            · exact hfb n h
            · simp at h; omega
          · intro _ _
            rw [List.length_append]
            simp only [List.length_singleton, Nat.add_sub_cancel]
            rw [List.getD_eq_getElem?_getD, List.getElem?_append_right (Nat.le_refl _), Nat.sub_self]
            show 10 * (c.toNat - 48) ≤ 90
            omega
          · rw [List.map_append, List.length_append]; exact A'
        · refine bif_f (by simp; omega) (A.arr.rd.len ?_)
          have hne := hfne (by omega) (by omega)
          have hfp := List.length_pos_iff.2 hne
          refine withI_is (n := ((f.length - 1 : Nat) : Int)) (by rw [wrap_i64 (by omega) (by omega)]; omega) ?_
          obtain ⟨z, hz⟩ : ∃ z, f[f.length - 1]? = some z := ⟨_, List.getElem?_eq_getElem (by omega)⟩
          have hzb := hfb z (List.mem_of_getElem? hz)
          have hzg : f.getD (f.length - 1) 0 = z := getD_some hz
          refine A.arr.rd.nat (by omega) hz ?_
          refine withI_is (n := ((z + (c.toNat - 48) : Nat) : Int)) (by rw [wrap_i64 (by omega) (by omega)]; omega) ?_
          have hzo := hfo (by omega) (by omega)
          rw [hzg] at hzo
          refine NewA.store A (i := f.length - 1) (x := num (z + (c.toNat - 48))) (by omega) rfl rfl rfl fun h' A' => ?_
          refine p5 y (f.set (f.length - 1) (z + (c.toNat - 48))) v h' (by rw [refT, if_neg h4, if_neg h2, hzg]) (fun h => by omega) (fun _ => hy2 (by omega)) (fun h => by omega) (by simp; omega) (fun _ h => by omega) ?_ (fun h => by omega) ?_
          · intro n hn
            rcases List.mem_or_eq_of_mem_set hn with h | h
            · exact hfb n h
            · omega
          · rw [List.map_set, List.length_set]; exact A'
    have p4 : ∀ b, b = !digB c → G_ref33_Time.p4 (kRet h Q) s v y i b hx := by
      intro b hb
      cases hd : digB c with
      | false => rw [hd] at hb; rw [hb]; exact p4bad hd
      | true => rw [hd] at hb; rw [hb]; exact p4ok hd
    unfold digB at p4
    refine bif_both (fun e => p4 _ ?_) fun e => st_at hdr (p4 _ ?_)
    · simp only [decide_eq_true_eq] at e
      rw [decide_eq_false (by omega : ¬ 48 ≤ c.toNat)]; rfl
    · simp only [decide_eq_false_iff_not] at e
      rw [decide_eq_true (by omega : 48 ≤ c.toNat), Bool.true_and, ← decide_not, decide_eq_decide]; omega

theorem list14 {α : Type} {l : List α} (h : l.length = 14) : ∃ c0 c1 c2 c3 c4 c5 c6 c7 c8 c9 c10 c11 c12 c13, l = [c0, c1, c2, c3, c4, c5, c6, c7, c8, c9, c10, c11, c12, c13] := by
  match l, h with
  | [c0, c1, c2, c3, c4, c5, c6, c7, c8, c9, c10, c11, c12, c13], _ => exact ⟨c0, c1, c2, c3, c4, c5, c6, c7, c8, c9, c10, c11, c12, c13, rfl⟩

theorem Rtime_p2 {h hx : AHeap} {s : List UInt8} (E : Upd (fun _ => False) h hx) (hl : s.length = 15) (hq : Q (timeR (if s.getD 14 0 = 90 ∧ (s.take 14).all digB = true then finL (pairsN (s.take 14)) else (0, false))) h) : G_ref33_Time.p2 (kRet h Q) s hx := by
  refine G_ref33_Time.i2 ?_
  simp only [G_ref33_Time.t2, G_ref33_Time.j3]
  obtain ⟨c, hc1, hc2⟩ := getD_last hl
  rw [hc2] at hq
  refine idxStr hc1 ?_
  rw [show (90 : Int) = (((90 : UInt8).toNat : Nat) : Int) from rfl, eq_byte]
  by_cases h90 : c = 90
  · rw [decide_eq_true h90]
    refine bif_f rfl ?_
    refine Rtime_p3 E (fun hb => ?_) hl (s.take 14) 0 0 [] _ hx rfl (by omega) (by simp) (by omega) (fun _ => rfl) (by simp) (fun h => by omega) (by simp) (fun _ h => by omega) (NewA.start 1 hx) rfl fun ha v h2 A => ?_
    · rw [if_neg (fun hh => by rw [hb] at hh; cases hh.2)] at hq
      exact hq
    · rw [if_pos ⟨h90, ha⟩] at hq
      obtain ⟨c0, c1, c2, c3, c4, c5, c6, c7, c8, c9, c10, c11, c12, c13, hs⟩ := list14 (l := s.take 14) (by rw [List.length_take]; omega)
      rw [hs] at hq A ⊢
      rw [hs] at ha
      simp only [List.all_cons, Bool.and_eq_true] at ha
      obtain ⟨d0, d1, d2, d3, d4, d5, d6, d7, d8, d9, d10, d11, d12, d13, _⟩ := ha
      have d0 := digB_bd d0
      have d1 := digB_bd d1
      have d2 := digB_bd d2
      have d3 := digB_bd d3
      have d4 := digB_bd d4
      have d5 := digB_bd d5
      have d6 := digB_bd d6
      have d7 := digB_bd d7
      have d8 := digB_bd d8
      have d9 := digB_bd d9
      have d10 := digB_bd d10
      have d11 := digB_bd d11
      have d12 := digB_bd d12
      have d13 := digB_bd d13
      have hT : refT 0 0 [] [c0, c1, c2, c3, c4, c5, c6, c7, c8, c9, c10, c11, c12, c13] = (10 * (10 * (10 * (10 * 0 + (c0.toNat - 48)) + (c1.toNat - 48)) + (c2.toNat - 48)) + (c3.toNat - 48), [10 * (c4.toNat - 48) + (c5.toNat - 48), 10 * (c6.toNat - 48) + (c7.toNat - 48), 10 * (c8.toNat - 48) + (c9.toNat - 48), 10 * (c10.toNat - 48) + (c11.toNat - 48), 10 * (c12.toNat - 48) + (c13.toNat - 48)]) := rfl
      rw [hT] at A ⊢
      refine Rtime_p3end ((E.trans A.upd fun _ _ h => h).ext) A.arr.rd (by omega) (by omega) (by omega) (by omega) (by omega) (by omega) ?_
      have e : finL (pairsN [c0, c1, c2, c3, c4, c5, c6, c7, c8, c9, c10, c11, c12, c13]) = finT (10 * (10 * (10 * (10 * 0 + (c0.toNat - 48)) + (c1.toNat - 48)) + (c2.toNat - 48)) + (c3.toNat - 48)) (10 * (c4.toNat - 48) + (c5.toNat - 48)) (10 * (c6.toNat - 48) + (c7.toNat - 48)) (10 * (c8.toNat - 48) + (c9.toNat - 48)) (10 * (c10.toNat - 48) + (c11.toNat - 48)) (10 * (c12.toNat - 48) + (c13.toNat - 48)) := by
        show finT _ _ _ _ _ _ = _
        congr 1 <;> omega
      rw [← e]; exact hq
  · rw [decide_eq_false h90]
    rw [if_neg (fun hh => h90 hh.1)] at hq
    exact bif_t rfl (kRet_pure rfl E.ext hq)

theorem Rtime_c {d : Der} {cs : List AV} {F : Nat → Prop} {h : AHeap} (D : DV h F d cs) (hs : d.data.length ≤ 100000) (hq : Q (timeR (timeS d)) h) : C G_ref33_Time.id [.ag cs] h Q := by
  refine G_ref33_Time.call ?_
  simp only [G_ref33_Time.t, G_ref33_Time.j0]
  refine D.box fun h1 hl1 U1 B D1 => st_fld (st_load B D.len.symm D.dat (st_asS (st_loadN B D.len.symm (Rplain_c D1 (st_asB ?_)))))
  have no2 : dPlain 23 d = true → dPlain 24 d = false := by
    obtain ⟨c, t, m, s, ks⟩ := d
    intro h
    have h : (decide (c = 0) && (decide (t = 23) && (!m && decide (ks.length = 0)))) = true := h
    show (decide (c = 0) && (decide (t = 24) && (!m && decide (ks.length = 0)))) = false
    simp only [Bool.and_eq_true, decide_eq_true_eq] at h
    rw [decide_eq_true h.1, decide_eq_false (show ¬ t = 24 by omega)]; rfl
  unfold timeS fullS at hq
  have p0 : ∀ b, b = (dPlain 23 d && decide (d.data.length = 13)) → G_ref33_Time.p0 (kRet h Q) (.p (some ⟨h.length, 5, 0⟩)) d.data b h1 := by
    intro b hb
    refine G_ref33_Time.i0 ?_
    simp only [G_ref33_Time.t0, G_ref33_Time.j1, G_ref33_Time.j2]
    refine bif_both (fun e => ?_) fun e => st_loadN B D.len.symm (Rplain_c D1 (st_asB ?_))
    · subst e
      have hb := hb.symm
      rw [Bool.and_eq_true, decide_eq_true_eq] at hb
      rw [if_neg (by rw [no2 hb.1]; simp), if_pos hb.1, if_pos hb.2] at hq
      simp only at hq
      obtain ⟨c0, hc0⟩ : ∃ c, d.data[0]? = some c := ⟨_, List.getElem?_eq_getElem (by omega)⟩
      rw [getD_some hc0] at hq
      refine idxStr (i := 0) hc0 ?_
      refine bif_both (fun e => ⟨by simp; omega, Rtime_p2 U1 (by simp; omega) ?_⟩) fun e => ⟨by simp; omega, Rtime_p2 U1 (by simp; omega) ?_⟩
      · have h53 : 53 ≤ c0.toNat := by simp only [decide_eq_true_eq] at e; omega
        simp only [if_pos h53] at hq
        exact hq
      · have h53 : ¬ 53 ≤ c0.toNat := by simp only [decide_eq_false_iff_not] at e; omega
        simp only [if_neg h53] at hq
        exact hq
    · subst e
      have p1 : ∀ b, b = (dPlain 24 d && decide (d.data.length = 15)) → G_ref33_Time.p1 (kRet h Q) d.data b h1 := by
        intro b hb2
        refine G_ref33_Time.i1 ?_
        simp only [G_ref33_Time.t1, G_ref33_Time.j2]
        refine bif_both (fun e => ?_) fun e => ?_
        · subst e
          have hb2 := hb2.symm
          rw [Bool.and_eq_true, decide_eq_true_eq] at hb2
          rw [if_pos hb2.1, if_pos hb2.2] at hq
          exact Rtime_p2 U1 hb2.2 hq
        · subst e
          have hn : (if dPlain 24 d = true then (if d.data.length = 15 then some d.data else none) else if dPlain 23 d = true then (if d.data.length = 13 then some ((if 53 ≤ (d.data.getD 0 0).toNat then [49, 57] else [50, 48]) ++ d.data) else none) else none) = none := by
            by_cases h24 : dPlain 24 d = true
            · rw [if_pos h24, if_neg (fun hh => by rw [h24, hh] at hb2; cases hb2)]
            · rw [if_neg h24]
              by_cases h23 : dPlain 23 d = true
              · rw [if_pos h23, if_neg (fun hh => by rw [h23, hh] at hb; cases hb)]
              · rw [if_neg h23]
          rw [hn] at hq
          exact kRet_pure rfl U1.ext hq
      refine bif_both (fun e => p1 _ ?_) fun e => p1 _ ?_
      · rw [e, Bool.true_and, decide_eq_decide]; omega
      · rw [e]; rfl
  refine bif_both (fun e => p0 _ ?_) fun e => p0 _ ?_
  · rw [e, Bool.true_and, decide_eq_decide]; omega
  · rw [e]; rfl

end
end Go.Proofs.YtffgchcidkapjaaDoor

/- OidOf, the program's. -/
set_option linter.unusedVariables false
set_option linter.unusedSimpArgs false
set_option linter.unusedSectionVars false
set_option maxRecDepth 20000
namespace Go.GAM
theorem RdAt.drop {sz : Nat} {h : AHeap} {id ver off : Nat} {b : ABlk} {cs : List AV} {len lo : Nat} {cap : Option Nat} {K : AV → Prop} (A : RdAt sz h id ver off b cs len) (hz : 0 < sz) (h1 : lo ≤ len) (hk : K (.sl (some ⟨id, ver, off + lo * sz⟩) (len - lo) (cap.map (· - lo)))) : pSliceSl sz (.sl (some ⟨id, ver, off⟩) len cap) (some (.i .i64 (lo : Int))) none none h K := by
  refine ⟨hz, fun h => by simp at h, by omega, by simpa using h1, b, A.blk, by have := A.flo; have := A.vle; omega, A.flo, A.siz, .inl (Nat.le_refl _), by simpa using hk⟩
theorem RdAt.dropRd {sz : Nat} {h : AHeap} {id ver off : Nat} {b : ABlk} {cs : List AV} {len lo : Nat} (A : RdAt sz h id ver off b cs len) (h1 : lo ≤ len) (cap : Option Nat) : Rd sz h (.sl (some ⟨id, ver, off + lo * sz⟩) (len - lo) cap) (cs.drop (lo * sz)) (len - lo) := by
  have e1 : lo * sz ≤ len * sz := Nat.mul_le_mul_right _ h1
  have e3 : (len - lo) * sz = len * sz - lo * sz := Nat.sub_mul _ _ _
  have e4 := A.end_
  refine .inr ⟨id, ver, off + lo * sz, cap, b, rfl, A.blk, A.siz, A.flo, A.vle, by omega, ?_⟩
  rw [← A.cel, List.drop_take, List.drop_drop, e3]
/-- An array of one element that is made. -/
theorem NewA.one {h0 h : AHeap} (U : Upd (fun _ => False) h0 h) {x : AV} {zeros : List AV} (hf : fillA zeros [(0, 1, x)] = some [x]) {K : AV → AHeap → Prop} (hk : ∀ v h', NewA 1 h0 h' v [x] 1 → Upd (fun _ => False) h h' → (∀ i, SlAt v i → h.length ≤ i) → K v h') : pBuildSl 1 1 zeros [(0, 1, x)] h K := by
  unfold pBuildSl
  rw [hf]
  refine ⟨rfl, hk _ _ ⟨U.trans (Upd.app _ _) fun _ _ h => h, .inr ⟨h.length, newBlk [x] 1 true, rfl, by simp, rfl, rfl, rfl, Nat.le_refl _, rfl, rfl⟩, fun i hi => ?_⟩ (Upd.app _ _) fun i hi => ?_⟩
  · cases hi; exact U.1
  · cases hi; exact Nat.le_refl _
end Go.GAM
namespace Go.Proofs.YtffgchcidkapjaaDoor
open Go.GAM Go.RowKit

def nat10 (l : List UInt8) : Nat := l.foldl (fun n c => n * 10 + (c.toNat - 48)) 0
theorem nat10_snoc (l : List UInt8) (c : UInt8) : nat10 (l ++ [c]) = nat10 l * 10 + (c.toNat - 48) := by simp [nat10]
theorem nat10_bd : ∀ n (l : List UInt8), l.length = n → l.all digB = true → nat10 l < 10 ^ n := by
  intro n
  induction n with
  | zero => intro l hl _; rw [List.eq_nil_of_length_eq_zero hl]; decide
  | succ n ih =>
    intro l hl ha
    have hne : l ≠ [] := fun h => by rw [h] at hl; simp at hl
    have e := List.dropLast_concat_getLast hne
    rw [← e, List.all_append, Bool.and_eq_true] at ha
    have h1 := ih l.dropLast (by rw [List.length_dropLast]; omega) ha.1
    have h2 := ha.2
    simp only [List.all_cons, List.all_nil, Bool.and_true] at h2
    have h2 := digB_bd h2
    rw [← e, nat10_snoc, Nat.pow_succ]
    omega
def lead0 (s : List UInt8) : Prop := s.getD 0 0 = 48 ∧ 1 < s.length
instance (s : List UInt8) : Decidable (lead0 s) := by unfold lead0; infer_instance
def decN (s : List UInt8) : Option Nat := if s ≠ [] ∧ s.length ≤ 9 ∧ ¬ lead0 s ∧ s.all digB = true ∧ nat10 s < 268435456 then some (nat10 s) else none

/-- The bytes of a number to the base 128: k that go on, then the last. -/
def arcK : Nat → Nat → List UInt8
  | 0, n => [UInt8.ofNat (n % 128)]
  | k + 1, n => UInt8.ofNat (n / 2 ^ (7 * (k + 1)) % 128 + 128) :: arcK k n
def arcN (n : Nat) : Nat := if n < 128 then 0 else if n < 16384 then 1 else if n < 2097152 then 2 else 3
def arcS (n : Nat) : List UInt8 := arcK (arcN n) n

def decAll : List (List UInt8) → Option (List Nat)
  | [] => some []
  | w :: r => match decN w with
    | none => none
    | some n => match decAll r with
      | none => none
      | some l => some (n :: l)
def oidL (l : List Nat) : Except Int (List UInt8) := match l with
  | a :: b :: r => if 2 < a ∨ (a < 2 ∧ 40 ≤ b) ∨ 268435456 ≤ 40 * a + b then .error 2 else .ok (((40 * a + b) :: r).flatMap arcS)
  | _ => .error 2
def oidOfS (s : List UInt8) : Except Int (List UInt8) :=
  if 256 < s.length then .error 3 else match decAll (splitS 46 s) with
    | none => .error 2
    | some l => oidL l

theorem decAll_cons (w : List UInt8) (r : List (List UInt8)) : decAll (w :: r) = match decN w with
    | none => none
    | some n => match decAll r with
      | none => none
      | some l => some (n :: l) := by rw [decAll]
theorem oidL_short {l : List Nat} (h : l.length < 2) : oidL l = .error 2 := by
  match l, h with
  | [], _ => rfl
  | [a], _ => rfl
theorem two_of {l : List Nat} (h : ¬ l.length < 2) : ∃ a b r, l = a :: b :: r := by
  match l, h with
  | [], h => simp at h
  | [a], h => simp at h
  | a :: b :: r, _ => exact ⟨a, b, r, rfl⟩
theorem decN_bd {s : List UInt8} {n : Nat} (h : decN s = some n) : n < 268435456 := by
  unfold decN at h
  split at h
  · rename_i hc; cases h; exact hc.2.2.2.2
  · cases h
theorem decAll_bd : ∀ {ws : List (List UInt8)} {l : List Nat}, decAll ws = some l → (∀ n ∈ l, n < 268435456) ∧ l.length = ws.length
  | [], l, h => by cases h; simp
  | w :: r, l, h => by
    unfold decAll at h
    split at h
    · cases h
    · rename_i n hn
      split at h
      · cases h
      · rename_i l' hl
        cases h
        have := decAll_bd hl
        refine ⟨fun m hm => ?_, by simp [this.2]⟩
        rcases List.mem_cons.1 hm with rfl | hm
        · exact decN_bd hn
        · exact this.1 m hm

section
variable {h0 : AHeap} {Q : AV → AHeap → Prop}

def NOut (h : AHeap) (Q : AV → AHeap → Prop) : Option Nat → Prop
  | some n => Q (.tu [.i .i64 (n : Int), .b true]) h
  | none => ∀ x, Q (.tu [.i .i64 x, .b false]) h

theorem number_c {s : List UInt8} {h : AHeap} (hq : NOut h Q (decN s)) : C G_der_number.id [.s s] h Q := by
  refine G_der_number.call ?_
  simp only [G_der_number.t, G_der_number.j0]
  have p0bad : decN s = none → G_der_number.p0 (kRet h Q) s true h := by
    intro hn
    rw [hn] at hq
    refine G_der_number.i0 ?_
    simp only [G_der_number.t0]
    exact bif_t rfl (.inl (hq 0))
  have p0ok : s ≠ [] → s.length ≤ 9 → ¬ lead0 s → G_der_number.p0 (kRet h Q) s false h := by
    intro hne hl h48
    have go : ∀ (r : List UInt8) (i : Nat), s.drop i = r → i ≤ s.length → (s.take i).all digB = true → G_der_number.p1 (kRet h Q) s (nat10 (s.take i) : Nat) s.length i h := by
      intro r
      induction r with
      | nil =>
        intro i hr hi ha
        have hle := drop_end hr
        rw [List.take_of_length_le hle] at ha ⊢
        have hb := nat10_bd s.length s rfl ha
        have hp : 10 ^ s.length ≤ 10 ^ 9 := Nat.pow_le_pow_right (by omega) hl
        refine G_der_number.i1 ?_
        simp only [G_der_number.t1]
        refine bif_f (by simp; omega) (.inl ?_)
        unfold decN at hq
        by_cases h28 : nat10 s < 268435456
        · rw [if_pos ⟨hne, hl, h48, ha, h28⟩] at hq
          rw [decide_eq_true (by omega)]; exact hq
        · rw [if_neg (fun hh => h28 hh.2.2.2.2)] at hq
          rw [decide_eq_false (by omega)]; exact hq _
      | cons c r ih =>
        intro i hr hi ha
        have hlt := drop_lt hr
        have hn := drop_next hr
        have hci := at_of_drop hr
        have hb := nat10_bd i (s.take i) (by rw [List.length_take]; omega) ha
        have hp : 10 ^ i ≤ 10 ^ 9 := Nat.pow_le_pow_right (by omega) (by omega)
        have p2 : ∀ b, b = !digB c → G_der_number.p2 (kRet h Q) s (nat10 (s.take i) : Nat) i s.length i b h := by
          intro b hb2
          refine G_der_number.i2 ?_
          simp only [G_der_number.t2, G_der_number.j1]
          cases hd : digB c with
          | false =>
            rw [hd] at hb2
            have : decN s = none := by
              unfold decN
              rw [if_neg (fun hh => ?_)]
              have h3 := hh.2.2.2.1
              rw [← List.take_append_drop i s, List.all_append, hr, List.all_cons, hd] at h3
              simp at h3
            rw [this] at hq
            exact bif_t hb2 (.inl (hq 0))
          | true =>
            rw [hd] at hb2
            have hdb := digB_bd hd
            refine bif_f hb2 ?_
            refine withI_is (n := ((nat10 (s.take i) * 10 : Nat) : Int)) (by rw [wrap_i64 (by omega) (by omega)]; omega) (st_at hr ?_)
            refine withI_is (n := ((c.toNat - 48 : Nat) : Int)) (by rw [wrap_u8 (by omega) (by omega)]; omega) ?_
            refine withI_is (n := ((nat10 (s.take (i + 1)) : Nat) : Int)) ?_ (inc (by omega) (ih (i + 1) hn (by omega) ?_))
            · rw [take_snoc hci, nat10_snoc, wrap_i64 (n := ((c.toNat - 48 : Nat) : Int)) (by omega) (by omega), wrap_i64 (by omega) (by omega)]; omega
            · rw [take_snoc hci, List.all_append, ha]; simp [hd]
        unfold digB at p2
        refine G_der_number.i1 ?_
        simp only [G_der_number.t1, G_der_number.j2]
        refine bif_t (by simp; omega) (st_at hr ?_)
        refine bif_both (fun e => p2 _ ?_) fun e => st_at hr (p2 _ ?_)
        · simp only [decide_eq_true_eq] at e
          rw [decide_eq_false (by omega : ¬ 48 ≤ c.toNat)]; rfl
        · simp only [decide_eq_false_iff_not] at e
          rw [decide_eq_true (by omega : 48 ≤ c.toNat), Bool.true_and, ← decide_not, decide_eq_decide]; omega
    refine G_der_number.i0 ?_
    simp only [G_der_number.t0, G_der_number.j1]
    exact bif_f rfl (go s 0 rfl (by omega) rfl)
  by_cases hne : s = []
  · exact bif_t (by simp [hne]) (p0bad (by unfold decN; rw [if_neg (fun hh => hh.1 hne)]))
  refine bif_f (by simp [hne]) ?_
  by_cases hl : 9 < s.length
  · exact bif_t (by simp; omega) (p0bad (by unfold decN; rw [if_neg (fun hh => by have := hh.2.1; omega)]))
  refine bif_f (by simp; omega) ?_
  obtain ⟨c, hc⟩ : ∃ c, s[0]? = some c := ⟨_, List.getElem?_eq_getElem (List.length_pos_iff.2 hne)⟩
  have hg : s.getD 0 0 = c := getD_some hc
  refine idxStr (i := 0) hc ?_
  rw [show (48 : Int) = (((48 : UInt8).toNat : Nat) : Int) from rfl, eq_byte]
  by_cases h48 : c = 48
  · refine bif_t (by simp [h48]) ?_
    by_cases h1 : 1 < s.length
    · rw [decide_eq_true (by omega)]
      refine p0bad ?_
      unfold decN
      rw [if_neg (fun hh => hh.2.2.1 ⟨by rw [hg, h48], h1⟩)]
    · rw [decide_eq_false (by omega)]
      exact p0ok hne (by omega) (fun hh => h1 hh.2)
  · refine bif_f (by simp [h48]) (p0ok hne (by omega) (fun hh => h48 (by rw [← hg]; exact hh.1)))

/-! ### OidOf -/

/-- What OidOf hands back. -/
def oidR : Except Int (List UInt8) → AV
  | .error e => .tu [.ag z5, .i .i64 e]
  | .ok l => .tu [.ag (leafC 0 6 false l), .i .i64 0]

theorem and127 {x : Nat} (hx : x < 2 ^ 62) : bitsOp .and .i64 (x : Int) 127 = ((x % 128 : Nat) : Int) := bits_and_mod (n := 7) hx (by omega)
theorem or128 {x : Nat} (hx : x < 128) : bitsOp .or .i64 (x : Int) 128 = ((x + 128 : Nat) : Int) := by
  have h : ∀ x, x < 128 → x ||| 128 = x + 128 := by decide +kernel
  have := bits_or (x := x) (y := 128) (by omega) (by omega)
  rw [h x hx] at this
  exact this

/-- A value is stored and handed back in a tuple. -/
theorem ret_tu {h h1 hx : AHeap} {id : Nat} {z : List AV} {c t e : Int} {s : List UInt8} (hz : z.length = 5) (R : RecAt hx id z) (hid : h.length ≤ id) (U : Upd (fun _ => False) h hx) (hq : ∀ h', Upd (fun _ => False) h h' → Q (.tu [.ag (leafC c t false s), .i .i64 e]) h') :
    pStore 5 (.p (some ⟨id, 5, 0⟩)) (.ag [.i .i64 c, .i .i64 t, .b false, .s s, .sl none 0 none]) hx fun h5 => pLoadN 5 (.p (some ⟨id, 5, 0⟩)) h5 fun v7 => kRet h Q (.tu [v7, .i .i64 e]) h5 := by
  refine st_storeN R hz.symm rfl rfl fun h5 hl5 U5 R5 => st_loadN R5 rfl (.inl (hq h5 ?_))
  exact (U.trans U5 fun i hi he => absurd he (by omega))

theorem oid_p2 {h h1 h2 : AHeap} {id : Nat} {w : AV} {l : List Nat} (hid : h.length ≤ id) (U1 : Upd (fun _ => False) h h1) (U2 : Upd (fun _ => False) h h2) (R : RecAt h2 id z5) (W : Rd 1 h2 w (l.map num) l.length) (hll : l.length ≤ 1000) (hb : ∀ n ∈ l, n < 268435456)
    (hq : ∀ h', Upd (fun _ => False) h h' → Q (.tu [.ag (leafC 0 6 false (l.flatMap arcS)), .i .i64 0]) h') :
    ∀ (r : List Nat) (i : Nat) (v : AV) (o : List UInt8) (hx : AHeap), l.drop i = r → i ≤ l.length → o.length ≤ 4 * i → o ++ r.flatMap arcS = l.flatMap arcS → Tx h2 hx v o → G_der_OidOf.p2 (kRet h Q) (.p (some ⟨id, 5, 0⟩)) v w l.length i hx := by
  intro r
  induction r with
  | nil =>
    intro i v o hx hr hi hol ho T
    have hle := drop_end hr
    refine G_der_OidOf.i2 ?_
    simp only [G_der_OidOf.t2]
    rw [List.flatMap_nil, List.append_nil] at ho
    subst ho
    exact bif_f (by simp; omega) (T.str (ret_tu (h1 := h1) rfl (R.upd T.upd fun h => h) hid (U2.trans T.upd fun _ _ h => h) hq))
  | cons n r ih =>
    intro i v o hx hr hi hol ho T
    have hlt := drop_lt hr
    have hn := drop_next hr
    have hni := at_of_drop hr
    have hnb := hb n (List.mem_of_getElem? hni)
    have W' := W.upd T.upd fun _ _ h => h
    rw [List.flatMap_cons] at ho
    -- the bytes
    have p4 : ∀ (k : Nat) (v : AV) (o' : List UInt8) (hx : AHeap), k ≤ 3 → o'.length + k ≤ 4 * i + 3 → o' ++ arcK k n = o ++ arcS n → Tx h2 hx v o' → G_der_OidOf.p4 (kRet h Q) (.p (some ⟨id, 5, 0⟩)) v n k w l.length i hx := by
      intro k
      induction k with
      | zero =>
        intro v o' hx hk hol' ho' T
        refine G_der_OidOf.i4 ?_
        simp only [G_der_OidOf.t4, G_der_OidOf.j2]
        refine bif_f (by simp) (withI_is (and127 (by omega)) ?_)
        rw [wrap_u8_nat, Nat.mod_eq_of_lt (show n % 128 < 256 by omega)]
        have e : ((n % 128 : Nat) : Int) = ((UInt8.ofNat (n % 128)).toNat : Int) := by rw [UInt8.toNat_ofNat']; omega
        rw [e]
        refine T.push (by omega) fun v' h' T' => inc (by omega) (ih (i + 1) v' _ h' hn (by omega) (by simp; omega) ?_ T')
        rw [show o' ++ [UInt8.ofNat (n % 128)] = o ++ arcS n from ho', List.append_assoc]
        exact ho
      | succ k ihk =>
        intro v o' hx hk hol' ho' T
        refine G_der_OidOf.i4 ?_
        simp only [G_der_OidOf.t4, G_der_OidOf.j4]
        refine bif_t (by simp) ?_
        refine withI_is (n := ((7 * (k + 1) : Nat) : Int)) (by rw [wrap_i64 (by omega) (by omega)]; omega) (st_shr (k := .i64) (by show 7 * (k + 1) ≤ 64; omega) ?_)
        have hd : n / 2 ^ (7 * (k + 1)) ≤ n := Nat.div_le_self _ _
        unfold arcK at ho'
        generalize n / 2 ^ (7 * (k + 1)) = y at hd ho'
        refine withI_is (and127 (by omega)) (withI_is (or128 (Nat.mod_lt _ (by omega))) ?_)
        have hm : y % 128 < 128 := Nat.mod_lt _ (by omega)
        rw [wrap_u8_nat, Nat.mod_eq_of_lt (show y % 128 + 128 < 256 by omega)]
        have e : ((y % 128 + 128 : Nat) : Int) = ((UInt8.ofNat (y % 128 + 128)).toNat : Int) := by rw [UInt8.toNat_ofNat']; omega
        rw [e]
        refine T.push (by omega) fun v' h' T' => withI_is (n := (k : Int)) (by rw [wrap_i64 (by omega) (by omega)]; omega) (ihk v' _ h' (by omega) (by simp; omega) ?_ T')
        rw [← ho']; simp
    have hk3 : arcN n ≤ 3 := by unfold arcN; repeat' split
                                all_goals omega
    have p3 : ∀ m k, k + m = arcN n → G_der_OidOf.p3 (kRet h Q) (.p (some ⟨id, 5, 0⟩)) v n k w l.length i hx := by
      intro m
      induction m with
      | zero =>
        intro k hk
        have hk : k = arcN n := by omega
        refine G_der_OidOf.i3 ?_
        simp only [G_der_OidOf.t3, G_der_OidOf.j4]
        refine inc (by omega) (withI_is (n := ((7 * (k + 1) : Nat) : Int)) (by rw [wrap_i64 (by omega) (by omega)]; omega) (st_shr (k := .i64) (by show 7 * (k + 1) ≤ 64; omega) ?_))
        have : n / 2 ^ (7 * (k + 1)) = 0 := by
          apply Nat.div_eq_of_lt
          rw [hk]
          unfold arcN
          repeat' split
          all_goals omega
        rw [this]
        refine bif_f rfl (p4 k v o hx (by omega) (by omega) ?_ T)
        unfold arcS; rw [hk]
      | succ m ihm =>
        intro k hk
        refine G_der_OidOf.i3 ?_
        simp only [G_der_OidOf.t3, G_der_OidOf.j3]
        refine inc (by omega) (withI_is (n := ((7 * (k + 1) : Nat) : Int)) (by rw [wrap_i64 (by omega) (by omega)]; omega) (st_shr (k := .i64) (by show 7 * (k + 1) ≤ 64; omega) ?_))
        have : 0 < n / 2 ^ (7 * (k + 1)) := by
          apply Nat.div_pos _ (Nat.two_pow_pos _)
          have hk' : k < arcN n := by omega
          unfold arcN at hk'
          have : k = 0 ∨ k = 1 ∨ k = 2 := by
            revert hk'
            repeat' split
            all_goals omega
          rcases this with rfl | rfl | rfl
          · split at hk' <;> omega
          · split at hk'
            · omega
            · split at hk' <;> omega
          · split at hk'
            · omega
            · split at hk'
              · omega
              · split at hk' <;> omega
        refine bif_t (by rw [decide_eq_true_eq]; generalize n / 2 ^ (7 * (k + 1)) = y at this; omega) (inc (by omega) (ihm (k + 1) (by omega)))
    refine G_der_OidOf.i2 ?_
    simp only [G_der_OidOf.t2, G_der_OidOf.j3]
    exact bif_t (by simp; omega) (W'.nat hlt hni (p3 (arcN n) 0 (by omega)))

theorem oidOf_c {s : List UInt8} {h : AHeap} (hq : ∀ h', Upd (fun _ => False) h h' → Q (oidR (oidOfS s)) h') : C G_der_OidOf.id [.s s] h Q := by
  refine G_der_OidOf.call ?_
  simp only [G_der_OidOf.t, G_der_OidOf.j0]
  refine st_alloc fun h1 hl1 U1 R => ?_
  unfold oidOfS at hq
  by_cases hl : 256 < s.length
  · rw [if_pos hl] at hq
    exact bif_t (by simp; omega) (ret_tu (h1 := h1) rfl R (Nat.le_refl _) U1 hq)
  rw [if_neg hl] at hq
  refine bif_f (by simp; omega) (split_c (sp := 46) (by omega) fun w h2 S => ?_)
  have hsl := split_len (sp := 46) s
  have hcb : Lib.countByte s 46 ≤ s.length := List.count_le_length
  have W := S.stk.rd
  rw [List.length_map] at W
  have R2 := R.upd S.upd fun h => h
  have U2 := U1.trans S.upd fun _ _ h => h
  refine W.len ?_
  generalize splitS 46 s = ws at *
  have bad : ∀ hx, Upd (fun _ => False) h2 hx → decAll ws = none → pStore 5 (.p (some ⟨h.length, 5, 0⟩)) (.ag [.i .i64 0, .i .i64 0, .b false, .s [], .sl none 0 none]) hx fun h5 => pLoadN 5 (.p (some ⟨h.length, 5, 0⟩)) h5 fun v7 => kRet h Q (.tu [v7, .i .i64 2]) h5 := by
    intro hx U hd
    rw [hd] at hq
    exact ret_tu (h1 := h1) rfl (R2.upd U fun h => h) (Nat.le_refl _) (U2.trans U fun _ _ h => h) hq
  have go : ∀ (r : List (List UInt8)) (i : Nat) (done : List Nat) (v : AV) (hx : AHeap), ws.drop i = r → i ≤ ws.length → done.length = i → (decAll ws = match decAll r with | none => none | some l => some (done ++ l)) → NewA 1 h2 hx v (done.map num) done.length → G_der_OidOf.p0 (kRet h Q) (.p (some ⟨h.length, 5, 0⟩)) v w ws.length i hx := by
    intro r
    induction r with
    | nil =>
      intro i done v hx hr hi hdl hd A
      have hle := drop_end hr
      have hd : decAll ws = some done := by rw [hd]; simp [decAll]
      rw [hd] at hq
      have hbd := (decAll_bd hd).1
      have R3 := R2.upd A.upd fun h => h
      have U3 := U2.trans A.upd fun _ _ h => h
      refine G_der_OidOf.i0 ?_
      simp only [G_der_OidOf.t0, G_der_OidOf.j1]
      refine bif_f (by simp; omega) (A.arr.rd.len ?_)
      -- a wrong list
      have p1bad : oidL done = .error 2 → G_der_OidOf.p1 (kRet h Q) (.p (some ⟨h.length, 5, 0⟩)) v true hx := by
        intro he
        have hq : ∀ h', Upd (fun _ => False) h h' → Q (oidR (oidL done)) h' := hq
        rw [he] at hq
        refine G_der_OidOf.i1 ?_
        simp only [G_der_OidOf.t1]
        exact bif_t rfl (ret_tu (h1 := h1) rfl R3 (Nat.le_refl _) U3 hq)
      have p1ok : ∀ a b l, done = a :: b :: l → ¬ (2 < a ∨ (a < 2 ∧ 40 ≤ b) ∨ 268435456 ≤ 40 * a + b) → G_der_OidOf.p1 (kRet h Q) (.p (some ⟨h.length, 5, 0⟩)) v false hx := by
        intro a b l hdone hg
        have ha := hbd a (by rw [hdone]; simp)
        have hb := hbd b (by rw [hdone]; simp)
        have hq : ∀ h', Upd (fun _ => False) h h' → Q (oidR (oidL done)) h' := hq
        have he : oidL done = .ok (((40 * a + b) :: l).flatMap arcS) := by
          rw [hdone]; unfold oidL; simp only; rw [if_neg hg]
        rw [he] at hq
        obtain ⟨id, ver, off, cap, blk, hv, RA⟩ := A.arr.rd.at (by rw [hdone]; simp)
        have hidv : h2.length ≤ id := A.new id (by rw [hv]; rfl)
        have h0' : done[0]? = some a := by rw [hdone]; rfl
        have h1' : done[1]? = some b := by rw [hdone]; rfl
        have hlen2 : 2 ≤ done.length := by rw [hdone]; simp
        rw [hv]
        refine G_der_OidOf.i1 ?_
        simp only [G_der_OidOf.t1, G_der_OidOf.j2]
        refine bif_f rfl (st_idx RA (i := 0) (by omega) (st_num RA (by omega) h0' ?_))
        refine withI_is (n := ((40 * a : Nat) : Int)) (by rw [wrap_i64 (by omega) (by omega)]; omega) (st_idx RA (i := 1) (by omega) (st_num RA (by omega) h1' ?_))
        refine withI_is (n := ((40 * a + b : Nat) : Int)) (by rw [wrap_i64 (by omega) (by omega)]; omega) ?_
        refine RA.drop Nat.one_pos (lo := 2) hlen2 ?_
        refine NewA.one (Upd.refl _ _) (x := num (40 * a + b)) rfl fun v2 h3 A2 Ux Fx => ?_
        have RA3 := RA.upd Ux fun h => h
        refine RA3.drop Nat.one_pos (lo := 2) hlen2 ⟨rfl, st_num RA3 (by omega) h1' ⟨rfl, st_idx RA3 (i := 1) (by omega) ⟨rfl, st_num RA3 (by omega) h0' ⟨rfl, st_idx RA3 (i := 0) (by omega) ⟨rfl, ?_⟩⟩⟩⟩⟩
        have RD := RA3.dropRd (lo := 2) hlen2 (cap.map (· - 2))
        have hdr : (done.map num).drop (2 * 1) = l.map num := by rw [hdone]; rfl
        rw [hdr] at RD
        refine A2.append Nat.one_pos (ns := l.map num) (k := done.length - 2) (fun K hK => RD.news hK) (by rw [hdone]; simp) (by simp [num, AV.cellOK]) (by omega) (by omega) fun v3 h4 A3 Uy => ?_
        have RA4 := RA3.upd Uy fun hs => by have := Fx id hs; have := RA.lt; omega
        refine st_num RA4 (by omega) h1' ⟨rfl, st_idx RA4 (i := 1) (by omega) ⟨rfl, st_num RA4 (by omega) h0' ⟨rfl, st_idx RA4 (i := 0) (by omega) ⟨rfl, A3.arr.rd.len ?_⟩⟩⟩⟩
        have U4 := A3.upd
        have e : 1 + (done.length - 2) = ((40 * a + b) :: l).length := by rw [hdone]; simp; omega
        rw [e]
        refine oid_p2 (l := (40 * a + b) :: l) (h1 := h1) (Nat.le_refl _) U1 (U3.trans U4 fun _ _ h => h) (R3.upd U4 fun h => h) ?_ ?_ ?_ hq _ 0 _ [] h4 rfl (by omega) (by simp) rfl (Tx.start h4)
        · have := A3.arr.rd
          rw [e] at this
          exact this
        · rw [← e]; omega
        · intro n hn
          rcases List.mem_cons.1 hn with rfl | hn
          · omega
          · exact hbd n (by rw [hdone]; simp [hn])
      by_cases hl2 : done.length < 2
      · exact bif_t (by simp; omega) (p1bad (oidL_short hl2))
      refine bif_f (by simp; omega) ?_
      obtain ⟨a, b, l, hdone⟩ := two_of hl2
      have h0' : done[0]? = some a := by rw [hdone]; rfl
      have h1' : done[1]? = some b := by rw [hdone]; rfl
      have ha := hbd a (by rw [hdone]; simp)
      have hb := hbd b (by rw [hdone]; simp)
      have p1 : ∀ bb : Bool, (bb = true ↔ (2 < a ∨ (a < 2 ∧ 40 ≤ b) ∨ 268435456 ≤ 40 * a + b)) → G_der_OidOf.p1 (kRet h Q) (.p (some ⟨h.length, 5, 0⟩)) v bb hx := by
        intro bb hbb
        cases bb with
        | true =>
          refine p1bad ?_
          rw [hdone]; unfold oidL; simp only
          rw [if_pos (hbb.1 rfl)]
        | false => exact p1ok a b l hdone (fun hh => by have := hbb.2 hh; cases this)
      have RV := A.arr.rd
      refine RV.nat (i := 0) (by omega) h0' ?_
      refine bif_both (fun e1 => p1 _ ?_) fun e1 => RV.nat (i := 0) (by omega) h0' ?_
      · simp only [decide_eq_true_eq] at e1; simp; omega
      simp only [decide_eq_false_iff_not] at e1
      have fin : ∀ K : Int → Prop, K ((40 * a + b : Nat) : Int) → pIdxAddrSl 1 v (.i .i64 0) hx fun v52 => pLoad1 v52 hx fun v53 => asI .i64 v53 fun n54 => withI (IntKind.wrap .i64 (40 * n54)) fun n55 => pIdxAddrSl 1 v (.i .i64 1) hx fun v56 => pLoad1 v56 hx fun v57 => asI .i64 v57 fun n58 => withI (IntKind.wrap .i64 (n55 + n58)) K := by
        intro K hK
        refine RV.nat (i := 0) (by omega) h0' ?_
        refine withI_is (n := ((40 * a : Nat) : Int)) (by rw [wrap_i64 (by omega) (by omega)]; omega) (RV.nat (i := 1) (by omega) h1' ?_)
        exact withI_is (n := ((40 * a + b : Nat) : Int)) (by rw [wrap_i64 (by omega) (by omega)]; omega) hK
      refine bif_both (fun e2 => RV.nat (i := 1) (by omega) h1' ?_) fun e2 => fin _ (p1 _ ?_)
      · simp only [decide_eq_true_eq] at e2
        refine bif_both (fun e3 => p1 _ ?_) fun e3 => fin _ (p1 _ ?_)
        · simp only [decide_eq_true_eq] at e3; simp; omega
        · simp only [decide_eq_false_iff_not] at e3
          rw [decide_eq_true_eq]; omega
      · simp only [decide_eq_false_iff_not] at e2
        rw [decide_eq_true_eq]; omega
    | cons x r ih =>
      intro i done v hx hr hi hdl hd A
      have hlt := drop_lt hr
      have hn := drop_next hr
      have hxi := at_of_drop hr
      have W' := W.upd A.upd fun _ _ h => h
      refine G_der_OidOf.i0 ?_
      simp only [G_der_OidOf.t0, G_der_OidOf.j0]
      refine bif_t (by simp; omega) (W'.str hxi (number_c ?_))
      rw [decAll_cons] at hd
      cases hx2 : decN x with
      | none =>
        rw [hx2] at hd
        intro y
        show pExtract 0 (.tu [.i .i64 y, .b false]) _
        refine st_ext0 (st_asI (st_ext1 (st_asB (bif_t rfl (bad hx A.upd (by rw [hd]))))))
      | some n =>
        rw [hx2] at hd
        simp only at hd
        unfold NOut
        show pExtract 0 (.tu [.i .i64 (n : Int), .b true]) _
        refine st_ext0 (st_asI (st_ext1 (st_asB (bif_f rfl ?_))))
        refine NewA.build A (by decide) (ns := [num n]) rfl rfl rfl (by omega) (by omega) fun v' h' A' => inc (by omega) (ih (i + 1) (done ++ [n]) v' h' hn (by omega) (by simp [hdl]) ?_ ?_)
        · rw [hd]
          cases decAll r with
          | none => rfl
          | some l => simp
        · rw [List.map_append, List.length_append]; exact A'
  exact go ws 0 [] _ h2 rfl (by omega) rfl (by cases decAll ws <;> simp) (NewA.start 1 h2)

end
end Go.Proofs.YtffgchcidkapjaaDoor

