/- TransformChains. -/
import Derived.Test.YtbphaelhhfkdiaaDoorTy8
import Derived.Test.YtbphaelhhfkdiaaDoorAm23
import Derived.Test.YtbphaelhhfkdiaaDoorRows
import Derived.Test.YtbphaelhhfkdiaaDoorTlTransformChains
set_option linter.unusedVariables false
set_option linter.unusedSimpArgs false
set_option linter.unusedSectionVars false
set_option maxRecDepth 20000
namespace Go.Proofs.YtbphaelhhfkdiaaDoor
open Go.GAM Go.RowKit

def allS (ks : List Int) (s : List UInt8) : List UInt8 := ks.foldl (fun s k => applyS k s) s
theorem allS_len : ∀ (ks : List Int) (s : List UInt8), (allS ks s).length ≤ s.length + ks.length
  | [], s => by simp [allS]
  | k :: ks, s => by
    have h1 := apply_len k s
    have h2 := allS_len ks (applyS k s)
    simp only [allS, List.foldl_cons, List.length_cons] at *
    omega
theorem allS_app (a b : List Int) (s : List UInt8) : allS (a ++ b) s = allS b (allS a s) := by simp [allS]

section
variable {h h0 : AHeap} {Q : AV → AHeap → Prop} {v : AV} {ks : List Int}

theorem all_p0 (R : Rd 1 h v (ks.map (.i .i64)) ks.length) (hk4 : ks.length ≤ 4) : ∀ (r : List Int) (i : Nat) (s : List UInt8), ks.drop i = r → s.length ≤ 50000 + i → Q (.s (allS r s)) h → G_transform_All.p0 (kRet h Q) s v ks.length i h := by
  intro r
  induction r with
  | nil =>
    intro i s hr hs hq
    have := drop_end hr
    refine G_transform_All.i0 ?_
    simp only [G_transform_All.t0]
    exact bif_f (by simp; omega) (.inl hq)
  | cons k r ih =>
    intro i s hr hs hq
    have hlt := drop_lt hr
    have hn := drop_next hr
    have hk : ks[i]? = some k := by
      have : (ks.drop i)[0]? = some k := by rw [hr]; rfl
      simpa using this
    have hl := apply_len k s
    refine G_transform_All.i0 ?_
    simp only [G_transform_All.t0, G_transform_All.j0]
    refine bif_t (by simp; omega) (R.int hk ?_)
    exact apply_c (by omega) (st_asS (inc (by omega) (ih (i + 1) _ hn (by omega) hq)))

theorem min4 (n : Nat) : mmI false (n : Int) 4 = ((min n 4 : Nat) : Int) := by
  unfold mmI
  simp only [cond_false]
  split <;> omega
theorem cut1 {α : Type} {l : List α} {n : Nat} : (l.take (n * 1)).drop (0 * 1) = l.take n := by simp

theorem all_c {s : List UInt8} (R : Rd 1 h v (ks.map (.i .i64)) ks.length) (hs : s.length ≤ 50000) (hq : Q (.s (allS (ks.take 4) s)) h) : C G_transform_All.id [v, .s s] h Q := by
  refine G_transform_All.call ?_
  simp only [G_transform_All.t, G_transform_All.j0]
  refine R.len ?_
  rw [min4]
  obtain ⟨v', R', hv'⟩ := R.cutAt Nat.one_pos (lo := none) (lo' := 0) (hi := min ks.length 4) (.inl ⟨rfl, rfl⟩) (by omega) (by omega)
  refine hv' _ (R'.len ?_)
  rw [cut1, ← List.map_take, Nat.sub_zero] at R'
  have e : ks.take (min ks.length 4) = ks.take 4 := by rw [Nat.min_comm, ← List.take_take, List.take_length]
  rw [e] at R'
  have hl : (ks.take 4).length = min ks.length 4 := by rw [List.length_take]; omega
  have := all_p0 (Q := Q) (ks := ks.take 4) (by rw [hl]; exact R') (by rw [hl]; omega) _ 0 s rfl (by omega) hq
  rw [hl] at this
  exact this

theorem Rall_p0 (R : Rd 1 h v (ks.map (.i .i64)) ks.length) : ∀ (r : List Int) (i : Nat) (s : List UInt8), (ks.take 4).drop i = r → i ≤ 4 → s.length ≤ 50000 + i → Q (.s (allS r s)) h → G_ref26_All.p0 (kRet h Q) v s i h := by
  have hl : (ks.take 4).length = min 4 ks.length := List.length_take
  intro r
  induction r with
  | nil =>
    intro i s hr hi hs hq
    have := drop_end hr
    refine G_ref26_All.i0 ?_
    simp only [G_ref26_All.t0, G_ref26_All.j1]
    have fin : G_ref26_All.p1 (kRet h Q) v s i false h := by
      refine G_ref26_All.i1 ?_
      simp only [G_ref26_All.t1]
      exact bif_f rfl (.inl hq)
    refine R.len (bif_both (fun e => ?_) fun e => fin)
    have : decide ((i : Int) < 4) = false := by
      simp only [decide_eq_true_eq] at e
      simp; omega
    rw [this]; exact fin
  | cons k r ih =>
    intro i s hr hi hs hq
    have hlt := drop_lt hr
    have hn := drop_next hr
    have hk : ks[i]? = some k := by
      have : ((ks.take 4).drop i)[0]? = some k := by rw [hr]; rfl
      rw [List.getElem?_drop, Nat.add_zero, List.getElem?_take_of_lt (by omega)] at this
      exact this
    have hl2 := apply_len k s
    refine G_ref26_All.i0 ?_
    simp only [G_ref26_All.t0, G_ref26_All.j1]
    refine R.len (bif_t (by simp; omega) ?_)
    rw [show decide ((i : Int) < 4) = true by simp; omega]
    refine G_ref26_All.i1 ?_
    simp only [G_ref26_All.t1, G_ref26_All.j0]
    refine bif_t rfl (R.int hk ?_)
    exact Rapply_c (by omega) (st_asS (inc (by omega) (ih (i + 1) _ hn (by omega) (by omega) hq)))
theorem Rall_c {s : List UInt8} (R : Rd 1 h v (ks.map (.i .i64)) ks.length) (hs : s.length ≤ 50000) (hq : Q (.s (allS (ks.take 4) s)) h) : C G_ref26_All.id [v, .s s] h Q := by
  refine G_ref26_All.call ?_
  simp only [G_ref26_All.t, G_ref26_All.j0]
  exact Rall_p0 R _ 0 s rfl (by omega) (by omega) hq

theorem minL (a n : Nat) : mmI false (a : Int) (n : Int) = ((min a n : Nat) : Int) := by
  unfold mmI
  simp only [cond_false]
  split <;> omega

theorem Ch_p0 {s : List UInt8} {b : Bool} {c : UInt8} (R : Rd 1 h v (ks.map (.i .i64)) ks.length) (hb : b = true ∨ s.length ≤ 3000) : G_law26_TransformChains.p0 (kRet h0 Yes) v s (c.toNat : Int) b h := by
  refine G_law26_TransformChains.i0 ?_
  simp only [G_law26_TransformChains.t0, G_law26_TransformChains.j1]
  refine bif_both (fun e => awake_c (st_asB kRet_yes)) fun e => ?_
  have hs := hb.resolve_left (by rw [e]; simp)
  have hc := c.toNat_lt
  refine all_c R (by omega) (st_asS (Rall_c R (by omega) (st_asS ?_)))
  refine bif_f (by simp) ?_
  rw [wrap_i64 (by omega) (by omega)]
  refine st_rem (n := ((c.toNat % 5 : Nat) : Int)) (by omega) (by rw [Int.tmod_eq_emod_of_nonneg (by omega)]; rfl) (R.len (R.len ?_))
  rw [minL, min4]
  have hm : c.toNat % 5 < 5 := Nat.mod_lt _ (by omega)
  generalize c.toNat % 5 = m at hm
  obtain ⟨va, Ra, ha⟩ := R.cutAt Nat.one_pos (lo := some (.i .i64 ((min m ks.length : Nat) : Int))) (lo' := min m ks.length) (hi := min ks.length 4) (.inr rfl) (by omega) (by omega)
  obtain ⟨vb, Rb, hb⟩ := R.cutAt Nat.one_pos (lo := none) (lo' := 0) (hi := min m ks.length) (.inl ⟨rfl, rfl⟩) (by omega) (by omega)
  rw [cut1, ← List.map_take, Nat.sub_zero] at Rb
  rw [Nat.mul_one, Nat.mul_one, ← List.map_take, ← List.map_drop] at Ra
  have lb : (ks.take (min m ks.length)).length = min m ks.length := by rw [List.length_take]; omega
  have la : ((ks.take (min ks.length 4)).drop (min m ks.length)).length = min ks.length 4 - min m ks.length := by rw [List.length_drop, List.length_take]; omega
  have Rb : Rd 1 h vb ((ks.take (min m ks.length)).map (.i .i64)) (ks.take (min m ks.length)).length := by rw [lb]; exact Rb
  have Ra : Rd 1 h va (((ks.take (min ks.length 4)).drop (min m ks.length)).map (.i .i64)) ((ks.take (min ks.length 4)).drop (min m ks.length)).length := by rw [la]; exact Ra
  have eb : (ks.take (min m ks.length)).take 4 = ks.take (min m ks.length) := List.take_of_length_le (by omega)
  have ea : ((ks.take (min ks.length 4)).drop (min m ks.length)).take 4 = (ks.take (min ks.length 4)).drop (min m ks.length) := List.take_of_length_le (by omega)
  have hl1 := allS_len (ks.take (min m ks.length)) s
  refine ha _ (hb _ (all_c Rb (by omega) (st_asS ?_)))
  rw [eb]
  refine ha _ ⟨rfl, all_c Ra (by omega) (st_asS ?_)⟩
  rw [ea, ← allS_app]
  have ee : ks.take (min m ks.length) ++ (ks.take (min ks.length 4)).drop (min m ks.length) = ks.take 4 := by
    have e4 : ks.take (min ks.length 4) = ks.take 4 := by rw [Nat.min_comm, ← List.take_take, List.take_length]
    rw [e4]
    have : ks.take (min m ks.length) = (ks.take 4).take (min m ks.length) := by rw [List.take_take]; congr 1; omega
    rw [this, List.take_append_drop]
  rw [ee]
  refine hb _ ⟨rfl, all_c R (by omega) (st_asS (hb _ ⟨rfl, ha _ ⟨rfl, bif_t (by simp) (awake_c (st_asB (hb _ ⟨rfl, ha _ ⟨rfl, ?_⟩⟩)))⟩⟩))⟩
  refine G_law26_TransformChains.i1 ?_
  simp only [G_law26_TransformChains.t1]
  exact kRet_yes

theorem chains_c {s : List UInt8} {c : UInt8} (R : Rd 1 h v (ks.map (.i .i64)) ks.length) : C G_law26_TransformChains.id [v, .s s, .i .u8 (c.toNat : Int)] h Yes := by
  refine G_law26_TransformChains.call ?_
  simp only [G_law26_TransformChains.t, G_law26_TransformChains.j0]
  refine long_c (st_asB ?_)
  refine bif_both (fun e => Ch_p0 R (.inl rfl)) fun e => R.len ?_
  exact Ch_p0 R (.inr (by simp only [decide_eq_false_iff_not] at e; omega))
end

theorem walk_TransformChains {H : Type} {enc : TypeId × Value → H} {b0 : Option Addr} {l0 c0 : Nat} {s : ByteArray} {n : Int} {d0 : DataW H} {p0 : List MemPlace} (W : World) (hL : laidMet Tryd.prog Rows.transformChainsRow.laid W)
    (k0 : DataW.Trod enc Tryd.prog W 0 (fun _ => true) true 29 (.slice b0 l0 c0) d0 p0) (w1 : s.size ≤ maxLen) (w2 : (Lit.int .u8 n).wf = true) :
    Calls Tryd.prog 7 #[.slice b0 l0 c0, .string s, .int .u8 n] W fun e w' => e = .returned (.bool true) ∧ Below W.heap.size W w' := by
  obtain ⟨v0, s0, hv0, hs0, _⟩ := argL_ints (szOf := fun _ => 1) (laid_live hL) Tryd.underlying29 (by kernel_rfl) Tryd.underlying3 (fun _ => rfl) k0
  have hn := u8_bd w2
  rw [u8_of hn.1 hn.2]
  exact law_calls mixedOK sizeOK soundX (by kernel_rfl) (szOf := fun _ => 1) (.cons _ _ _ _ hv0 (.cons _ _ _ _ (.s _ _ rfl) (.cons _ _ _ _ (.i _ _) .nil))) (chains_c hs0)

end Go.Proofs.YtbphaelhhfkdiaaDoor
