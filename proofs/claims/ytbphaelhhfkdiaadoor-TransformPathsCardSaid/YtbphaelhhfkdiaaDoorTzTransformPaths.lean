/- TransformPaths. -/
import Derived.Test.YtbphaelhhfkdiaaDoorTy8
import Derived.Test.YtbphaelhhfkdiaaDoorAm22
import Derived.Test.YtbphaelhhfkdiaaDoorRows
import Derived.Test.YtbphaelhhfkdiaaDoorTlTransformPaths
set_option linter.unusedVariables false
set_option linter.unusedSimpArgs false
set_option linter.unusedSectionVars false
set_option maxRecDepth 20000
namespace Go.Proofs.YtbphaelhhfkdiaaDoor
open Go.GAM Go.RowKit

/-! ### the plain law -/

theorem path_words {W segs : List (List UInt8)} (hW : W ≠ []) (hm : ∀ w ∈ W, 47 ∉ w ∧ 63 ∉ w) (hf : W.foldl stepP [] = segs) (hs : segs ≠ []) (hl : ¬ special (W.getLastD [])) : pathS (Lib.joinTail [47] W) = Lib.joinTail [47] segs := by
  have h63 : 63 ∉ Lib.joinTail [47] W := fun h => by
    rcases mem_joinTail h with h | ⟨x, hx, h⟩
    · cases h
    · exact (hm x hx).2 h
  have e := path_app (a := Lib.joinTail [47] W) (q := []) h63 (.inl rfl)
  rw [List.append_nil, List.append_nil] at e
  rw [e]
  cases W with
  | nil => exact absurd rfl hW
  | cons w W =>
    have e1 : Lib.joinTail [47] (w :: W) = 47 :: (w ++ Lib.joinTail [47] W) := by simp [Lib.joinTail]
    have hsp : splitS (Lib.joinTail [47] (w :: W)) = [] :: w :: W := by
      have := split_join W w false (hm w (by simp)).1 fun x hx => (hm x (by simp [hx])).1
      rw [if_neg (by simp), if_neg (by simp), List.append_nil, List.append_nil] at this
      rw [e1, splitS, if_pos rfl, this]
    have hk : keptS (Lib.joinTail [47] (w :: W)) = segs := by
      unfold keptS; rw [hsp, List.foldl_cons, step_nil]; exact hf
    have hlast : lastS (Lib.joinTail [47] (w :: W)) = (w :: W).getLastD [] := by
      unfold lastS
      rw [hsp, List.getLastD_eq_getLast?, List.getLastD_eq_getLast?, List.getLast?_cons_of_ne_nil (by simp)]
    have hp : pre (Lib.joinTail [47] (w :: W)) = [47] := by unfold pre; rw [e1]; simp
    unfold bodyS
    rw [hk, hlast, hp, if_neg (fun h => hl h.2), List.append_nil]
    cases segs with
    | nil => exact absurd rfl hs
    | cons a r =>
      rw [Lib.join_cons]
      unfold orRoot
      rw [if_neg (by simp)]
      simp [Lib.joinTail]

def lower (a : List UInt8) : Prop := a ≠ [] ∧ ∀ c ∈ a, 97 ≤ c.toNat ∧ c.toNat ≤ 122
theorem lower_not {a : List UInt8} (h : lower a) {c : UInt8} (hc : c.toNat < 97) : c ∉ a := fun hm => by have := h.2 c hm; omega
theorem lower_clean {a : List UInt8} (h : lower a) : clean a := by
  refine ⟨h.1, fun e => ?_, fun e => ?_, lower_not h (by decide)⟩
  · exact lower_not h (c := 46) (by decide) (by rw [e]; simp)
  · exact lower_not h (c := 46) (by decide) (by rw [e]; simp)

/-- What is known of the two texts behind some segments. -/
structure PInv (segs : List (List UInt8)) (x5 x6 : List UInt8) : Prop where
  low : ∀ a ∈ segs, lower a
  five : x5 = Lib.joinTail [47] segs
  six : ∃ W : List (List UInt8), x6 = Lib.joinTail [47] W ∧ (∀ w ∈ W, 47 ∉ w ∧ 63 ∉ w) ∧ W.foldl stepP [] = segs ∧ (segs ≠ [] → W ≠ [] ∧ ¬ special (W.getLastD []))

theorem PInv.start : PInv [] [] [] := ⟨by simp, rfl, [], rfl, by simp, rfl, fun h => absurd rfl h⟩
theorem joinTail_app (a b : List (List UInt8)) : Lib.joinTail [47] (a ++ b) = Lib.joinTail [47] a ++ Lib.joinTail [47] b := by simp [Lib.joinTail]
theorem clean_spec {a : List UInt8} (h : clean a) : ¬ special a := by simp [special, h.1, h.2.1, h.2.2.1]
theorem PInv.step {segs : List (List UInt8)} {x5 x6 a t : List UInt8} {ws : List (List UInt8)} (I : PInv segs x5 x6) (ha : lower a) (ht : t = Lib.joinTail [47] ws) (hm : ∀ w ∈ ws, 47 ∉ w ∧ 63 ∉ w) (hf : ws.foldl stepP segs = segs) :
    PInv (segs ++ [a]) (x5 ++ [47] ++ a) (x6 ++ (t ++ [47]) ++ a) := by
  obtain ⟨W, h1, h2, h3, h4⟩ := I.six
  have hc := lower_clean ha
  refine ⟨fun b hb => ?_, ?_, W ++ (ws ++ [a]), ?_, fun w hw => ?_, ?_, fun _ => ⟨by simp, ?_⟩⟩
  · rcases List.mem_append.1 hb with h | h
    · exact I.low b h
    · simp at h; subst h; exact ha
  · rw [joinTail_app, I.five]; simp [Lib.joinTail]
  · rw [joinTail_app, joinTail_app, h1, ht]; simp [Lib.joinTail]
  · rcases List.mem_append.1 hw with h | h
    · exact h2 w h
    · rcases List.mem_append.1 h with h | h
      · exact hm w h
      · simp at h; subst h; exact ⟨lower_not ha (by decide), lower_not ha (by decide)⟩
  · rw [List.foldl_append, h3, List.foldl_append, hf]
    exact step_clean hc
  · rw [← List.append_assoc, List.getLastD_eq_getLast?, List.getLast?_concat]
    exact clean_spec hc
theorem PInv.fin {segs : List (List UInt8)} {x5 x6 : List UInt8} (I : PInv segs x5 x6) (hs : segs ≠ []) : applyS 5 x6 = x5 ∧ applyS 5 x5 = x5 := by
  obtain ⟨W, h1, h2, h3, h4⟩ := I.six
  obtain ⟨h5, h6⟩ := h4 hs
  constructor
  · show pathS x6 = x5
    rw [h1, I.five]
    exact path_words h5 h2 h3 hs h6
  · show pathS x5 = x5
    rw [I.five]
    refine path_words hs (fun w hw => ⟨lower_not (I.low w hw) (by decide), lower_not (I.low w hw) (by decide)⟩) ?_ hs ?_
    · have := fold_clean segs [] fun a ha => lower_clean (I.low a ha)
      simpa using this
    · rw [List.getLastD_eq_getLast?, List.getLast?_eq_some_getLast hs]
      exact clean_spec (lower_clean (I.low _ (List.getLast_mem hs)))

/-! ### the walk -/

section
variable {h h0 : AHeap} {x0 x1 : AV} {segs : List (List UInt8)} {ch : List UInt8}

theorem Pt_p6 : G_law26_TransformPaths.p6 (kRet h0 Yes) true h := by
  refine G_law26_TransformPaths.i6 ?_
  simp only [G_law26_TransformPaths.t6]
  exact kRet_yes

theorem take_snoc {α : Type} {l : List α} {i : Nat} {c : α} (hc : l[i]? = some c) : l.take (i + 1) = l.take i ++ [c] := by
  rw [List.take_add_one, hc]; rfl

/-- The inner loop: the characters; then the two texts grow. -/
theorem Pt_p3 {i : Nat} {a x5 x6 : List UInt8} (R0 : Rd 1 h x0 (segs.map .s) segs.length) (R1 : Rd 1 h x1 (ch.map byteAV) ch.length) (hch : 0 < ch.length ∧ ch.length ≤ 40) (hsl : segs.length ≤ 20) (ha : segs[i]? = some a) (ha0 : a ≠ []) (hal : a.length ≤ 20) (h5 : x5.length ≤ 21 * i) (h6 : x6.length ≤ 26 * i) (I : PInv (segs.take i) x5 x6)
    (hk : ∀ x5 x6, x5.length ≤ 21 * (i + 1) → x6.length ≤ 26 * (i + 1) → PInv (segs.take (i + 1)) x5 x6 → G_law26_TransformPaths.p5 (kRet h0 Yes) x0 x1 x5 x6 segs.length i h) :
    ∀ (r : List UInt8) (j : Nat), a.drop j = r → j ≤ a.length → (∀ c ∈ a.take j, 97 ≤ c.toNat ∧ c.toNat ≤ 122) → G_law26_TransformPaths.p3 (kRet h0 Yes) x0 x1 x5 x6 i j segs.length i h := by
  intro r
  induction r with
  | nil =>
    intro j hr hj hl
    have hle := drop_end hr
    have hlow : lower a := ⟨ha0, by rwa [List.take_of_length_le hle] at hl⟩
    have hi := lt_of_some ha
    refine G_law26_TransformPaths.i3 ?_
    simp only [G_law26_TransformPaths.t3, G_law26_TransformPaths.j6]
    refine R0.str ha (bif_f (by simp; omega) ?_)
    refine ⟨by simp; omega, R0.str ha ⟨by simp; omega, R1.len ?_⟩⟩
    have hrem : i % ch.length < ch.length := Nat.mod_lt _ hch.1
    refine st_rem (n := ((i % ch.length : Nat) : Int)) (by omega) (by rw [Int.tmod_eq_emod_of_nonneg (by omega)]; rfl) ?_
    obtain ⟨c, hc⟩ : ∃ c, ch[i % ch.length]? = some c := ⟨_, List.getElem?_eq_getElem hrem⟩
    refine R1.byte hc ?_
    refine st_rem (n := ((c.toNat % 4 : Nat) : Int)) (by omega) (by rw [Int.tmod_eq_emod_of_nonneg (by omega)]; rfl) ?_
    have fin : ∀ (t : List UInt8) (ws : List (List UInt8)), t = Lib.joinTail [47] ws → t.length ≤ 5 → (∀ w ∈ ws, 47 ∉ w ∧ 63 ∉ w) → ws.foldl stepP (segs.take i) = segs.take i →
        pCat x6 (t ++ [47]) fun l => pIdxAddrSl 1 x0 (.i .i64 (i : Int)) h fun v73 => pLoad1 v73 h fun v74 => asS v74 fun l75 => pCat l l75 fun l76 => G_law26_TransformPaths.p5 (kRet h0 Yes) x0 x1 (x5 ++ [47] ++ a) l76 segs.length i h := by
      intro t ws ht htl hm hf
      refine ⟨by simp; omega, R0.str ha ⟨by simp; omega, ?_⟩⟩
      refine hk _ _ (by simp; omega) (by simp; omega) ?_
      rw [take_snoc ha]
      exact I.step hlow ht hm hf
    refine bif_both (fun e => ?_) fun e => ?_
    · exact fin [47] [[]] rfl (by simp) (by simp) (by simp [step_nil])
    refine bif_both (fun e => ?_) fun e => ?_
    · exact fin [47, 46] [[46]] rfl (by simp) (by simp) (by simp [stepP])
    refine bif_both (fun e => ?_) fun e => ?_
    · exact fin [47, 120, 47, 46, 46] [[120], [46, 46]] rfl (by simp) (by simp) (by simp [stepP])
    · exact fin [] [] rfl (by simp) (by simp) rfl
  | cons c r ih =>
    intro j hr hj hl
    have hlt := drop_lt hr
    have hn := drop_next hr
    have hcj : a[j]? = some c := by
      have : (a.drop j)[0]? = some c := by rw [hr]; rfl
      simpa using this
    refine G_law26_TransformPaths.i3 ?_
    simp only [G_law26_TransformPaths.t3, G_law26_TransformPaths.j5]
    refine R0.str ha (bif_t (by simp; omega) (R0.str ha (st_at hr ?_)))
    have key : ∀ b, b = decide (c.toNat < 97 ∨ 122 < c.toNat) → G_law26_TransformPaths.p4 (kRet h0 Yes) x0 x1 x5 x6 i j segs.length i b h := by
      intro b hb
      refine G_law26_TransformPaths.i4 ?_
      simp only [G_law26_TransformPaths.t4, G_law26_TransformPaths.j4]
      refine bif_both (fun e => awake_c (st_asB kRet_yes)) fun e => ?_
      subst e
      have hcc : ¬ (c.toNat < 97 ∨ 122 < c.toNat) := by simpa using hb.symm
      refine inc (by omega) (ih (j + 1) hn (by omega) ?_)
      intro d hd
      rw [take_snoc hcj] at hd
      rcases List.mem_append.1 hd with h | h
      · exact hl d h
      · simp at h; subst h; omega
    refine bif_both (fun e => key _ ?_) fun e => R0.str ha (st_at hr (key _ ?_))
    · simp only [decide_eq_true_eq] at e
      symm; simp; omega
    · simp only [decide_eq_false_iff_not] at e
      rw [decide_eq_decide]; omega

theorem Pt_p1 (R0 : Rd 1 h x0 (segs.map .s) segs.length) (R1 : Rd 1 h x1 (ch.map byteAV) ch.length) (hch : 0 < ch.length ∧ ch.length ≤ 40) (hsl : 0 < segs.length ∧ segs.length ≤ 20) :
    ∀ (r : List (List UInt8)) (i : Nat) (x5 x6 : List UInt8), segs.drop i = r → i ≤ segs.length → x5.length ≤ 21 * i → x6.length ≤ 26 * i → PInv (segs.take i) x5 x6 → G_law26_TransformPaths.p1 (kRet h0 Yes) x0 x1 x5 x6 segs.length i h := by
  intro r
  induction r with
  | nil =>
    intro i x5 x6 hr hi h5 h6 I
    have hle := drop_end hr
    have hi' : i = segs.length := by omega
    refine G_law26_TransformPaths.i1 ?_
    simp only [G_law26_TransformPaths.t1, G_law26_TransformPaths.j2, G_law26_TransformPaths.j6]
    rw [List.take_of_length_le hle] at I
    obtain ⟨f1, f2⟩ := I.fin (fun h => by rw [h] at hsl; simp at hsl)
    refine bif_f (by simp; omega) (apply_c (by omega) (st_asS (bif_t (decide_eq_true f1) (apply_c (by omega) (st_asS (bif_t (decide_eq_true f2) (awake_c (st_asB Pt_p6))))))))
  | cons a r ih =>
    intro i x5 x6 hr hi h5 h6 I
    have hlt := drop_lt hr
    have hn := drop_next hr
    have ha : segs[i]? = some a := by
      have : (segs.drop i)[0]? = some a := by rw [hr]; rfl
      simpa using this
    refine G_law26_TransformPaths.i1 ?_
    simp only [G_law26_TransformPaths.t1, G_law26_TransformPaths.j2, G_law26_TransformPaths.j3]
    refine bif_t (by simp; omega) (R0.str ha ?_)
    have key : ∀ b, (b = true ∨ (a ≠ [] ∧ a.length ≤ 20)) → G_law26_TransformPaths.p2 (kRet h0 Yes) x0 x1 x5 x6 i segs.length i b h := by
      intro b hb
      refine G_law26_TransformPaths.i2 ?_
      simp only [G_law26_TransformPaths.t2, G_law26_TransformPaths.j4]
      refine bif_both (fun e => awake_c (st_asB kRet_yes)) fun e => ?_
      obtain ⟨a0, al⟩ := hb.resolve_left (by rw [e]; simp)
      refine Pt_p3 R0 R1 hch hsl.2 ha a0 al h5 h6 I (fun y5 y6 g5 g6 I' => ?_) a 0 rfl (by omega) (by simp)
      refine G_law26_TransformPaths.i5 ?_
      simp only [G_law26_TransformPaths.t5, G_law26_TransformPaths.j1]
      exact inc (by omega) (ih (i + 1) y5 y6 hn (by omega) g5 g6 I')
    refine bif_both (fun e => key _ (.inl rfl)) fun e => R0.str ha ?_
    have a0 : a ≠ [] := by simpa using e
    by_cases hal : a.length ≤ 20
    · exact key _ (.inr ⟨a0, hal⟩)
    · exact key _ (.inl (by simp; omega))

theorem paths_c (R0 : SArg 1 h x0 (segs.map .s) segs.length) (R1 : SArg 1 h x1 (ch.map byteAV) ch.length) : C G_law26_TransformPaths.id [x0, x1] h Yes := by
  refine G_law26_TransformPaths.call ?_
  simp only [G_law26_TransformPaths.t, G_law26_TransformPaths.j0]
  have key : ∀ b, (b = true ∨ (segs.length ≠ 0 ∧ segs.length ≤ 20 ∧ ch.length ≠ 0 ∧ ch.length ≤ 40)) → G_law26_TransformPaths.p0 (kRet h Yes) x0 x1 b h := by
    intro b hb
    refine G_law26_TransformPaths.i0 ?_
    simp only [G_law26_TransformPaths.t0, G_law26_TransformPaths.j1]
    refine bif_both (fun e => awake_c (st_asB kRet_yes)) fun e => R0.len ?_
    obtain ⟨b1, b2, b3, b4⟩ := hb.resolve_left (by rw [e]; simp)
    exact Pt_p1 (R0.rd b1) (R1.rd b3) ⟨by omega, b4⟩ ⟨by omega, b2⟩ segs 0 [] [] rfl (by omega) (by simp) (by simp) (by rw [List.take_zero]; exact PInv.start)
  refine R0.len ?_
  refine bif_both (fun e => key _ (.inl rfl)) fun e1 => R0.len ?_
  refine bif_both (fun e => key _ (.inl rfl)) fun e2 => R1.len ?_
  refine bif_both (fun e => key _ (.inl rfl)) fun e3 => R1.len ?_
  simp only [decide_eq_false_iff_not] at e1 e2 e3
  by_cases hc : ch.length ≤ 40
  · exact key _ (.inr ⟨by omega, by omega, by omega, hc⟩)
  · exact key _ (.inl (by simp; omega))
end

theorem walk_TransformPaths {H : Type} {enc : TypeId × Value → H} {b0 b1 : Option Addr} {l0 c0 l1 c1 : Nat} {d0 d1 : DataW H} {p0 p1 : List MemPlace} (W : World) (hL : laidMet Tryd.prog Rows.transformPathsRow.laid W)
    (k0 : DataW.Trod enc Tryd.prog W 0 (fun _ => true) true 26 (.slice b0 l0 c0) d0 p0) (k1 : DataW.Trod enc Tryd.prog W 0 (fun _ => true) true 27 (.slice b1 l1 c1) d1 p1) :
    Calls Tryd.prog 6 #[.slice b0 l0 c0, .slice b1 l1 c1] W fun e w' => e = .returned (.bool true) ∧ Below W.heap.size W w' := by
  obtain ⟨v0, s0, hv0, hs0⟩ := arg_strings (szOf := fun _ => 1) Tryd.underlying26 (by kernel_rfl) Tryd.underlying9 (fun _ => rfl) k0
  obtain ⟨v1, s1, hv1, hs1⟩ := arg_bytes (szOf := fun _ => 1) Tryd.underlying27 (by kernel_rfl) Tryd.underlying5 (fun _ => rfl) k1
  exact law_calls mixedOK sizeOK soundX (by kernel_rfl) (szOf := fun _ => 1) (.cons _ _ _ _ hv0 (.cons _ _ _ _ hv1 .nil)) (paths_c hs0 hs1)

end Go.Proofs.YtbphaelhhfkdiaaDoor
