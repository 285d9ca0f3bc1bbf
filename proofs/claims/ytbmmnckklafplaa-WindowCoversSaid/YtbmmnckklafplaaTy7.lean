/- WindowGaps. -/
import Derived.Test.YtbmmnckklafplaaTy6
set_option linter.unusedVariables false
set_option linter.unusedSimpArgs false
set_option linter.unusedSectionVars false
set_option maxRecDepth 20000
namespace Go.Proofs.Ytbmmnckklafplaa
open Go.GAM Go.RowKit

def shift (n : Nat) (b : Bf) : Bf := (b.1, b.2.1, b.2.2.1 + n, b.2.2.2)

theorem outsL_shift (k d : Int) (S : List UInt8) (n m : Nat) : outsL k d S 0 n m = (outsL k d S 0 0 m).map (shift n) := by
  simp only [outsL, List.map_map]
  refine List.map_congr_left fun i _ => ?_
  simp [shift]; omega
theorem gapL_shift (k d : Int) (n ix dn : Nat) (l : List UInt8) : gapL k d (n + ix) dn l = (gapL k d ix dn l).map (shift n) := by
  unfold gapL
  split
  · simp [shift]; omega
  · rfl

theorem WIN.fresh {M M' M0 : Nat → Prop} {h h' : AHeap} {id : Nat} {k d : Int} {ix dn : Nat} {l : List UInt8} (W : WIN M h id k d ix dn l) (U : Upd M0 h h') (h1 : ¬ M0 id) (h2 : ∀ i, i < h.length → M0 i → M i) (h3 : ∀ i, M' i → M i ∨ h.length ≤ i) : WIN M' h' id k d ix dn l := by
  obtain ⟨bv, R, B, F⟩ := W
  exact ⟨bv, R.upd U h1, Rd.upd B U fun i hi hm => (F i hi).2 (h2 i (Rd.lt B hi) hm), fun j hj => ⟨(F j hj).1, fun hm => by
    rcases h3 j hm with h | h
    · exact (F j hj).2 h
    · have := Rd.lt B hj; omega⟩⟩

theorem Gaps_p2 {h0 h : AHeap} : G_law40_WindowGaps.p2 (kRet h0 Yes) true h := by
  refine G_law40_WindowGaps.i2 ?_
  simp only [G_law40_WindowGaps.t2]
  exact kRet_yes

theorem Gaps_p1 {h0 : AHeap} {got more : AV} {A B : List Bf} (hB : B.length ≤ 100) (hA : A.length ≤ 100) (hBx : ∀ b ∈ B, 0 ≤ b.2.2.1 ∧ b.2.2.1 ≤ 100) : ∀ (m i : Nat) (want : AV) (h : AHeap), i + m = B.length →
    Rd 4 h got (encs (A ++ B.map (shift A.length))) (A ++ B.map (shift A.length)).length → Rd 4 h more (encs B) B.length → Arr 4 h want (encs (A ++ (B.take i).map (shift A.length))) (A ++ (B.take i).map (shift A.length)).length →
    (∀ j, SlAt want j → ¬ SlAt got j ∧ ¬ SlAt more j) → G_law40_WindowGaps.p1 (kRet h0 Yes) got want A.length more i h := by
  intro m
  induction m with
  | zero =>
    intro i want h hi Rg Rm Aw F
    refine G_law40_WindowGaps.i1 ?_
    simp only [G_law40_WindowGaps.t1, G_law40_WindowGaps.j1, G_law40_WindowGaps.j2]
    refine Rm.len (bif_f (by simp; omega) ?_)
    rw [List.take_of_length_le (by omega)] at Aw
    refine Same_c Rg Aw.rd (by simp; omega) (st_asB (bif_t rfl ?_))
    exact awake_c (st_asB Gaps_p2)
  | succ m ih =>
    intro i want h hi Rg Rm Aw F
    have hlt : i < B.length := by omega
    have he := encs_at (List.getElem?_eq_getElem hlt)
    obtain ⟨hx0, hx1⟩ := hBx B[i] (List.getElem_mem hlt)
    generalize hb : B[i] = b at he hx0 hx1
    obtain ⟨b1, b2, b3, b4⟩ := b
    simp only at hx0 hx1
    refine G_law40_WindowGaps.i1 ?_
    simp only [G_law40_WindowGaps.t1, G_law40_WindowGaps.j1, G_law40_WindowGaps.j2]
    refine Rm.len (bif_t (by simp; omega) ?_)
    refine Rm.elem (by omega) (by omega) ?_
    rw [Int.toNat_natCast, he]
    refine st_alloc fun h1 hl1 U1 O1 => ?_
    refine st_storeN O1 rfl rfl rfl fun h2 hl2 U2 O2 => ?_
    refine st_fld (st_load O2 rfl rfl (st_asI64 ?_))
    refine st_fld (st_load O2 rfl rfl (st_asI64 ?_))
    refine st_fld (st_load O2 rfl rfl (st_asI64 ?_))
    refine withI_is (n := b3 + A.length) (@wrap_i64 (b3 + A.length) (by omega) (by omega)) ?_
    refine st_fld (st_load O2 rfl rfl (st_asS ?_))
    have U12 : Upd (fun _ => False) h h2 := U1.trans U2 fun j hj e => by omega
    have Aw2 := Aw.upd U12 fun _ _ h => h
    have hlen : (A ++ (B.take i).map (shift A.length)).length ≤ 200 := by simp; omega
    refine Aw2.push (x := .ag (encB (b1, b2, b3 + A.length, b4))) (by decide) rfl rfl rfl (by omega) (by omega) fun v' h3 U3 A3 F3 => ?_
    refine withI_is (n := ((i + 1 : Nat) : Int)) (by rw [wrap_i64 (by omega) (by omega)]; omega) ?_
    have hcat : encs (A ++ (B.take (i + 1)).map (shift A.length)) = encs (A ++ (B.take i).map (shift A.length)) ++ (AV.ag (encB (b1, b2, b3 + A.length, b4))).parts := by
      rw [List.take_add_one, List.getElem?_eq_getElem hlt, hb, Option.toList_some, List.map_append, ← List.append_assoc, encs_app]
      simp [encs, shift, AV.parts]
    have hcl : (A ++ (B.take (i + 1)).map (shift A.length)).length = (A ++ (B.take i).map (shift A.length)).length + 1 := by simp; omega
    refine ih (i + 1) v' h3 (by omega) ((Rg.upd U12 fun _ _ h => h).upd U3 fun j hj hs => (F j hs).1 hj) ((Rm.upd U12 fun _ _ h => h).upd U3 fun j hj hs => (F j hs).2 hj) (by rw [hcat, hcl]; exact A3) fun j hj => ?_
    rcases F3 j hj with h | h
    · exact F j h
    · have := U12.1
      exact ⟨fun hs => by have := Rg.lt hs; omega, fun hs => by have := Rm.lt hs; omega⟩

theorem Gaps_p0t {h0 h : AHeap} {a b : Int} : G_law40_WindowGaps.p0 (kRet h0 Yes) a b true h := by
  refine G_law40_WindowGaps.i0 ?_
  simp only [G_law40_WindowGaps.t0, G_law40_WindowGaps.j1]
  exact bif_t rfl (awake_c (st_asB kRet_yes))

theorem allL_ix (k d : Int) (s : List UInt8) : ∀ b ∈ allL k d s, 0 ≤ b.2.2.1 ∧ b.2.2.1 ≤ nw s.length := by
  intro b hb
  unfold allL outsL gapL at hb
  rcases List.mem_append.1 hb with h | h
  · obtain ⟨i, hi, rfl⟩ := List.mem_map.1 h
    have := List.mem_range.1 hi
    simp only; omega
  · split at h
    · simp at h; subst h; simp only; omega
    · simp at h

theorem WindowGaps_c {h : AHeap} {a b : Int} (ha : 0 ≤ a) (hb : 0 ≤ b) : C G_law40_WindowGaps.id [.i .u16 a, .i .u16 b] h Yes := by
  refine G_law40_WindowGaps.call ?_
  simp only [G_law40_WindowGaps.t, G_law40_WindowGaps.j0]
  refine bif_both (fun e => Gaps_p0t) fun e => ?_
  by_cases hb3 : (3000 : Int) < b
  · rw [decide_eq_true hb3]; exact Gaps_p0t
  rw [decide_eq_false hb3]
  simp only [decide_eq_false_iff_not] at e
  obtain ⟨n, rfl⟩ : ∃ n : Nat, a = n := ⟨a.toNat, by omega⟩
  obtain ⟨m, rfl⟩ : ∃ m : Nat, b = m := ⟨b.toNat, by omega⟩
  refine G_law40_WindowGaps.i0 ?_
  simp only [G_law40_WindowGaps.t0, G_law40_WindowGaps.j1]
  refine bif_f rfl ?_
  rw [wrap_i64 (by omega) (by omega), wrap_i64 (by omega) (by omega)]
  refine text_c (n := n) (s := 3) (by omega) (by omega) (by omega) (st_asS ?_)
  refine text_c (n := m) (s := 4) (by omega) (by omega) (by omega) (st_asS ?_)
  have hl := textS_len n 3
  generalize textS n 3 = s at hl ⊢
  have hl' := textS_len m 4
  generalize textS m 4 = s' at hl' ⊢
  have hn1 : nw s.length ≤ 8 := by unfold nw; omega
  have hn2 : nw s'.length ≤ 8 := by unfold nw; omega
  refine New_c fun h1 hl1 U1 R1 => eqNil26 (st_asB (bif_f rfl ?_))
  have W1 : WIN (fun _ => False) h1 h.length 2 1 0 (nw ([] : List UInt8).length) (([] : List UInt8).drop (nw ([] : List UInt8).length * 512)) := ⟨_, R1, .inl ⟨rfl, rfl, rfl⟩, fun _ h => h.elim⟩
  refine Feed_c W1 (by omega) (by simp; omega) fun v2 h2 U2 W2 A2 F2 => ?_
  simp only [List.nil_append, List.length_nil, show nw 0 = 0 from rfl, Nat.zero_add, Nat.sub_zero] at W2 A2
  refine (Arr.nil 4 h2).append (by decide) (fun K hK => A2.rd.news hK) (by rw [encs_len, outsL_len]) (encs_ok _) (by omega) (by omega) fun v3 h3 U3 A3 F3 => ?_
  have hF3 : ∀ i, SlAt v3 i → h2.length ≤ i := fun i hi => (F3 i hi).resolve_left fun h => h
  have W3 : WIN (SlAt v3) h3 h.length 2 1 _ _ _ := W2.fresh U3 (fun h => h) (fun _ _ h => h.elim) fun i hi => .inr (hF3 i hi)
  have hw2 : h.length < h2.length := by have := U2.1; omega
  refine Gap_c W3 (by omega) (by rw [List.length_drop]; omega) fun v4 h4 U4 R4 A4 F4 => ?_
  have hg1 := gapL_len 2 1 (nw s.length) (nw s.length) (s.drop (nw s.length * 512))
  have A34 := A3.upd U4 fun i hi e => by have := hF3 i hi; omega
  refine A34.append (by decide) (fun K hK => A4.rd.news hK) (encs_len _) (encs_ok _) (by omega) (by omega) fun v5 h5 U5 A5 F5 => ?_
  have hF5 : ∀ i, SlAt v5 i → h2.length ≤ i := fun i hi => by
    rcases F5 i hi with h | h
    · exact hF3 i h
    · have := U3.1; have := U4.1; omega
  have R5 := R4.upd U5 fun hs => by have := hF3 _ hs; omega
  have W5 : WIN (SlAt v5) h5 h.length 2 1 (nw s.length + (gapL 2 1 (nw s.length) (nw s.length) (s.drop (nw s.length * 512))).length) (nw ([] : List UInt8).length) (([] : List UInt8).drop (nw ([] : List UInt8).length * 512)) := ⟨_, R5, .inl ⟨rfl, rfl, rfl⟩, fun _ h => h.elim⟩
  refine Feed_c W5 (by omega) (by simp; omega) fun v6 h6 U6 W6 A6 F6 => ?_
  simp only [List.nil_append, List.length_nil, show nw 0 = 0 from rfl, Nat.zero_add, Nat.sub_zero] at W6 A6
  have A56 := A5.upd U6 fun i hi e => by have := hF5 i hi; omega
  refine A56.append (by decide) (fun K hK => A6.rd.news hK) (by rw [encs_len, outsL_len]) (encs_ok _) (by omega) (by omega) fun v7 h7 U7 A7 F7 => ?_
  have hF7 : ∀ i, SlAt v7 i → h2.length ≤ i ∧ (SlAt v5 i ∨ h6.length ≤ i) := fun i hi => by
    rcases F7 i hi with h | h
    · exact ⟨hF5 i h, .inl h⟩
    · have := U3.1; have := U4.1; have := U5.1; have := U6.1; exact ⟨by omega, .inr h⟩
  have W7 : WIN (SlAt v7) h7 h.length 2 1 _ _ _ := W6.fresh U7 (fun hs => by have := hF5 _ hs; omega) (fun i hi hs => .inl ⟨by
      rcases A5 with ⟨rfl, _⟩ | ⟨id, b, rfl, hb, _⟩
      · exact hs.elim
      · cases hs; exact lt_of_some hb, hs⟩) fun i hi => by
    rcases (hF7 i hi).2 with h | h
    · exact .inl (.inl ⟨by
        rcases A5 with ⟨rfl, _⟩ | ⟨id, b, rfl, hb, _⟩
        · exact h.elim
        · cases h; exact lt_of_some hb, h⟩)
    · exact .inr h
  refine Close_c W7 (by omega) (by rw [List.length_drop]; omega) fun v8 h8 U8 R8 A8 F8 => ?_
  have A78 := A7.upd U8 fun i hi e => by have := (hF7 i hi).1; omega
  have hg2 := gapL_len 2 1 (nw s.length + (gapL 2 1 (nw s.length) (nw s.length) (s.drop (nw s.length * 512))).length + nw s'.length) (nw s'.length) (s'.drop (nw s'.length * 512))
  refine A78.append (by decide) (fun K hK => A8.rd.news hK) (encs_len _) (encs_ok _) (by omega) (by omega) fun v9 h9 U9 A9 F9 => ?_
  refine All_c (by omega) fun v10 h10 U10 A10 F10 => A10.rd.len ?_
  refine All_c (by omega) fun v11 h11 U11 A11 F11 => ?_
  have A9' := (A9.upd U10 fun _ _ h => h).upd U11 fun _ _ h => h
  have A10' := A10.upd U11 fun _ _ h => h
  have hla : (allL 2 1 s).length = nw s.length + (gapL 2 1 (nw s.length) (nw s.length) (s.drop (nw s.length * 512))).length := by unfold allL; rw [List.length_append, outsL_len]
  have hlb : (allL 2 1 s').length ≤ nw s'.length + 1 := by unfold allL; rw [List.length_append, outsL_len]; have := gapL_len 2 1 (nw s'.length) (nw s'.length) (s'.drop (nw s'.length * 512)); omega
  have hcells : encs (allL 2 1 s ++ (allL 2 1 s').map (shift (allL 2 1 s).length)) =
      [] ++ encs (outsL 2 1 s 0 0 (nw s.length)) ++ encs (gapL 2 1 (nw s.length) (nw s.length) (s.drop (nw s.length * 512))) ++ encs (outsL 2 1 s' 0 (nw s.length + (gapL 2 1 (nw s.length) (nw s.length) (s.drop (nw s.length * 512))).length) (nw s'.length)) ++
      encs (gapL 2 1 (nw s.length + (gapL 2 1 (nw s.length) (nw s.length) (s.drop (nw s.length * 512))).length + nw s'.length) (nw s'.length) (s'.drop (nw s'.length * 512))) := by
    rw [hla, outsL_shift 2 1 s', gapL_shift]
    unfold allL
    simp only [List.map_append, encs_app, List.nil_append, List.append_assoc]
  have hlens : (allL 2 1 s ++ (allL 2 1 s').map (shift (allL 2 1 s).length)).length = 0 + nw s.length + (gapL 2 1 (nw s.length) (nw s.length) (s.drop (nw s.length * 512))).length + nw s'.length +
      (gapL 2 1 (nw s.length + (gapL 2 1 (nw s.length) (nw s.length) (s.drop (nw s.length * 512))).length + nw s'.length) (nw s'.length) (s'.drop (nw s'.length * 512))).length := by
    rw [List.length_append, List.length_map, hla, gapL_shift, List.length_map]
    unfold allL
    rw [List.length_append, outsL_len]; omega
  have hlt9 : ∀ j, SlAt v9 j → j < h9.length := fun j hj => Rd.lt A9.rd hj
  refine Gaps_p1 (A := allL 2 1 s) (B := allL 2 1 s') (by omega) (by omega) (fun b hb => by have := allL_ix 2 1 s' b hb; omega) (allL 2 1 s').length 0 v10 h11 (by omega) ?_ A11.rd ?_ fun j hj => ⟨fun hs => ?_, fun hs => ?_⟩
  · rw [hcells, hlens]; exact A9'.rd
  · simpa using A10'
  · have := hlt9 j hs; have := F10 j hj; omega
  · have := F11 j hs; have := Rd.lt A10.rd hj; omega

theorem walk_WindowGaps {a b : Int} (W : World) (w0 : (Lit.int .u16 a).wf = true) (w1 : (Lit.int .u16 b).wf = true) : Calls prog 4 #[.int .u16 a, .int .u16 b] W fun e w' => e = .returned (.bool true) ∧ Below W.heap.size W w' := by
  have f0 : 0 ≤ a := by simp [Lit.wf, IntKind.min, IntKind.signed] at w0; omega
  have f1 : 0 ≤ b := by simp [Lit.wf, IntKind.min, IntKind.signed] at w1; omega
  exact law_calls mixedOK sizeOK soundX (by kernel_rfl) (szOf := fun _ => 1) (.cons _ _ _ _ (.i _ _) (.cons _ _ _ _ (.i _ _) .nil)) (WindowGaps_c f0 f1)

end Go.Proofs.Ytbmmnckklafplaa
