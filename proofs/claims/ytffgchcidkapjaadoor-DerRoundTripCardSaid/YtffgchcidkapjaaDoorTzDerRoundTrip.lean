/- DerRoundTrip. -/
import Derived.Test.YtffgchcidkapjaaDoorTyf
import Derived.Test.YtffgchcidkapjaaDoorTlDerRoundTrip
set_option linter.unusedVariables false
set_option linter.unusedSimpArgs false
set_option linter.unusedSectionVars false
set_option maxRecDepth 20000
namespace Go.Proofs.YtffgchcidkapjaaDoor
open Go.GAM Go.RowKit

section
variable {h h0 : AHeap} {s : List UInt8}

/-- decode, its value put into a box of its own. -/
theorem dec_box {t : List UInt8} {K : Int → AV → AHeap → Prop} (hk : ∀ (e : Int) (d : Der) (cs : List AV) (id : Nat) (h1 : AHeap), (match decS t with | .error x => e = x ∧ d = .zero | .ok y => e = 0 ∧ d = y) → Upd (fun _ => False) h h1 → h.length ≤ id → RecAt h1 id cs → DV h1 (fun i => i < h1.length) d cs → K e (.p (some ⟨id, 5, 0⟩)) h1) :
    C G_der_Decode.id [.s t] h fun v h2 => pExtract 0 v fun v4 => pExtract 1 v fun v5 => asI .i64 v5 fun n => pAlloc z5 h2 fun v6 h3 => pStore 5 v6 v4 h3 fun h4 => K n v6 h4 := by
  refine decode_c ?_
  cases hd : decS t with
  | error x =>
    rw [hd] at hk
    intro h1 U1
    refine st_ext0 (st_ext1 (st_asI (st_alloc fun h2 hl2 U2 R2 => st_storeN R2 rfl rfl rfl fun h3 hl3 U3 R3 => ?_)))
    have := U1.1
    refine hk x .zero z5 h1.length h3 ⟨rfl, rfl⟩ ?_ this R3 (DV.zero _ _)
    exact ((U1.mono (M' := fun i => h.length ≤ i) fun _ _ h => h.elim).trans ((U2.mono (M' := (· = h1.length)) fun _ _ h => h.elim).trans U3 fun _ _ h => h) fun i hi he => by omega).mono fun i hi he => by omega
  | ok d =>
    rw [hd] at hk
    intro cs h1 U1 D
    refine st_ext0 (st_ext1 (st_asI (st_alloc fun h2 hl2 U2 R2 => st_storeN R2 rfl D.len D.cells fun h3 hl3 U3 R3 => ?_)))
    have := U1.1
    have D3 := (D.upd (F' := fun i => i < h1.length) U2 fun i hi hl => ⟨fun h => h, hl⟩).upd (F' := fun i => i < h3.length) U3 fun i hi _ => ⟨by omega, by omega⟩
    refine hk 0 d cs h1.length h3 ⟨rfl, rfl⟩ ?_ this R3 D3
    exact ((U1.mono (M' := fun i => h.length ≤ i) fun _ _ h => h.elim).trans ((U2.mono (M' := (· = h1.length)) fun _ _ h => h.elim).trans U3 fun _ _ h => h) fun i hi he => by omega).mono fun i hi he => by omega

theorem Rt_p4 : G_law33_DerRoundTrip.p4 (kRet h0 Yes) true h := by
  refine G_law33_DerRoundTrip.i4 ?_
  simp only [G_law33_DerRoundTrip.t4]
  exact kRet_yes
theorem Rt_p5 : G_law33_DerRoundTrip.p5 (kRet h0 Yes) true h := by
  refine G_law33_DerRoundTrip.i5 ?_
  simp only [G_law33_DerRoundTrip.t5]
  exact kRet_yes
theorem Rt_p3 (hs : s.length ≤ 3000) : G_law33_DerRoundTrip.p3 (kRet h0 Yes) s h := by
  refine G_law33_DerRoundTrip.i3 ?_
  simp only [G_law33_DerRoundTrip.t3, G_law33_DerRoundTrip.j4, G_law33_DerRoundTrip.j5]
  refine dec_box fun e d cs id h1 hd U1 hid R D => ?_
  cases hds : decS s with
  | error x =>
    rw [hds] at hd
    obtain ⟨rfl, rfl⟩ := hd
    have hx := decS_err hds
    cases D with
    | @mk _ _ _ _ _ v rows Dk sv fv ov =>
    have hln := Dk.length
    refine bif_t (by simp [hx]) (st_fld (st_load R rfl rfl (sv.len ?_)))
    rw [← hln]
    exact bif_t rfl (st_fld (st_load R rfl rfl (st_asS Rt_p4)))
  | ok y =>
    rw [hds] at hd
    obtain ⟨rfl, rfl⟩ := hd
    have hsm := dec_dsum hds
    refine bif_f (by simp) (st_loadN R D.len.symm (encode_c (by omega) (by omega) D (fun i hi => hi) ?_))
    rw [enc_of_dec hds]
    exact st_ext0 (st_asS (st_ext1 (st_asI (bif_t (by simp) Rt_p5))))

theorem Rt_p0 {d : Der} {cs : List AV} {F : Nat → Prop} {id : Nat} {b : Bool} (D : DV h F d cs) (hF : ∀ i, F i → i < h.length) (R : RecAt h id cs) (hb : b = true ∨ (d.few = true ∧ s.length ≤ 3000)) : G_law33_DerRoundTrip.p0 (kRet h0 Yes) s (.p (some ⟨id, 5, 0⟩)) b h := by
  refine G_law33_DerRoundTrip.i0 ?_
  simp only [G_law33_DerRoundTrip.t0, G_law33_DerRoundTrip.j1, G_law33_DerRoundTrip.j3]
  refine bif_both (fun e => kRet_yes) fun e => ?_
  obtain ⟨hf, hs⟩ := hb.resolve_left (by rw [e]; simp)
  have hsm := few_small hf
  refine st_loadN R D.len.symm (encode_c (by omega) (by omega) D hF ?_)
  cases he : encS d with
  | error x =>
    have hx : x ≠ 0 := by
      unfold encS at he
      split at he
      · cases he; assumption
      split at he
      · cases he; decide
      · cases he
    exact st_ext0 (st_asS (st_ext1 (st_asI (bif_f (by simp [hx]) (Rt_p3 hs)))))
  | ok t =>
    obtain ⟨g1, g2, g3, g4, g5⟩ := dec_of_enc he
    refine st_ext0 (st_asS (st_ext1 (st_asI (bif_t (by simp) ?_))))
    refine dec_box fun e2 d2 cs2 id2 h1 hd U1 hid R2 D2 => ?_
    rw [g3] at hd
    obtain ⟨rfl, rfl⟩ := hd
    have R1 := R.upd U1 fun h => h
    refine st_loadN R2 D2.len.symm (st_loadN R1 D.len.symm (same_c (by omega) D2 (D.ext U1) (st_asB ?_)))
    refine bif_f rfl (bif_f (by simp) ?_)
    rw [decide_eq_false (by omega)]
    refine G_law33_DerRoundTrip.i1 ?_
    simp only [G_law33_DerRoundTrip.t1, G_law33_DerRoundTrip.j2]
    refine bif_f rfl (withI_is (n := ((t.length - 1 : Nat) : Int)) (by rw [wrap_i64 (by omega) (by omega)]; omega) (st_subs1 (by omega) ?_))
    rw [← List.dropLast_eq_take]
    obtain ⟨x, hx⟩ := dec_less he
    have hx0 := decS_err hx
    refine dec_box fun e3 d3 cs3 id3 h3 hd3 U3 hid3 R3 D3 => ?_
    rw [hx] at hd3
    obtain ⟨rfl, _⟩ := hd3
    refine ⟨by simp; omega, ?_⟩
    refine dec_box fun e4 d4 cs4 id4 h4 hd4 U4 hid4 R4 D4 => ?_
    refine bif_f (by simp [hx0]) ?_
    have fin : G_law33_DerRoundTrip.p2 (kRet h0 Yes) s false h4 := by
      refine G_law33_DerRoundTrip.i2 ?_
      simp only [G_law33_DerRoundTrip.t2, G_law33_DerRoundTrip.j3]
      exact bif_f rfl (Rt_p3 hs)
    refine bif_both (fun e5 => ?_) fun e5 => fin
    rw [decide_eq_false]
    · exact fin
    · intro hlt
      have := g5 [0] (by simp; omega) (by simp)
      rw [this] at hd4
      obtain ⟨rfl, _⟩ := hd4
      simp at e5

theorem roundTrip_c {d : Der} {cs : List AV} {F : Nat → Prop} (D : DV h F d cs) (hF : ∀ i, F i → i < h.length) : C G_law33_DerRoundTrip.id [.ag cs, .s s] h Yes := by
  refine G_law33_DerRoundTrip.call ?_
  simp only [G_law33_DerRoundTrip.t, G_law33_DerRoundTrip.j0]
  refine D.box fun h1 hl1 U1 B D1 => lives_c fun h2 U2 => st_asB (bif_f rfl ?_)
  have B2 := B.upd U2 fun h => h
  have D2 := D1.ext U2
  have hl2 := U2.1
  have hF2 : ∀ i, F i → i < h2.length := fun i hi => by have := hF i hi; omega
  refine st_loadN B2 D.len.symm (few_c D2 hF2 (st_asB ?_))
  refine bif_both (fun e => Rt_p0 D2 hF2 B2 (.inl rfl)) fun e => ?_
  have hf : d.few = true := by simpa using e
  by_cases hs : s.length ≤ 3000
  · exact Rt_p0 D2 hF2 B2 (.inr ⟨hf, hs⟩)
  · exact Rt_p0 D2 hF2 B2 (.inl (by rw [decide_eq_true_eq]; omega))
end

theorem walk_DerRoundTrip {H : Type} {enc : TypeId × Value → H} {v : Value} {s : ByteArray} {d : DataW H} {p : List MemPlace} (W : World) (hL : laidMet Tryd.prog Rows.derRoundTripRow.laid W) (k : DataW.Trod enc Tryd.prog W 0 (fun _ => true) true 25 v d p) (w1 : s.size ≤ maxLen) :
    Calls Tryd.prog 7 #[v, .string s] W fun e w' => e = .returned (.bool true) ∧ Below W.heap.size W w' := by
  obtain ⟨cs, x, hv, hD⟩ := der_arg k
  exact law_calls mixedOK sizeOK soundX (by kernel_rfl) (szOf := fun _ => 5) (.cons _ _ _ _ hv (.cons _ _ _ _ (.s _ _ rfl) .nil)) (roundTrip_c hD fun i hi => by rw [heapC_len]; exact hi)

end Go.Proofs.YtffgchcidkapjaaDoor
