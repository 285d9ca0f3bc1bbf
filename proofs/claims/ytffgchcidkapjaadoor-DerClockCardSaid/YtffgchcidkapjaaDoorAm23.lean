/- Slices that came in, where a block of the world is known: an empty one that is not nil is one at that block's end. Package variables that are laid. -/
import Derived.Test.YtffgchcidkapjaaDoorAm22
import Derived.LaidMore
set_option linter.unusedVariables false
set_option linter.unusedSimpArgs false
namespace Go.GAM
open Go.RowKit Go.ChangeShapes

section
variable {H : Type} {enc : TypeId × Value → H} {P : Program} {w : World} {szOf : Nat → Nat}

/-- A listed variable is a block of cells. -/
theorem laid_shape {n : String} {d : DataW Unit} {l : List (String × DataW Unit)} (hm : (n, d) ∈ l) (hL : laidMet P l w) :
    ∃ g t cs fuel p, P.globalNamed n = some g ∧ (P.globals[g]?).map (·.type) = some t ∧ w.var? P n = some cs ∧ DataW.trod (fun _ => ()) P w 0 (fun _ => true) false fuel t cs.toList = some (d, p) := by
  obtain ⟨ps, h, hx⟩ := hL
  clear hx
  induction l generalizing ps with
  | nil => cases hm
  | cons x l ih =>
    obtain ⟨n', d'⟩ := x
    obtain ⟨g, t, cs, fuel, p, q, h1, h2, h3, h4, h5, h6⟩ := h
    rcases List.mem_cons.1 hm with h | h
    · cases h; exact ⟨g, t, cs, fuel, p, h1, h2, h3, h4⟩
    · exact ih h _ h5
theorem var_shape {n : String} {g : Nat} {cs : Array Value} (hg : P.globalNamed n = some g) (hv : w.var? P n = some cs) : ∃ t fr, w.heap[g]? = some (.cells cs t fr) := by
  unfold World.var? at hv
  rw [hg] at hv
  simp only [Option.bind_some] at hv
  split at hv
  · rename_i c t fr h
    cases hv
    exact ⟨t, fr, h⟩
  · cases hv
theorem laid_live {n : String} {d : DataW Unit} {l : List (String × DataW Unit)} (hL : laidMet P ((n, d) :: l) w) : ∃ B, (w.shape? B).isSome = true := by
  obtain ⟨g, t, cs, fuel, p, h1, h2, h3, h4⟩ := laid_shape (List.mem_cons_self) hL
  obtain ⟨t', fr, h⟩ := var_shape h1 h3
  exact ⟨g, by simp [World.shape?, h]⟩

theorem row_argL {α : Type} (f : α → List AV) {t e : TypeId} {b : Option Addr} {len cap : Nat} {d : DataW H} {p : List MemPlace} {sz : Nat} (hl : ∃ B, (w.shape? B).isSome = true) (ht : P.underlying t = some (.slice e)) (hc : P.cellsOf e = sz) (hz : 0 < sz) (hs : ∀ B, szOf B = sz)
    (hrow : ∀ r n y, DataW.trod enc P w 0 (fun _ => true) true n e r = some y → ∃ x : α, r.map (absV w szOf) = f x) (h : DataW.Trod enc P w 0 (fun _ => true) true t (.slice b len cap) d p) :
    ∃ (av : AV) (l : List α), VRel (muC w szOf) av (.slice b len cap) ∧ Rd sz (heapC w szOf) av (l.flatMap f) l.length := by
  obtain ⟨av, l, h1, h2⟩ := row_arg (szOf := szOf) f ht hc hz hs hrow h
  rcases h2 with h2 | ⟨hl0, hc0, a, c, rfl⟩
  · exact ⟨av, l, h1, h2⟩
  by_cases hcap : cap = 0
  · subst hcap
    obtain ⟨B, hB⟩ := hl
    obtain ⟨⟨el, n⟩, hB⟩ := Option.isSome_iff_exists.1 hB
    obtain ⟨cs, fr, hh, hn⟩ := shape_some hB
    have hlen : len = 0 := by
      cases h1 with
      | sl _ _ _ _ _ _ h3 h4 => omega
    have hb : ∃ x, b = some x := by cases h1; exact ⟨_, rfl⟩
    obtain ⟨x, rfl⟩ := hb
    subst hlen
    refine ⟨.sl (some ⟨B, n, n⟩) 0 (some 0), [], .sl _ _ _ 0 _ ⟨B, 0, n, szOf B⟩ (muC_is hB) (Nat.le_refl _) (by simp) (by simp) (by simp) (by simp), .inr ⟨B, n, n, some 0, blkC w szOf B, rfl, heapC_at (shape_lt hB), ?_, ?_, ?_, by simp, by simp⟩⟩
    · unfold blkC; rw [hh]; exact hs B
    · unfold blkC; rw [hh]; simp only; omega
    · unfold blkC; rw [hh]; simp [hn]
  · obtain ⟨fuel, h⟩ := h
    rcases row_open ht h with h0 | ⟨a', len', cap', rows, h0, hl', hrl, hr, hcell⟩
    · simp [Value.cells] at h0
      exact absurd h0.2.2 hcap
    · simp [Value.cells] at h0
      obtain ⟨rfl, rfl, rfl⟩ := h0
      have hlen := rows_len rows fun r hr' => (hr r hr').1.trans hc
      obtain ⟨ver, b, g1, g2, g3⟩ := canon_slice (szOf := szOf) hl' hcap hz (hs a'.block) (by rw [hlen, hrl]) hcell
      have hl0' : len = 0 := by
        cases h1; rfl
      subst hl0'
      refine ⟨_, [], absV_rel _, ?_⟩
      rw [g1]
      simp only [Nat.zero_mul, List.take_zero, List.map_nil] at g2
      exact g2.rd _

theorem argL_strings (hl : ∃ B, (w.shape? B).isSome = true) {t e : TypeId} {b : Option Addr} {len cap : Nat} {d : DataW H} {p : List MemPlace} (ht : P.underlying t = some (.slice e)) (hc : P.cellsOf e = 1) (he : P.underlying e = some .string) (hs : ∀ B, szOf B = 1) (h : DataW.Trod enc P w 0 (fun _ => true) true t (.slice b len cap) d p) :
    ∃ (av : AV) (l : List (List UInt8)), VRel (muC w szOf) av (.slice b len cap) ∧ Rd 1 (heapC w szOf) av (l.map .s) l.length := by
  obtain ⟨av, l, h1, h2⟩ := row_argL (szOf := szOf) (fun (x : { l : List UInt8 // l.length ≤ maxLen }) => [AV.s x.1]) hl ht hc Nat.one_pos hs (fun r n y h => row_string he r n y h) h
  refine ⟨av, l.map (·.1), h1, ?_⟩
  rw [List.map_map, List.length_map]
  rwa [flatMap_one (fun (x : { l : List UInt8 // l.length ≤ maxLen }) => AV.s x.1)] at h2
theorem argL_ints (hl : ∃ B, (w.shape? B).isSome = true) {k : IntKind} {t e : TypeId} {b : Option Addr} {len cap : Nat} {d : DataW H} {p : List MemPlace} (ht : P.underlying t = some (.slice e)) (hc : P.cellsOf e = 1) (he : P.underlying e = some (.int k)) (hs : ∀ B, szOf B = 1) (h : DataW.Trod enc P w 0 (fun _ => true) true t (.slice b len cap) d p) :
    ∃ (av : AV) (l : List Int), VRel (muC w szOf) av (.slice b len cap) ∧ Rd 1 (heapC w szOf) av (l.map (.i k)) l.length ∧ ∀ n ∈ l, (Lit.int k n).wf = true := by
  obtain ⟨av, l, h1, h2⟩ := row_argL (szOf := szOf) (fun (x : { n : Int // (Lit.int k n).wf = true }) => [AV.i k x.1]) hl ht hc Nat.one_pos hs (fun r n y h => row_int he r n y h) h
  refine ⟨av, l.map (·.1), h1, ?_, fun n hn => ?_⟩
  · rw [List.map_map, List.length_map]
    rwa [flatMap_one (fun (x : { n : Int // (Lit.int k n).wf = true }) => AV.i k x.1)] at h2
  · obtain ⟨x, _, rfl⟩ := List.mem_map.1 hn
    exact x.2
theorem argL_bytes (hl : ∃ B, (w.shape? B).isSome = true) {t e : TypeId} {b : Option Addr} {len cap : Nat} {d : DataW H} {p : List MemPlace} (ht : P.underlying t = some (.slice e)) (hc : P.cellsOf e = 1) (he : P.underlying e = some (.int .u8)) (hs : ∀ B, szOf B = 1) (h : DataW.Trod enc P w 0 (fun _ => true) true t (.slice b len cap) d p) :
    ∃ (av : AV) (l : List UInt8), VRel (muC w szOf) av (.slice b len cap) ∧ Rd 1 (heapC w szOf) av (l.map byteAV) l.length := by
  obtain ⟨av, l, h1, h2, h3⟩ := argL_ints (k := .u8) hl ht hc he hs h
  refine ⟨av, l.map fun n => UInt8.ofNat n.toNat, h1, ?_⟩
  rw [List.map_map, List.length_map]
  have e : l.map (byteAV ∘ fun n => UInt8.ofNat n.toNat) = l.map (.i .u8) := List.map_congr_left fun n hn => by
    have := u8_bd (h3 n hn)
    exact (byteAV_wrap this.1 this.2).symm
  rwa [e]
end

/-- x[lo:hi] of a slice that is read: the same at every heap that keeps its block. -/
theorem Rd.cutAt {sz : Nat} {h : AHeap} {v : AV} {cs : List AV} {len : Nat} (R : Rd sz h v cs len) (hz : 0 < sz) {lo : Option AV} {lo' hi : Nat} (hlo : lo = none ∧ lo' = 0 ∨ lo = some (.i .i64 lo')) (h1 : lo' ≤ hi) (h2 : hi ≤ len) :
    ∃ v', Rd sz h v' ((cs.take (hi * sz)).drop (lo' * sz)) (hi - lo') ∧ ∀ (K : AV → Prop), K v' → pSliceSl sz v lo (some (.i .i64 (hi : Int))) none h K := by
  rcases R with ⟨rfl, h0, rfl⟩ | ⟨id, ver, off, cap, b, rfl, g2, g3, g4, g5, g6, g7⟩
  · have : hi = 0 := by omega
    subst this
    have : lo' = 0 := by omega
    subst this
    refine ⟨.sl none 0 none, .inl ⟨rfl, rfl, by simp⟩, fun K hk => ⟨by simp, ?_⟩⟩
    rcases hlo with ⟨rfl, _⟩ | rfl
    · exact ⟨rfl, rfl, rfl, fun h => by simp at h, hk⟩
    · exact ⟨by simp, rfl, rfl, rfl, fun h => by simp at h, hk⟩
  · have e2 : hi * sz ≤ len * sz := Nat.mul_le_mul_right _ h2
    have e1 : lo' * sz ≤ hi * sz := Nat.mul_le_mul_right _ h1
    have e3 : (hi - lo') * sz = hi * sz - lo' * sz := Nat.sub_mul _ _ _
    refine ⟨.sl (some ⟨id, ver, off + lo' * sz⟩) (hi - lo') (cap.map (· - lo')), .inr ⟨id, ver, off + lo' * sz, _, b, rfl, g2, g3, g4, g5, by omega, ?_⟩, fun K hk => ?_⟩
    · rw [← g7, List.take_take, Nat.min_eq_left e2, List.drop_take, List.drop_drop, e3]
    · refine ⟨hz, fun h => by simp at h, by omega, ?_⟩
      rcases hlo with ⟨rfl, rfl⟩ | rfl
      · exact ⟨by omega, b, g2, by omega, g4, g3, .inl (by simpa using h2), by simpa using hk⟩
      · exact ⟨by omega, by simpa using h1, b, g2, by omega, g4, g3, .inl (by simpa using h2), by simpa using hk⟩

end Go.GAM
