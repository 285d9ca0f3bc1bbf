/- Lemmas (several texts in one). -/
import Derived.LaidMore
import Derived.Lib.Bytealg
import Derived.Test.YtomghnmoomodiaaGreatDoorRows
import Derived.Test.YtomghnmoomodiaaGreatDoorMg3
/- Slices that came in, where a block of the world is known: an empty one that is not nil is one at that block's end. Package variables that are laid. -/
set_option linter.unusedVariables false
set_option linter.unusedSimpArgs false
namespace Go.GAM
open Go.RowKit Go.ChangeShapes

section
variable {H : Type} {enc : TypeId × Value → H} {P : Program} {w : World} {szOf : Nat → Nat}

/-- A listed variable is a block of cells. -/
theorem laid_shape {n : String} {d : DataW Unit} {l : List (String × DataW Unit)} (hm : (n, d) ∈ l) (hL : laidMet P l w) :
    ∃ g t cs fuel p, P.globalNamed n = some g ∧ (P.globals[g]?).map (·.type) = some t ∧ w.var? P n = some cs ∧ DataW.trod (fun _ => ()) P w 0 (fun _ => true) false fuel t cs.toList = some (d, p) := by
  obtain ⟨ps, h, hx⟩ := hL
  clear hx
  induction l generalizing ps with
  | nil => cases hm
  | cons x l ih =>
    obtain ⟨n', d'⟩ := x
    obtain ⟨g, t, cs, fuel, p, q, h1, h2, h3, h4, h5, h6⟩ := h
    rcases List.mem_cons.1 hm with h | h
    · cases h; exact ⟨g, t, cs, fuel, p, h1, h2, h3, h4⟩
    · exact ih h _ h5
theorem var_shape {n : String} {g : Nat} {cs : Array Value} (hg : P.globalNamed n = some g) (hv : w.var? P n = some cs) : ∃ t fr, w.heap[g]? = some (.cells cs t fr) := by
  unfold World.var? at hv
  rw [hg] at hv
  simp only [Option.bind_some] at hv
  split at hv
  · rename_i c t fr h
    cases hv
    exact ⟨t, fr, h⟩
  · cases hv
theorem laid_live {n : String} {d : DataW Unit} {l : List (String × DataW Unit)} (hL : laidMet P ((n, d) :: l) w) : ∃ B, (w.shape? B).isSome = true := by
  obtain ⟨g, t, cs, fuel, p, h1, h2, h3, h4⟩ := laid_shape (List.mem_cons_self) hL
  obtain ⟨t', fr, h⟩ := var_shape h1 h3
  exact ⟨g, by simp [World.shape?, h]⟩

theorem row_argL {α : Type} (f : α → List AV) {t e : TypeId} {b : Option Addr} {len cap : Nat} {d : DataW H} {p : List MemPlace} {sz : Nat} (hl : ∃ B, (w.shape? B).isSome = true) (ht : P.underlying t = some (.slice e)) (hc : P.cellsOf e = sz) (hz : 0 < sz) (hs : ∀ B, szOf B = sz)
    (hrow : ∀ r n y, DataW.trod enc P w 0 (fun _ => true) true n e r = some y → ∃ x : α, r.map (absV w szOf) = f x) (h : DataW.Trod enc P w 0 (fun _ => true) true t (.slice b len cap) d p) :
    ∃ (av : AV) (l : List α), VRel (muC w szOf) av (.slice b len cap) ∧ Rd sz (heapC w szOf) av (l.flatMap f) l.length := by
  obtain ⟨av, l, h1, h2⟩ := row_arg (szOf := szOf) f ht hc hz hs hrow h
  rcases h2 with h2 | ⟨hl0, hc0, a, c, rfl⟩
  · exact ⟨av, l, h1, h2⟩
  by_cases hcap : cap = 0
  · subst hcap
    obtain ⟨B, hB⟩ := hl
    obtain ⟨⟨el, n⟩, hB⟩ := Option.isSome_iff_exists.1 hB
    obtain ⟨cs, fr, hh, hn⟩ := shape_some hB
    have hlen : len = 0 := by
      cases h1 with
      | sl _ _ _ _ _ _ h3 h4 => omega
    have hb : ∃ x, b = some x := by cases h1; exact ⟨_, rfl⟩
    obtain ⟨x, rfl⟩ := hb
    subst hlen
    refine ⟨.sl (some ⟨B, n, n⟩) 0 (some 0), [], .sl _ _ _ 0 _ ⟨B, 0, n, szOf B⟩ (muC_is hB) (Nat.le_refl _) (by simp) (by simp) (by simp) (by simp), .inr ⟨B, n, n, some 0, blkC w szOf B, rfl, heapC_at (shape_lt hB), ?_, ?_, ?_, by simp, by simp⟩⟩
    · unfold blkC; rw [hh]; exact hs B
    · unfold blkC; rw [hh]; simp only; omega
    · unfold blkC; rw [hh]; simp [hn]
  · obtain ⟨fuel, h⟩ := h
    rcases row_open ht h with h0 | ⟨a', len', cap', rows, h0, hl', hrl, hr, hcell⟩
    · simp [Value.cells] at h0
      exact absurd h0.2.2 hcap
    · simp [Value.cells] at h0
      obtain ⟨rfl, rfl, rfl⟩ := h0
      have hlen := rows_len rows fun r hr' => (hr r hr').1.trans hc
      obtain ⟨ver, b, g1, g2, g3⟩ := canon_slice (szOf := szOf) hl' hcap hz (hs a'.block) (by rw [hlen, hrl]) hcell
      have hl0' : len = 0 := by
        cases h1; rfl
      subst hl0'
      refine ⟨_, [], absV_rel _, ?_⟩
      rw [g1]
      simp only [Nat.zero_mul, List.take_zero, List.map_nil] at g2
      exact g2.rd _

theorem argL_strings (hl : ∃ B, (w.shape? B).isSome = true) {t e : TypeId} {b : Option Addr} {len cap : Nat} {d : DataW H} {p : List MemPlace} (ht : P.underlying t = some (.slice e)) (hc : P.cellsOf e = 1) (he : P.underlying e = some .string) (hs : ∀ B, szOf B = 1) (h : DataW.Trod enc P w 0 (fun _ => true) true t (.slice b len cap) d p) :
    ∃ (av : AV) (l : List (List UInt8)), VRel (muC w szOf) av (.slice b len cap) ∧ Rd 1 (heapC w szOf) av (l.map .s) l.length := by
  obtain ⟨av, l, h1, h2⟩ := row_argL (szOf := szOf) (fun (x : { l : List UInt8 // l.length ≤ maxLen }) => [AV.s x.1]) hl ht hc Nat.one_pos hs (fun r n y h => row_string he r n y h) h
  refine ⟨av, l.map (·.1), h1, ?_⟩
  rw [List.map_map, List.length_map]
  rwa [flatMap_one (fun (x : { l : List UInt8 // l.length ≤ maxLen }) => AV.s x.1)] at h2
theorem argL_ints (hl : ∃ B, (w.shape? B).isSome = true) {k : IntKind} {t e : TypeId} {b : Option Addr} {len cap : Nat} {d : DataW H} {p : List MemPlace} (ht : P.underlying t = some (.slice e)) (hc : P.cellsOf e = 1) (he : P.underlying e = some (.int k)) (hs : ∀ B, szOf B = 1) (h : DataW.Trod enc P w 0 (fun _ => true) true t (.slice b len cap) d p) :
    ∃ (av : AV) (l : List Int), VRel (muC w szOf) av (.slice b len cap) ∧ Rd 1 (heapC w szOf) av (l.map (.i k)) l.length ∧ ∀ n ∈ l, (Lit.int k n).wf = true := by
  obtain ⟨av, l, h1, h2⟩ := row_argL (szOf := szOf) (fun (x : { n : Int // (Lit.int k n).wf = true }) => [AV.i k x.1]) hl ht hc Nat.one_pos hs (fun r n y h => row_int he r n y h) h
  refine ⟨av, l.map (·.1), h1, ?_, fun n hn => ?_⟩
  · rw [List.map_map, List.length_map]
    rwa [flatMap_one (fun (x : { n : Int // (Lit.int k n).wf = true }) => AV.i k x.1)] at h2
  · obtain ⟨x, _, rfl⟩ := List.mem_map.1 hn
    exact x.2
theorem argL_bytes (hl : ∃ B, (w.shape? B).isSome = true) {t e : TypeId} {b : Option Addr} {len cap : Nat} {d : DataW H} {p : List MemPlace} (ht : P.underlying t = some (.slice e)) (hc : P.cellsOf e = 1) (he : P.underlying e = some (.int .u8)) (hs : ∀ B, szOf B = 1) (h : DataW.Trod enc P w 0 (fun _ => true) true t (.slice b len cap) d p) :
    ∃ (av : AV) (l : List UInt8), VRel (muC w szOf) av (.slice b len cap) ∧ Rd 1 (heapC w szOf) av (l.map byteAV) l.length := by
  obtain ⟨av, l, h1, h2, h3⟩ := argL_ints (k := .u8) hl ht hc he hs h
  refine ⟨av, l.map fun n => UInt8.ofNat n.toNat, h1, ?_⟩
  rw [List.map_map, List.length_map]
  have e : l.map (byteAV ∘ fun n => UInt8.ofNat n.toNat) = l.map (.i .u8) := List.map_congr_left fun n hn => by
    have := u8_bd (h3 n hn)
    exact (byteAV_wrap this.1 this.2).symm
  rwa [e]
end

/-- x[lo:hi] of a slice that is read: the same at every heap that keeps its block. -/
theorem Rd.cutAt {sz : Nat} {h : AHeap} {v : AV} {cs : List AV} {len : Nat} (R : Rd sz h v cs len) (hz : 0 < sz) {lo : Option AV} {lo' hi : Nat} (hlo : lo = none ∧ lo' = 0 ∨ lo = some (.i .i64 lo')) (h1 : lo' ≤ hi) (h2 : hi ≤ len) :
    ∃ v', Rd sz h v' ((cs.take (hi * sz)).drop (lo' * sz)) (hi - lo') ∧ ∀ (K : AV → Prop), K v' → pSliceSl sz v lo (some (.i .i64 (hi : Int))) none h K := by
  rcases R with ⟨rfl, h0, rfl⟩ | ⟨id, ver, off, cap, b, rfl, g2, g3, g4, g5, g6, g7⟩
  · have : hi = 0 := by omega
    subst this
    have : lo' = 0 := by omega
    subst this
    refine ⟨.sl none 0 none, .inl ⟨rfl, rfl, by simp⟩, fun K hk => ⟨by simp, ?_⟩⟩
    rcases hlo with ⟨rfl, _⟩ | rfl
    · exact ⟨rfl, rfl, rfl, fun h => by simp at h, hk⟩
    · exact ⟨by simp, rfl, rfl, rfl, fun h => by simp at h, hk⟩
  · have e2 : hi * sz ≤ len * sz := Nat.mul_le_mul_right _ h2
    have e1 : lo' * sz ≤ hi * sz := Nat.mul_le_mul_right _ h1
    have e3 : (hi - lo') * sz = hi * sz - lo' * sz := Nat.sub_mul _ _ _
    refine ⟨.sl (some ⟨id, ver, off + lo' * sz⟩) (hi - lo') (cap.map (· - lo')), .inr ⟨id, ver, off + lo' * sz, _, b, rfl, g2, g3, g4, g5, by omega, ?_⟩, fun K hk => ?_⟩
    · rw [← g7, List.take_take, Nat.min_eq_left e2, List.drop_take, List.drop_drop, e3]
    · refine ⟨hz, fun h => by simp at h, by omega, ?_⟩
      rcases hlo with ⟨rfl, rfl⟩ | rfl
      · exact ⟨by omega, b, g2, by omega, g4, g3, .inl (by simpa using h2), by simpa using hk⟩
      · exact ⟨by omega, by simpa using h1, b, g2, by omega, g4, g3, .inl (by simpa using h2), by simpa using hk⟩

end Go.GAM

/- Counting up; stacks and arrays that are made; contracts' small change. -/
set_option linter.unusedVariables false
set_option linter.unusedSimpArgs false
namespace Go.GAM
open Go.RowKit

theorem inc {i : Nat} {K : Int → Prop} (h : i ≤ 1000000000) (hk : K ((i + 1 : Nat) : Int)) : withI (IntKind.wrap .i64 ((i : Int) + 1)) K :=
  withI_is (n := ((i + 1 : Nat) : Int)) (by rw [wrap_i64 (by omega) (by omega)]; omega) hk
theorem inc2 {i : Nat} {K : Int → Prop} (h : i ≤ 1000000000) (hk : K ((i + 2 : Nat) : Int)) : withI (IntKind.wrap .i64 ((i : Int) + 2)) K :=
  withI_is (n := ((i + 2 : Nat) : Int)) (by rw [wrap_i64 (by omega) (by omega)]; omega) hk
/-- A sum, a product that fits. -/
theorem st_w {e n : Int} {K : Int → Prop} (h : e = n) (h0 : -9223372036854775808 ≤ n) (h1 : n < 9223372036854775808) (hk : K n) : withI (IntKind.wrap .i64 e) K :=
  withI_is (by rw [h, wrap_i64 h0 h1]) hk
theorem u8_of {n : Int} (h0 : 0 ≤ n) (h1 : n < 256) : n = ((UInt8.ofNat n.toNat).toNat : Int) := by
  rw [UInt8.toNat_ofNat']; omega
theorem eq_byte (c d : UInt8) : decide ((c.toNat : Int) = (d.toNat : Int)) = decide (c = d) := by
  rw [decide_eq_decide]
  constructor
  · intro h; exact UInt8.toNat_inj.1 (by omega)
  · rintro rfl; rfl
theorem take_snoc {α : Type} {l : List α} {i : Nat} {c : α} (hc : l[i]? = some c) : l.take (i + 1) = l.take i ++ [c] := by
  rw [List.take_add_one, hc]; rfl
theorem at_of_drop {α : Type} {l r : List α} {i : Nat} {c : α} (h : l.drop i = c :: r) : l[i]? = some c := by
  have : (l.drop i)[0]? = some c := by rw [h]; rfl
  simpa using this
theorem drop_of_at {α : Type} {l : List α} {i : Nat} {c : α} (h : l[i]? = some c) : l.drop i = c :: l.drop (i + 1) := by
  have hi := lt_of_some h
  rw [List.drop_eq_getElem_cons hi]
  rw [List.getElem?_eq_getElem hi] at h
  simp only [Option.some.injEq] at h
  rw [h]

theorem callV_c {R : CallR} {f : Nat} {first cap vs : List AV} {h : AHeap} {K : AV → AHeap → Prop} (hf : Nat.blt f yid0 = true) (hk : R f (first ++ vs ++ cap) h K) : pCallV R (.fn (.func f) first cap) vs h K := by
  unfold pCallV
  simp only
  unfold pCall
  exact bif_t hf hk

/-- A stack that is made since h0. -/
structure NewS (h0 h : AHeap) (v : AV) (l : List AV) : Prop where
  upd : Upd (fun _ => False) h0 h
  stk : Stk h v l
  new : ∀ i, SlAt v i → h0.length ≤ i

theorem NewS.start (h : AHeap) : NewS h h (.sl none 0 none) [] := ⟨Upd.refl _ _, .inl ⟨rfl, rfl⟩, fun _ h => h.elim⟩
theorem NewS.empty {h0 h : AHeap} (U : Upd (fun _ => False) h0 h) {K : AV → AHeap → Prop} (hk : ∀ v h', NewS h0 h' v [] → Upd (fun _ => False) h h' → (∀ i, SlAt v i → h.length ≤ i) → K v h') : pBuildSl 1 0 [] [] h K := by
  refine ⟨rfl, hk _ _ ⟨U.trans (Upd.app _ _) fun _ _ h => h, .inr ⟨h.length, newBlk [] 1 true, rfl, by simp, rfl, Nat.le_refl _, rfl, Nat.le_refl _, rfl, rfl⟩, fun i hi => ?_⟩ (Upd.app _ _) fun i hi => ?_⟩
  · cases hi; exact U.1
  · cases hi; exact Nat.le_refl _
theorem NewS.push {bytes : Nat} {h0 h : AHeap} {v x : AV} {l zeros : List AV} (S : NewS h0 h v l) (hf : fillA zeros [(0, 1, x)] = some [x]) (hx : x.cellOK = true) (hlen : (l.length + 1) * bytes ≤ 140737488355328) (hl2 : l.length + 1 ≤ 9223372036854775807) {K : AV → AHeap → Prop}
    (hk : ∀ v' h', NewS h0 h' v' (l ++ [x]) → Upd (SlAt v) h h' → (∀ i, SlAt v' i → SlAt v i ∨ h.length ≤ i) → K v' h') : pBuildSl 1 1 zeros [(0, 1, x)] h fun y h' => pAppend 1 bytes v y h' K :=
  S.stk.push hf hx hlen hl2 fun v' h' U S' F => hk v' h' ⟨S.upd.trans U fun i hi hs => absurd (S.new i hs) (by omega), S', fun i hi => by
    rcases F i hi with h | h
    · exact S.new i h
    · exact Nat.le_trans S.upd.1 h⟩ U F
theorem NewS.cut {h0 h : AHeap} {v : AV} {l : List AV} (S : NewS h0 h v l) {n : Nat} (hn : n ≤ l.length) {K : AV → Prop} (hk : ∀ v', NewS h0 h v' (l.take n) → (∀ i, SlAt v' i → SlAt v i) → K v') : pSliceSl 1 v none (some (.i .i64 n)) none h K :=
  S.stk.cut hn fun v' S' F => hk v' ⟨S.upd, S', fun i hi => S.new i (F i hi)⟩ F

theorem Arr.stk {h : AHeap} {v : AV} {l : List AV} {n : Nat} (A : Arr 1 h v l n) : n = l.length ∧ Stk h v l := by
  rcases A with ⟨rfl, rfl, rfl⟩ | ⟨id, b, rfl, h2, rfl, h4, h5, h6, h7, h8⟩
  · exact ⟨rfl, .inl ⟨rfl, rfl⟩⟩
  · have : n = b.cells.length := by omega
    subst this
    exact ⟨rfl, .inr ⟨id, b, rfl, h2, h5, Nat.le_refl _, by simp, h6, h7, h8⟩⟩

theorem flat_rep (z : AV) : ∀ n, (List.replicate n [z]).flatten = List.replicate n z
  | 0 => rfl
  | n + 1 => by rw [List.replicate_succ, List.flatten_cons, flat_rep z n, List.replicate_succ]; rfl
theorem st_make {bytes n : Nat} {z : AV} {h : AHeap} {k : IntKind} (hb : bytes * n ≤ 281474976710656) (hn : n ≤ 9223372036854775807) {K : AV → AHeap → Prop}
    (hk : ∀ v h', NewA 1 h h' v (List.replicate n z) n → K v h') : pMake 1 bytes [z] (.i k (n : Int)) (.i k (n : Int)) h K := by
  refine ⟨by omega, by omega, Int.natCast_mul bytes n ▸ (by omega : ((bytes * n : Nat) : Int) ≤ (281474976710656 : Int)), by omega, rfl, Nat.one_pos, ?_⟩
  refine hk _ _ ⟨Upd.app _ _, .inr ⟨h.length, newBlk (List.replicate n z) 1 true, ?_, ?_, rfl, by simp, rfl, Nat.le_refl _, rfl, rfl⟩, fun i hi => by cases hi; exact Nat.le_refl _⟩
  · rw [Int.toNat_natCast, Nat.mul_one, List.length_replicate]
  · rw [Int.toNat_natCast, flat_rep, List.getElem?_append_right (Nat.le_refl _), Nat.sub_self]; rfl


/-- A text of one byte that is made. -/
theorem Tx.one {h0 h : AHeap} (U : Upd (fun _ => False) h0 h) {c : UInt8} {K : AV → AHeap → Prop} (hk : ∀ v h', Tx h0 h' v [c] → Upd (fun _ => False) h h' → K v h') : pBuildSl 1 1 [.i .u8 0] [(0, 1, .i .u8 (c.toNat : Int))] h K := by
  refine ⟨rfl, hk _ _ ⟨U.trans (Upd.app _ _) fun _ _ h => h, .inr ⟨h.length, newBlk [byteAV c] 1 true, rfl, by simp [byteAV]; rfl, rfl, rfl, rfl, Nat.le_refl _, rfl, rfl⟩, fun i hi => ?_⟩ (Upd.app _ _)⟩
  cases hi; exact U.1
theorem Tx.startU {h0 h : AHeap} (U : Upd (fun _ => False) h0 h) : Tx h0 h (.sl none 0 none) [] := ⟨U, Arr.nil _ _, fun _ h => h.elim⟩
/-- append(v, w..) of bytes. -/
theorem Tx.app {h0 h : AHeap} {v w : AV} {l m : List UInt8} (A : Tx h0 h v l) (B : Byt h w m) (hlen : l.length + m.length < 1000000000) {K : AV → AHeap → Prop} (hk : ∀ v' h', Tx h0 h' v' (l ++ m) → Upd (SlAt v) h h' → K v' h') : pAppend 1 1 v w h K := by
  refine NewA.append A (by decide) (ns := m.map byteAV) (k := m.length) (fun K hK => Rd.news B hK) (by simp) (byteAV_cellOK m) (by omega) (by omega) fun v' h' A' U => hk v' h' ?_ U
  unfold Tx
  rw [List.map_append, List.length_append]; exact A'
theorem Tx.byt {h0 h : AHeap} {v : AV} {l : List UInt8} (A : Tx h0 h v l) : Byt h v l := A.arr.rd
theorem Tx.ext {h0 h h' : AHeap} {v : AV} {l : List UInt8} (A : Tx h0 h v l) (U : Upd (fun _ => False) h h') : Tx h0 h' v l := ⟨A.upd.trans U fun _ _ h => h, A.arr.upd U fun _ _ h => h, A.new⟩

/-! ### tuples -/

theorem st_ext0 {a : AV} {l : List AV} {K : AV → Prop} (hk : K a) : pExtract 0 (.tu (a :: l)) K := ⟨by simp, hk⟩
theorem st_ext1 {a b : AV} {l : List AV} {K : AV → Prop} (hk : K b) : pExtract 1 (.tu (a :: b :: l)) K := ⟨by simp, hk⟩
theorem st_ext2 {a b c : AV} {l : List AV} {K : AV → Prop} (hk : K c) : pExtract 2 (.tu (a :: b :: c :: l)) K := ⟨by simp, hk⟩

/-! ### bits and bytes -/

theorem bits_and_mod {x n : Nat} (hx : x < 2 ^ 62) (hn : n < 62) : bitsOp .and .i64 (x : Int) ((2 ^ n - 1 : Nat) : Int) = ((x % 2 ^ n : Nat) : Int) := by
  have : 2 ^ n ≤ 2 ^ 61 := Nat.pow_le_pow_right (by omega) (by omega)
  rw [bits_and hx (by omega), Nat.and_two_pow_sub_one_eq_mod]
theorem wrap_u64 {n : Int} (h0 : 0 ≤ n) (h1 : n < 18446744073709551616) : IntKind.wrap .u64 n = n := by
  have : IntKind.wrap .u64 n = n % 18446744073709551616 := by
    show n.emod (2 ^ 64) = _
    rfl
  rw [this]; omega
theorem wrap_u8_nat (x : Nat) : IntKind.wrap .u8 (x : Int) = ((x % 256 : Nat) : Int) := by
  have : IntKind.wrap .u8 (x : Int) = (x : Int) % 256 := by
    show (x : Int).emod (2 ^ 8) = _
    rfl
  rw [this]; rfl
theorem byte_mod (x : Nat) : ((x % 256 : Nat) : Int) = ((UInt8.ofNat x).toNat : Int) := by
  rw [UInt8.toNat_ofNat']

end Go.GAM

/- Shifts and bits of any numbers. -/
set_option linter.unusedVariables false
set_option linter.unusedSimpArgs false
namespace Go.GAM
open Go.RowKit

theorem st_shlI {a n : Int} {b : Nat} {K : Int → Prop} (hb : b ≤ 64) (hn : a * 2 ^ b = n) (h0 : -9223372036854775808 ≤ n) (h1 : n < 9223372036854775808) (hk : K n) : pShl .i64 a b K := by
  refine ⟨by omega, ?_⟩
  rw [Int.toNat_natCast, show IntKind.i64.bits = 64 from rfl, Nat.min_eq_left hb, hn, wrap_i64 h0 h1]; exact hk
theorem st_shrI {a n : Int} {b : Nat} {K : Int → Prop} (hb : b ≤ 64) (hn : a / ((2 ^ b : Nat) : Int) = n) (hk : K n) : pShr .i64 a b K := by
  refine ⟨by omega, ?_⟩
  have h2 : ((2 : Int) ^ b) = ((2 ^ b : Nat) : Int) := by simp
  rw [Int.toNat_natCast, show IntKind.i64.bits = 64 from rfl, Nat.min_eq_left hb, h2, Int.fdiv_eq_ediv_of_nonneg _ (Int.natCast_nonneg _), hn]; exact hk

theorem wrap_ofInt (z : Int) : IntKind.wrap .i64 ((BitVec.ofInt 64 z).toNat : Int) = IntKind.wrap .i64 z := by
  have e1 : (2 : Int) ^ 64 = 18446744073709551616 := by decide
  have e2 : (2 : Int) ^ (64 - 1) = 9223372036854775808 := by decide
  have e3 : ((2 ^ 64 : Nat) : Int) = 18446744073709551616 := by decide
  rw [BitVec.toNat_ofInt, e3]
  simp only [IntKind.wrap, IntKind.bits, IntKind.signed, Bool.true_and, decide_eq_true_eq, e1, e2]
  rw [Int.toNat_of_nonneg (by omega), Int.emod_emod_of_dvd _ (Int.dvd_refl _)]

/-- a<<8 | c: no bit stands twice. -/
theorem or_low {a : Int} {c : Nat} (hc : c < 256) (h0 : -36028797018963968 ≤ a) (h1 : a < 36028797018963968) : bitsOp .or .i64 (a * 256) (c : Int) = a * 256 + c := by
  show IntKind.wrap .i64 (((BitVec.ofInt 64 (a * 256)) ||| (BitVec.ofInt 64 (c : Int))).toNat : Int) = _
  have hX : BitVec.ofInt 64 (a * 256) = BitVec.ofInt 64 a <<< 8 := by
    rw [BitVec.ofInt_mul, BitVec.shiftLeft_eq_mul_twoPow]; rfl
  have hand : BitVec.ofInt 64 (a * 256) &&& BitVec.ofInt 64 (c : Int) = 0#64 := by
    rw [hX]
    apply BitVec.eq_of_getLsbD_eq
    intro i hi
    rw [BitVec.getLsbD_and, BitVec.getLsbD_shiftLeft]
    by_cases h8 : i < 8
    · simp [h8]
    · have : (BitVec.ofInt 64 (c : Int)).getLsbD i = false := by
        rw [BitVec.getLsbD, bits_nat (by omega)]
        apply Nat.testBit_lt_two_pow
        have : 2 ^ 8 ≤ 2 ^ i := Nat.pow_le_pow_right (by omega) (by omega)
        omega
      rw [this]; simp
  rw [← BitVec.add_eq_or_of_and_eq_zero _ _ hand, ← BitVec.ofInt_add, wrap_ofInt, wrap_i64 (by omega) (by omega)]

theorem wrap_u8_mod (z : Int) : IntKind.wrap .u8 z = ((UInt8.ofNat (z % 256).toNat).toNat : Int) := by
  rw [UInt8.toNat_ofNat']
  have : IntKind.wrap .u8 z = z % 256 := by
    show z.emod (2 ^ 8) = _
    rfl
  rw [this]; omega
theorem wrap_i8 (c : UInt8) : IntKind.wrap .i8 (c.toNat : Int) = if c.toNat < 128 then (c.toNat : Int) else (c.toNat : Int) - 256 := by
  have hc := c.toNat_lt
  have e1 : (2 : Int) ^ 8 = 256 := by decide
  have e2 : (2 : Int) ^ (8 - 1) = 128 := by decide
  simp only [IntKind.wrap, IntKind.bits, IntKind.signed, Bool.true_and, decide_eq_true_eq, e1, e2]
  split <;> split <;> omega

end Go.GAM

/- Maps with keys of one kind; functions without a body that only answer. -/
set_option linter.unusedVariables false
set_option linter.unusedSimpArgs false
set_option linter.unusedSectionVars false
namespace Go.GAM
open Go.RowKit

section
variable {P : Program} {α : Type} [DecidableEq α]

/-- A map's entries, its keys in plain words. -/
def entsOf (κ : α → AV) (kv : List (α × AV)) : List (AV × AV) := kv.map fun p => (κ p.1, p.2)
def lkI : List (α × AV) → α → Nat → Option (Nat × AV)
  | [], _, _ => none
  | (k, v) :: r, x, i => if x = k then some (i, v) else lkI r x (i + 1)
def lkM (kv : List (α × AV)) (x : α) : Option AV := (lkI kv x 0).map (·.2)
def upM : List (α × AV) → α → AV → List (α × AV)
  | [], x, v => [(x, v)]
  | (k, w) :: r, x, v => if x = k then (k, v) :: r else (k, w) :: upM r x v

theorem lkI_snd (x : α) : ∀ (kv : List (α × AV)) (i j : Nat), (lkI kv x i).map (·.2) = (lkI kv x j).map (·.2)
  | [], _, _ => rfl
  | (k, v) :: r, i, j => by
    unfold lkI
    split
    · rfl
    · exact lkI_snd x r _ _
theorem lkM_nil (x : α) : lkM [] x = none := rfl
theorem lkM_cons (k : α) (v : AV) (r : List (α × AV)) (x : α) : lkM ((k, v) :: r) x = if x = k then some v else lkM r x := by
  unfold lkM
  rw [lkI]
  split
  · rfl
  · exact lkI_snd x r _ _
theorem lkM_up (x : α) (v : AV) (y : α) : ∀ kv : List (α × AV), lkM (upM kv x v) y = if y = x then some v else lkM kv y
  | [] => by rw [upM, lkM_cons]
  | (k, w) :: r => by
    unfold upM
    by_cases h : x = k
    · subst h
      rw [if_pos rfl, lkM_cons, lkM_cons]
      split <;> rfl
    · rw [if_neg h, lkM_cons, lkM_cons, lkM_up x v y r]
      by_cases hy : y = k
      · subst hy; rw [if_pos rfl, if_pos rfl, if_neg (fun e => h e.symm)]
      · rw [if_neg hy, if_neg hy]

/-- Keys are told apart. -/
def KeyOK (P : Program) (kt : TypeId) (κ : α → AV) : Prop := ∀ a b, aEq P 64 kt (κ a) (κ b) = some (decide (a = b))

theorem aFind_is {kt : TypeId} {κ : α → AV} (hκ : KeyOK P kt κ) (x : α) : ∀ (kv : List (α × AV)) (i : Nat), aFind P kt (κ x) (entsOf κ kv) i = some (lkI kv x i)
  | [], _ => rfl
  | (k, v) :: r, i => by
    have e := aFind_is hκ x r (i + 1)
    show aFind P kt (κ x) ((κ k, v) :: entsOf κ r) i = _
    rw [aFind]
    show (match aEq P 64 kt (κ x) (κ k) with
      | some true => some (some (i, v))
      | some false => aFind P kt (κ x) (entsOf κ r) (i + 1)
      | none => none) = _
    rw [hκ x k, lkI]
    by_cases h : x = k
    · rw [decide_eq_true h, if_pos h]
    · rw [decide_eq_false h, if_neg h]; exact e

/-- A map. -/
def MapAt (κ : α → AV) (h : AHeap) (id : Nat) (kv : List (α × AV)) : Prop := h[id]? = some (mapBlk (entsOf κ kv))
theorem MapAt.lt {κ : α → AV} {h : AHeap} {id : Nat} {kv : List (α × AV)} (M : MapAt κ h id kv) : id < h.length := lt_of_some M
theorem MapAt.upd {κ : α → AV} {M : Nat → Prop} {h h' : AHeap} {id : Nat} {kv : List (α × AV)} (A : MapAt κ h id kv) (U : Upd M h h') (hM : ¬ M id) : MapAt κ h' id kv := (U.2 id A.lt hM).trans A

theorem st_makeMap (κ : α → AV) {h : AHeap} {K : AV → AHeap → Prop} (hk : ∀ h', h'.length = h.length + 1 → Upd (fun _ => False) h h' → MapAt κ h' h.length [] → K (.mp (some h.length)) h') : pMakeMap h K :=
  hk _ (by simp) (Upd.app _ _) (by unfold MapAt; simp [entsOf])

theorem st_lookup {κ : α → AV} {h : AHeap} {id : Nat} {kv : List (α × AV)} {kt el : TypeId} {x : α} {z : AV} {K : AV → Prop} (M : MapAt κ h id kv) (hκ : KeyOK P kt κ) (hv : keyV P kt (κ x) = true) (hz : zeroA P el = some z) (hk : K ((lkM kv x).getD z)) : pLookup P kt el false (.mp (some id)) (κ x) h K := by
  refine ⟨hv, ?_⟩
  have e : mapEs (.mp (some id)) h = some (entsOf κ kv) := by show (h[id]?).bind (·.mp) = _; rw [M]; rfl
  rw [e]
  simp only
  rw [aFind_is hκ]
  unfold lkM at hk
  cases hl : lkI kv x 0 with
  | none => rw [hl] at hk; simp only; rw [hz]; exact hk
  | some p => rw [hl] at hk; exact hk
theorem st_lookup_ok {κ : α → AV} {h : AHeap} {id : Nat} {kv : List (α × AV)} {kt el : TypeId} {x : α} {z : AV} {K : AV → Prop} (M : MapAt κ h id kv) (hκ : KeyOK P kt κ) (hv : keyV P kt (κ x) = true) (hz : zeroA P el = some z) (hk : K (.tu [(lkM kv x).getD z, .b (lkM kv x).isSome])) : pLookup P kt el true (.mp (some id)) (κ x) h K := by
  refine ⟨hv, ?_⟩
  have e : mapEs (.mp (some id)) h = some (entsOf κ kv) := by show (h[id]?).bind (·.mp) = _; rw [M]; rfl
  rw [e]
  simp only
  rw [aFind_is hκ]
  unfold lkM at hk
  cases hl : lkI kv x 0 with
  | none => rw [hl] at hk; simp only; rw [hz]; exact hk
  | some p => rw [hl] at hk; exact hk

theorem lkI_up {κ : α → AV} (x : α) (v : AV) : ∀ (kv : List (α × AV)) (i : Nat), match lkI kv x i with
    | none => upM kv x v = kv ++ [(x, v)]
    | some (j, _) => i ≤ j ∧ kv[j - i]?.map (·.1) = some x ∧ upM kv x v = kv.set (j - i) (x, v)
  | [], i => rfl
  | (k, w) :: r, i => by
    have ih := lkI_up (κ := κ) x v r (i + 1)
    rw [lkI]
    by_cases h : x = k
    · subst h
      rw [if_pos rfl]
      exact ⟨Nat.le_refl _, by simp, by simp [upM]⟩
    · rw [if_neg h]
      cases hl : lkI r x (i + 1) with
      | none => rw [hl] at ih; simp only at ih ⊢; rw [upM, if_neg h, ih]; rfl
      | some p =>
        obtain ⟨j, u1⟩ := p
        rw [hl] at ih
        simp only at ih ⊢
        obtain ⟨h1, h2, h3⟩ := ih
        obtain ⟨m, rfl⟩ : ∃ m, j = i + 1 + m := ⟨j - (i + 1), by omega⟩
        rw [show i + 1 + m - (i + 1) = m by omega] at h2 h3
        rw [show i + 1 + m - i = m + 1 by omega, upM, if_neg h, h3]
        exact ⟨by omega, by simpa using h2, by simp⟩

theorem st_mapset {κ : α → AV} {h : AHeap} {id : Nat} {kv : List (α × AV)} {kt : TypeId} {x : α} {v : AV} {K : AHeap → Prop} (M : MapAt κ h id kv) (hκ : KeyOK P kt κ) (hv : keyV P kt (κ x) = true) (hp : kPure (κ x) = true)
    (hk : ∀ h', h'.length = h.length → Upd (· = id) h h' → MapAt κ h' id (upM kv x v) → K h') : pMapSet P kt (.mp (some id)) (κ x) v h K := by
  refine ⟨hv, hp, _, _, M, rfl, ?_⟩
  rw [aFind_is hκ]
  have hu := lkI_up (κ := κ) x v kv 0
  have fin : ∀ es, es = entsOf κ (upM kv x v) → K (h.set id (mapBlk es)) := by
    rintro es rfl
    exact hk _ (by simp) (Upd.set _ _ _) (List.getElem?_set_self M.lt)
  cases hl : lkI kv x 0 with
  | none =>
    rw [hl] at hu
    exact fin _ (by simp only at hu; rw [hu]; simp [entsOf])
  | some p =>
    obtain ⟨j, u1⟩ := p
    rw [hl] at hu
    simp only [Nat.sub_zero] at hu
    obtain ⟨_, h2, h3⟩ := hu
    refine ⟨?_, fin _ (by rw [h3]; simp [entsOf, List.map_set])⟩
    obtain ⟨q, hq, hqx⟩ := Option.map_eq_some_iff.1 h2
    exact ⟨q.2, by unfold entsOf; rw [List.getElem?_map, hq]; simp [hqx]⟩

theorem keyOK_str {kt : TypeId} (hu : P.underlying kt = some .string) : KeyOK P kt (fun l : List UInt8 => .s l) := fun a b => by
  rw [aEq_str (d := 63) hu]
  show some (a == b) = _
  congr 1
  rw [Bool.eq_iff_iff]; simp
theorem keyOK_int {kt : TypeId} {k : IntKind} (hu : P.underlying kt = some (.int k)) : KeyOK P kt (fun n : Int => .i k n) := fun a b => by
  rw [aEq_int (d := 63) hu]
  show (if k = k then some (a == b) else none) = _
  rw [if_pos rfl]
  congr 1
end

section
variable {P : Program}
theorem x_ext {f : FuncId} {fn : Func} {ex : Array Value → Sem Value} (hf : P.funcs[f]? = some fn) (hn : (fn.name == "runtime.NumGoroutine") = false) (hb : fn.body.isNone = true) (h1 : Extern.findNext fn = none) (h2 : Extern.find fn = some ex)
    {cargs : List Value} {w w0 : World} {Fz : Nat → Prop} {μ : Mu} {own : Nat → Option Nat} {h : AHeap} {K : AV → AHeap → Prop} {av : AV} {v : Value} (R : Rel w0 Fz μ own h w)
    (he : (ex cargs.toArray).run P w = .ok v w) (hv : VRel μ av v) (hk : K av h) : CallOK P f cargs w (PostOf w0 Fz μ K) :=
  .inr ⟨v, ext_run hf hn hb h1 h2 he, av, μ, own, h, hk, hv, R, Sub.refl _⟩
end
end Go.GAM

/- The rules for body-less functions; strings.Index at one byte, Cut, CutPrefix, Contains; small letters; MatchName. -/
set_option linter.unusedVariables false
set_option linter.unusedSimpArgs false
set_option linter.unusedSectionVars false
set_option maxRecDepth 20000
namespace Go.Proofs.YtomghnmoomodiaaGreatDoor
open Go.GAM Go.RowKit

/-- IndexByteString and CountString by the model's own entries. -/
instance xr1 : XR := ⟨fun f args h K =>
  (f = G_i_bytealg_IndexByteString.id ∧ ∃ (l : List UInt8) (c : UInt8), args = [.s l, .i .u8 (c.toNat : Int)] ∧ K (.i .i64 (Lib.indexByte l c)) h) ∨
  (f = G_i_bytealg_CountString.id ∧ ∃ (l : List UInt8) (c : UInt8), args = [.s l, .i .u8 (c.toNat : Int)] ∧ K (.i .i64 (Lib.countByte l c : Nat)) h)⟩

theorem mixedOK : prog.follows .mixedOrders = true := by kernel_rfl
theorem sizeOK : prog.funcs.size ≤ yid0 := Nat.le_of_ble_eq_true (by kernel_rfl)
noncomputable def fnIx : Func := (prog.funcs[G_i_bytealg_IndexByteString.id]?).getD default
noncomputable def fnCt : Func := (prog.funcs[G_i_bytealg_CountString.id]?).getD default
theorem fnIx_at : prog.funcs[G_i_bytealg_IndexByteString.id]? = some fnIx := by kernel_rfl
theorem fnCt_at : prog.funcs[G_i_bytealg_CountString.id]? = some fnCt := by kernel_rfl
theorem fnIx_find : Extern.find fnIx = some Extern.BytealgIndexByte.indexByte := by kernel_rfl
theorem fnCt_find : Extern.find fnCt = some Extern.BytealgCount.count := by kernel_rfl

theorem byte_back (c : UInt8) : ((c.toNat : Int).toNat).toUInt8 = c := by simp

theorem two_args {μ : Mu} {l : List UInt8} {n : Int} {cargs : List Value} (h : VRels μ [.s l, .i .u8 n] cargs) : ∃ x : ByteArray, x.data.toList = l ∧ cargs = [.string x, .int .u8 n] := by
  cases h with
  | cons _ _ _ _ a t =>
    cases t with
    | cons _ _ _ _ b t2 =>
      cases t2; cases b
      cases a with
      | s _ x hx => exact ⟨x, hx, rfl⟩

theorem soundX : Sound prog X := by
  rintro w0 Fz μb f args h K (⟨rfl, l, c, rfl, hk⟩ | ⟨rfl, l, c, rfl, hk⟩) μ own w cargs hsb R hc
  · rw [if_pos (by decide)]
    obtain ⟨x, rfl, rfl⟩ := two_args hc
    refine x_ext fnIx_at (by kernel_rfl) (by kernel_rfl) (by kernel_rfl) fnIx_find R (Lib.run_indexByteString x c.toNat w) (.i _ _) ?_
    rw [byte_back]; exact hk
  · rw [if_pos (by decide)]
    obtain ⟨x, rfl, rfl⟩ := two_args hc
    refine x_ext fnCt_at (by kernel_rfl) (by kernel_rfl) (by kernel_rfl) fnCt_find R (Lib.run_countString x c.toNat w) (.i _ _) ?_
    rw [byte_back]; exact hk

theorem ixb_c {l : List UInt8} {c : UInt8} {h : AHeap} {K : AV → AHeap → Prop} (hk : K (.i .i64 (Lib.indexByte l c)) h) : C G_i_bytealg_IndexByteString.id [.s l, .i .u8 (c.toNat : Int)] h K := acall_x (.inl ⟨rfl, l, c, rfl, hk⟩)
theorem ctb_c {l : List UInt8} {c : UInt8} {h : AHeap} {K : AV → AHeap → Prop} (hk : K (.i .i64 (Lib.countByte l c : Nat)) h) : C G_i_bytealg_CountString.id [.s l, .i .u8 (c.toNat : Int)] h K := acall_x (.inr ⟨rfl, l, c, rfl, hk⟩)

section
variable {h : AHeap} {Q : AV → AHeap → Prop}

theorem sindexByte_c {l : List UInt8} {c : UInt8} (hk : Q (.i .i64 (Lib.indexByte l c)) h) : C G_i_stringslite_IndexByte.id [.s l, .i .u8 (c.toNat : Int)] h Q := by
  refine G_i_stringslite_IndexByte.call ?_
  simp only [G_i_stringslite_IndexByte.t]
  exact ixb_c (st_asI (.inl hk))
theorem sindex_c {l : List UInt8} {c : UInt8} (hk : Q (.i .i64 (Lib.indexByte l c)) h) : C G_i_stringslite_Index.id [.s l, .s [c]] h Q := by
  refine G_i_stringslite_Index.call ?_
  simp only [G_i_stringslite_Index.t, G_i_stringslite_Index.j0]
  refine bif_f rfl ?_
  refine G_i_stringslite_Index.i0 ?_
  simp only [G_i_stringslite_Index.t0]
  refine bif_both (fun e => ?_) fun e => ?_
  · have e := of_decide_eq_true e
    subst e
    have : Lib.indexByte [c] c = 0 := by simp [Lib.indexByte]
    rw [this] at hk
    exact .inl hk
  · exact bif_t rfl (st_at (i := 0) rfl (sindexByte_c (st_asI (.inl hk))))
theorem ix_c {l : List UInt8} {c : UInt8} (hk : Q (.i .i64 (Lib.indexByte l c)) h) : C G_strings_Index.id [.s l, .s [c]] h Q := by
  refine G_strings_Index.call ?_
  simp only [G_strings_Index.t]
  exact sindex_c (st_asI (.inl hk))
theorem ct_c {l : List UInt8} {c : UInt8} (hk : Q (.i .i64 (Lib.countByte l c : Nat)) h) : C G_strings_Count.id [.s l, .s [c]] h Q := by
  refine G_strings_Count.call ?_
  simp only [G_strings_Count.t, G_strings_Count.j0]
  exact bif_f rfl (bif_t rfl (st_at (i := 0) rfl (ctb_c (st_asI (.inl hk)))))
theorem contains_c {l : List UInt8} {c : UInt8} (hk : Q (.b (decide (0 ≤ Lib.indexByte l c))) h) : C G_strings_Contains.id [.s l, .s [c]] h Q := by
  refine G_strings_Contains.call ?_
  simp only [G_strings_Contains.t]
  exact ix_c (st_asI (.inl hk))

def cutS (l : List UInt8) (c : UInt8) : List UInt8 × List UInt8 × Bool := if 0 ≤ Lib.indexByte l c then (l.take (Lib.indexByte l c).toNat, l.drop ((Lib.indexByte l c).toNat + 1), true) else (l, [], false)
theorem index_lt : ∀ (l : List UInt8) (c : UInt8), -1 ≤ Lib.indexByte l c ∧ Lib.indexByte l c < l.length
  | [], c => by simp [Lib.indexByte]
  | b :: l, c => by
    have := index_lt l c
    unfold Lib.indexByte
    split
    · simp
    · split
      · simp; omega
      · simp; omega
theorem cut_c {l : List UInt8} {c : UInt8} (hl : l.length ≤ 1000000000) (hk : Q (.tu [.s (cutS l c).1, .s (cutS l c).2.1, .b (cutS l c).2.2]) h) : C G_strings_Cut.id [.s l, .s [c]] h Q := by
  have hb := index_lt l c
  refine G_strings_Cut.call ?_
  simp only [G_strings_Cut.t]
  refine G_i_stringslite_Cut.call ?_
  simp only [G_i_stringslite_Cut.t]
  refine sindex_c (st_asI ?_)
  unfold cutS at hk
  by_cases h0 : 0 ≤ Lib.indexByte l c
  · rw [if_pos h0] at hk
    obtain ⟨n, hn⟩ : ∃ n : Nat, Lib.indexByte l c = n := ⟨(Lib.indexByte l c).toNat, by omega⟩
    rw [hn] at hk hb ⊢
    simp only [Int.toNat_natCast] at hk
    refine bif_t (by simp) (st_subs1 (by omega) (withI_is (n := ((n + 1 : Nat) : Int)) (by rw [wrap_i64 (by simp only [List.length_singleton]; omega) (by simp only [List.length_singleton]; omega)]; rfl) (st_subs (by omega) ?_)))
    exact .inl (st_ext0 (st_asS (st_ext1 (st_asS (st_ext2 (st_asB (.inl hk)))))))
  · rw [if_neg h0] at hk
    exact bif_f (by simp; omega) (.inl (st_ext0 (st_asS (st_ext1 (st_asS (st_ext2 (st_asB (.inl hk))))))))

def hasPre (l p : List UInt8) : Bool := decide (l.take p.length = p)
theorem hasPrefix_c {l p : List UInt8} (hk : Q (.b (hasPre l p)) h) : C G_i_stringslite_HasPrefix.id [.s l, .s p] h Q := by
  refine G_i_stringslite_HasPrefix.call ?_
  simp only [G_i_stringslite_HasPrefix.t, G_i_stringslite_HasPrefix.j0]
  unfold hasPre at hk
  by_cases hl : p.length ≤ l.length
  · refine bif_t (by simp; omega) (st_subs1 hl ?_)
    refine G_i_stringslite_HasPrefix.i0 ?_
    simp only [G_i_stringslite_HasPrefix.t0]
    exact .inl hk
  · refine bif_f (by simp; omega) ?_
    refine G_i_stringslite_HasPrefix.i0 ?_
    simp only [G_i_stringslite_HasPrefix.t0]
    rw [decide_eq_false (fun e => hl (by rw [← e]; simp; omega))] at hk
    exact .inl hk
theorem cutPrefix_c {l p : List UInt8} (hl : l.length ≤ 1000000000) (hk : Q (.tu [.s (if hasPre l p = true then l.drop p.length else l), .b (hasPre l p)]) h) : C G_strings_CutPrefix.id [.s l, .s p] h Q := by
  refine G_strings_CutPrefix.call ?_
  simp only [G_strings_CutPrefix.t]
  refine G_i_stringslite_CutPrefix.call ?_
  simp only [G_i_stringslite_CutPrefix.t]
  refine hasPrefix_c (st_asB ?_)
  cases hp : hasPre l p with
  | false =>
    rw [hp, if_neg (by simp)] at hk
    exact bif_t rfl (.inl (st_ext0 (st_asS (st_ext1 (st_asB (.inl hk))))))
  | true =>
    rw [hp, if_pos rfl] at hk
    have : p.length ≤ l.length := by
      have := of_decide_eq_true hp
      rw [← this]; simp; omega
    exact bif_f rfl (st_subs this (.inl (st_ext0 (st_asS (st_ext1 (st_asB (.inl hk)))))))
end

/-! ### small letters -/

def lowC (c : UInt8) : UInt8 := if 65 ≤ c.toNat ∧ c.toNat ≤ 90 then c + 32 else c
def lowS (l : List UInt8) : List UInt8 := l.map lowC
theorem lowC_up {c : UInt8} (h : 65 ≤ c.toNat ∧ c.toNat ≤ 90) : ((lowC c).toNat : Int) = (c.toNat : Int) + 32 := by
  unfold lowC; rw [if_pos h, UInt8.toNat_add]
  show (((c.toNat + 32) % 256 : Nat) : Int) = _
  omega
theorem lowC_no {c : UInt8} (h : ¬ (65 ≤ c.toNat ∧ c.toNat ≤ 90)) : lowC c = c := by unfold lowC; rw [if_neg h]

section
variable {s : List UInt8} {h0 : AHeap} {Q : AV → AHeap → Prop}

theorem small_p2 {v : AV} {i : Nat} {h : AHeap} (hi : i ≤ 1000000) (hk : G_certcheck_small.p0 (kRet h0 Q) v v s.length (i + 1 : Nat) h) : G_certcheck_small.p2 (kRet h0 Q) v v s.length i h := by
  refine G_certcheck_small.i2 ?_
  simp only [G_certcheck_small.t2, G_certcheck_small.j0]
  exact inc (by omega) hk
theorem small_p0 (hs : s.length ≤ 100000) : ∀ (r : List UInt8) (i : Nat) (v : AV) (h : AHeap), s.drop i = r → Tx h0 h v (lowS (s.take i) ++ r) → Q (.s (lowS s)) h0 → G_certcheck_small.p0 (kRet h0 Q) v v s.length i h := by
  intro r
  induction r with
  | nil =>
    intro i v h hr T hq
    have hl := drop_end hr
    refine G_certcheck_small.i0 ?_
    simp only [G_certcheck_small.t0, G_certcheck_small.j1]
    rw [List.append_nil, List.take_of_length_le hl] at T
    exact bif_f (by simp; omega) (T.ret hq)
  | cons c r ih =>
    intro i v h hr T hq
    have hlt := drop_lt hr
    have hn := drop_next hr
    have hc := c.toNat_lt
    have hti : (lowS (s.take i)).length = i := by simp [lowS]; omega
    have hat : (lowS (s.take i) ++ c :: r)[i]? = some c := by rw [List.getElem?_append_right (by omega), hti]; simp
    have hci := at_of_drop hr
    have htk : lowS (s.take (i + 1)) = lowS (s.take i) ++ [lowC c] := by
      rw [List.take_add_one, hci]; simp [lowS]
    have key : ∀ b, b = decide (65 ≤ c.toNat ∧ c.toNat ≤ 90) → G_certcheck_small.p1 (kRet h0 Q) v i (c.toNat : Int) v s.length i b h := by
      intro b hb
      refine G_certcheck_small.i1 ?_
      simp only [G_certcheck_small.t1, G_certcheck_small.j2]
      refine bif_both (fun e => ?_) fun e => ?_
      · subst e
        have hu : 65 ≤ c.toNat ∧ c.toNat ≤ 90 := by simpa using hb.symm
        refine withI_is (wrap_u8 (by omega) (by omega)) ?_
        refine withI_is (n := ((lowC c).toNat : Int)) (by rw [lowC_up hu, wrap_u8 (by omega) (by omega)]; omega) ?_
        refine T.store (by rw [List.length_append]; simp [hti]) fun h' T' => small_p2 (by omega) (ih (i + 1) v h' hn ?_ hq)
        rw [htk, List.append_assoc]
        rw [List.set_append_right _ _ (by omega), hti, Nat.sub_self] at T'
        exact T'
      · subst e
        have hu : ¬ (65 ≤ c.toNat ∧ c.toNat ≤ 90) := by simpa using hb.symm
        refine small_p2 (by omega) (ih (i + 1) v h hn ?_ hq)
        rw [htk, lowC_no hu, List.append_assoc]; exact T
    refine G_certcheck_small.i0 ?_
    simp only [G_certcheck_small.t0, G_certcheck_small.j1]
    refine bif_t (by simp; omega) (T.load hat (st_asI ?_))
    refine bif_both (fun e => key _ ?_) fun e => key _ ?_
    · simp only [decide_eq_true_eq] at e
      rw [decide_eq_decide]; omega
    · simp only [decide_eq_false_iff_not] at e
      symm; simp; omega
theorem small_c {h : AHeap} (hs : s.length ≤ 100000) (hk : Q (.s (lowS s)) h) : C G_certcheck_small.id [.s s] h Q := by
  refine G_certcheck_small.call ?_
  simp only [G_certcheck_small.t, G_certcheck_small.j0]
  exact Tx.ofStr fun v h' T => T.arr.rd.len (small_p0 hs s 0 v h' rfl (by simpa [lowS] using T) hk)
end

/-! ### MatchName -/

def matchS (p x : List UInt8) : Bool :=
  decide (lowS p = lowS x) || (hasPre (lowS p) [42, 46] && ((cutS (lowS x) 46).2.2 && (!decide ((cutS (lowS x) 46).1 = []) && (decide ((cutS (lowS x) 46).2.1 = (lowS p).drop 2) && decide (0 ≤ Lib.indexByte ((lowS p).drop 2) 46)))))

theorem lowS_len (l : List UInt8) : (lowS l).length = l.length := by simp [lowS]

section
variable {h : AHeap} {Q : AV → AHeap → Prop}
theorem match_c {p x : List UInt8} (hp : p.length ≤ 100000) (hx : x.length ≤ 100000) (hk : Q (.b (matchS p x)) h) : C G_certcheck_MatchName.id [.s p, .s x] h Q := by
  refine G_certcheck_MatchName.call ?_
  simp only [G_certcheck_MatchName.t, G_certcheck_MatchName.j0]
  refine small_c hp (st_asS (small_c hx (st_asS ?_)))
  have hlp := lowS_len p
  have hlx := lowS_len x
  unfold matchS at hk
  generalize lowS p = P at *
  generalize lowS x = X at *
  have fin : ∀ b, Q (.b b) h → G_certcheck_MatchName.p0 (kRet h Q) b h := by
    intro b hb
    refine G_certcheck_MatchName.i0 ?_
    simp only [G_certcheck_MatchName.t0]
    exact .inl hb
  cases hd : decide (P = X) with
  | true => rw [hd] at hk; exact bif_t rfl (.inl hk)
  | false =>
    rw [hd, Bool.false_or] at hk
    refine bif_f rfl (cutPrefix_c (by omega) (st_ext0 (st_asS (st_ext1 (st_asB (cut_c (by omega) (st_ext0 (st_asS (st_ext1 (st_asS (st_ext2 (st_asB ?_)))))))))))) 
    cases h1 : hasPre P [42, 46] with
    | false => rw [h1] at hk; exact bif_f rfl (fin _ hk)
    | true =>
      rw [h1, Bool.true_and] at hk
      refine bif_t rfl ?_
      cases h2 : (cutS X 46).2.2 with
      | false => rw [h2] at hk; exact bif_f rfl (fin _ hk)
      | true =>
        rw [h2, Bool.true_and] at hk
        refine bif_t rfl ?_
        cases h3 : decide ((cutS X 46).1 = []) with
        | true => rw [h3] at hk; exact bif_f rfl (fin _ hk)
        | false =>
          rw [h3] at hk
          refine bif_t rfl ?_
          rw [if_pos rfl]
          cases h4 : decide ((cutS X 46).2.1 = P.drop [42, 46].length) with
          | false =>
            have h4' : decide ((cutS X 46).2.1 = P.drop 2) = false := h4
            rw [h4'] at hk; exact bif_f rfl (fin _ hk)
          | true =>
            have h4' : decide ((cutS X 46).2.1 = P.drop 2) = true := h4
            rw [h4'] at hk
            exact bif_t rfl (contains_c (st_asB (fin _ hk)))
theorem match_self (x : List UInt8) : matchS x x = true := by unfold matchS; rw [decide_eq_true rfl]; rfl

/-! ### Text -/

def textS (n : Int) : List UInt8 :=
  if n = 1 then [101, 120, 112, 105, 114, 101, 100] else if n = 2 then [101, 97, 114, 108, 121] else if n = 3 then [110, 97, 109, 101] else if n = 4 then [115, 101, 108, 102] else
  if n = 5 then [117, 110, 116, 114, 117, 115, 116, 101, 100] else if n = 6 then [111, 114, 100, 101, 114] else if n = 7 then [97, 117, 116, 104, 111, 114, 105, 116, 121] else []
theorem text_c {n : Int} (hk : Q (.s (textS n)) h) : C G_certcheck_Text.id [.i .i64 n] h Q := by
  refine G_certcheck_Text.call ?_
  simp only [G_certcheck_Text.t]
  unfold textS at hk
  repeat' (refine bif_both (fun e => ?_) fun e => ?_)
  all_goals simp only [decide_eq_true_eq, decide_eq_false_iff_not] at *
  all_goals simp only [*, if_true, if_false] at hk
  all_goals first | exact .inl hk | (simp at hk; exact .inl hk)
theorem Rtext_c {n : Int} (hk : Q (.s (textS n)) h) : C G_ref35_Text.id [.i .i64 n] h Q := by
  refine G_ref35_Text.call ?_
  simp only [G_ref35_Text.t]
  unfold textS at hk
  repeat' (refine bif_both (fun e => ?_) fun e => ?_)
  all_goals simp only [decide_eq_true_eq, decide_eq_false_iff_not] at *
  all_goals simp only [*, if_true, if_false] at hk
  all_goals first | exact .inl hk | (simp at hk; exact .inl hk)
end

end Go.Proofs.YtomghnmoomodiaaGreatDoor

/- Certificates in memory; trust: newTrust, has. -/
set_option linter.unusedVariables false
set_option linter.unusedSimpArgs false
set_option linter.unusedSectionVars false
set_option maxRecDepth 20000
namespace Go.GAM
open Go.RowKit

theorem Upd.own {h h1 h2 : AHeap} {id : Nat} (a : Upd (fun _ => False) h h1) (b : Upd (· = id) h1 h2) (hid : h.length ≤ id) : Upd (fun _ => False) h h2 := a.trans b fun i hi e => by omega
theorem Upd.ownP {M : Nat → Prop} {h h1 h2 : AHeap} (a : Upd (fun _ => False) h h1) (b : Upd M h1 h2) (hM : ∀ i, M i → h.length ≤ i) : Upd (fun _ => False) h h2 := a.trans b fun i hi e => by have := hM i e; omega
theorem Upd.then {h h1 h2 : AHeap} (a : Upd (fun _ => False) h h1) (b : Upd (fun _ => False) h1 h2) : Upd (fun _ => False) h h2 := a.trans b fun _ _ h => h

theorem st_pb {zeros cs : List AV} {parts : List (Nat × Nat × AV)} {K : AV → Prop} (hf : fillA zeros parts = some cs) (hk : K (.ag cs)) : pBuild zeros parts K := by
  unfold pBuild; rw [hf]; exact hk

/-- A slice that is read by index. -/
def RdI (sz : Nat) (h : AHeap) (v : AV) (cs : List AV) (len : Nat) : Prop :=
  (v = .sl none 0 none ∧ len = 0 ∧ cs = []) ∨ (len = 0 ∧ cs = [] ∧ ∃ a c, v = .sl (some a) 0 c) ∨ ∃ id ver off cap b, v = .sl (some ⟨id, ver, off⟩) len cap ∧ h[id]? = some b ∧ b.floor ≤ ver ∧ ver ≤ b.cells.length ∧ off + len * sz ≤ ver ∧ (b.cells.drop off).take (len * sz) = cs
theorem Rd.i {sz : Nat} {h : AHeap} {v : AV} {cs : List AV} {len : Nat} (R : Rd sz h v cs len) : RdI sz h v cs len := by
  rcases R with h1 | ⟨id, ver, off, cap, b, h1, h2, h3, h4⟩
  · exact .inl h1
  · exact .inr (.inr ⟨id, ver, off, cap, b, h1, h2, h4⟩)
theorem SArg.i {sz : Nat} {h : AHeap} {v : AV} {cs : List AV} {len : Nat} (R : SArg sz h v cs len) : RdI sz h v cs len := by
  rcases R with R | h1
  · exact R.i
  · exact .inr (.inl h1)
theorem RdI.ext {sz : Nat} {h h' : AHeap} {v : AV} {cs : List AV} {len : Nat} (R : RdI sz h v cs len) (U : Upd (fun _ => False) h h') : RdI sz h' v cs len := by
  rcases R with h1 | h1 | ⟨id, ver, off, cap, b, rfl, h2, h3⟩
  · exact .inl h1
  · exact .inr (.inl h1)
  · exact .inr (.inr ⟨id, ver, off, cap, b, rfl, (U.2 id (lt_of_some h2) fun h => h).trans h2, h3⟩)
theorem RdI.len {sz : Nat} {h : AHeap} {v : AV} {cs : List AV} {len : Nat} (R : RdI sz h v cs len) {K : Int → Prop} (hk : K len) : pLenSl v K := by
  rcases R with ⟨rfl, rfl, rfl⟩ | ⟨rfl, _, a, c, rfl⟩ | ⟨id, ver, off, cap, b, rfl, h2⟩ <;> exact hk
theorem RdI.isSl {sz : Nat} {h : AHeap} {v : AV} {cs : List AV} {len : Nat} (R : RdI sz h v cs len) : ∃ a n c, v = .sl a n c := by
  rcases R with ⟨rfl, rfl, rfl⟩ | ⟨rfl, _, a, c, rfl⟩ | ⟨id, ver, off, cap, b, rfl, h2⟩ <;> exact ⟨_, _, _, rfl⟩
/-- The place of an element: it holds the element's cells. -/
def PtAt (sz : Nat) (h : AHeap) (p : AV) (cs : List AV) : Prop := ∃ id ver off, p = .p (some ⟨id, ver, off⟩) ∧ ∃ b : ABlk, h[id]? = some b ∧ b.floor ≤ ver ∧ ver ≤ b.cells.length ∧ off + sz ≤ ver ∧ (b.cells.drop off).take sz = cs
theorem RdI.at {sz : Nat} {h : AHeap} {v : AV} {cs : List AV} {len : Nat} (R : RdI sz h v cs len) {i : Nat} (h1 : i < len) : ∃ p, PtAt sz h p ((cs.drop (i * sz)).take sz) ∧ ∀ (k : IntKind) (h' : AHeap) (K : AV → Prop), Upd (fun _ => False) h h' → K p → pIdxAddrSl sz v (.i k (i : Int)) h' K := by
  rcases R with ⟨rfl, rfl, rfl⟩ | ⟨rfl, _⟩ | ⟨id, ver, off, cap, b, rfl, h2, h4, h5, h6, rfl⟩
  · omega
  · omega
  · have e1 : (i + 1) * sz ≤ len * sz := Nat.mul_le_mul_right _ (by omega)
    rw [Nat.add_mul] at e1
    refine ⟨.p (some ⟨id, ver, off + i * sz⟩), ⟨id, ver, off + i * sz, rfl, b, h2, h4, h5, by omega, ?_⟩, fun k h' K U hk => ?_⟩
    · rw [List.drop_take, List.drop_drop, List.take_take, Nat.min_eq_left (by omega)]
    · refine ⟨by omega, by omega, ⟨b, (U.2 id (lt_of_some h2) fun h => h).trans h2, h4, by omega⟩, ?_⟩
      simpa using hk
theorem PtAt.ext {sz : Nat} {h h' : AHeap} {p : AV} {cs : List AV} (A : PtAt sz h p cs) (U : Upd (fun _ => False) h h') : PtAt sz h' p cs := by
  obtain ⟨id, ver, off, rfl, b, h1, h2⟩ := A
  exact ⟨id, ver, off, rfl, b, (U.2 id (lt_of_some h1) fun h => h).trans h1, h2⟩
theorem PtAt.loadN {sz : Nat} {h : AHeap} {p : AV} {cs : List AV} (A : PtAt sz h p cs) {K : AV → Prop} (hk : K (.ag cs)) : pLoadN sz p h K := by
  obtain ⟨id, ver, off, rfl, b, h1, h2, h3, h4, rfl⟩ := A
  exact ⟨b, h1, ⟨h2, h3, h4⟩, hk⟩
theorem PtAt.fld {sz : Nat} {h : AHeap} {p : AV} {cs : List AV} (A : PtAt sz h p cs) {o : Nat} {c : AV} (hc : cs[o]? = some c) {K : AV → Prop} (hk : K c) : pFieldAddr o p fun q => pLoad1 q h K := by
  obtain ⟨id, ver, off, rfl, b, h1, h2, h3, h4, rfl⟩ := A
  have ho := lt_of_some hc
  simp only [List.length_take, List.length_drop] at ho
  refine ⟨b, h1, ⟨h2, h3, by simp only; omega⟩, ?_⟩
  rw [List.getElem?_take_of_lt (by omega), List.getElem?_drop] at hc
  show K (b.cells.getD (off + o) .u)
  rw [getD_some hc]; exact hk
theorem PtAt.load1 {h : AHeap} {p : AV} {c : AV} (A : PtAt 1 h p [c]) {K : AV → Prop} (hk : K c) : pLoad1 p h K := by
  obtain ⟨id, ver, off, rfl, b, h1, h2, h3, h4, h5⟩ := A
  refine ⟨b, h1, ⟨h2, h3, h4⟩, ?_⟩
  have : b.cells[off]? = some c := by
    have : ((b.cells.drop off).take 1)[0]? = some c := by rw [h5]; rfl
    rw [List.getElem?_take_of_lt (by omega), List.getElem?_drop] at this
    simpa using this
  show K (b.cells.getD off .u)
  rw [getD_some this]; exact hk
/-- A string out of a list. -/
theorem RdI.str {h h' : AHeap} {v : AV} {l : List (List UInt8)} (R : RdI 1 h v (l.map .s) l.length) (U : Upd (fun _ => False) h h') {k : IntKind} {i : Nat} {x : List UInt8} (hx : l[i]? = some x) {K : List UInt8 → Prop} (hk : K x) : pIdxAddrSl 1 v (.i k (i : Int)) h' fun a => pLoad1 a h' fun y => asS y K := by
  obtain ⟨p, A, hp⟩ := R.at (lt_of_some hx)
  have e : ((l.map AV.s).drop (i * 1)).take 1 = [.s x] := by
    rw [Nat.mul_one, ← List.map_drop, drop_of_at hx]; rfl
  rw [e] at A
  exact hp k h' _ U ((A.ext U).load1 (st_asS hk))

end Go.GAM
namespace Go.Proofs.YtomghnmoomodiaaGreatDoor
open Go.GAM Go.RowKit

structure Cert where
  serial : List UInt8
  issuer : List UInt8
  subject : List UInt8
  frm : Int
  til : Int
  names : List (List UInt8)
  auth : Bool
  key : List UInt8

/-- A certificate's cells; its names lie in the heap. -/
def certC (c : Cert) (v : AV) : List AV := [.s c.serial, .s c.issuer, .s c.subject, .i .i64 c.frm, .i .i64 c.til, v, .b c.auth, .s c.key]
def CV (h : AHeap) (c : Cert) (cs : List AV) : Prop := ∃ v, cs = certC c v ∧ RdI 1 h v (c.names.map .s) c.names.length
theorem CV.ext {h h' : AHeap} {c : Cert} {cs : List AV} (A : CV h c cs) (U : Upd (fun _ => False) h h') : CV h' c cs := by
  obtain ⟨v, h1, h2⟩ := A; exact ⟨v, h1, h2.ext U⟩
theorem CV.len {h : AHeap} {c : Cert} {cs : List AV} (A : CV h c cs) : cs.length = 8 := by obtain ⟨v, rfl, _⟩ := A; rfl
theorem CV.ok {h : AHeap} {c : Cert} {cs : List AV} (A : CV h c cs) : cs.all AV.cellOK = true := by
  obtain ⟨v, rfl, R⟩ := A
  obtain ⟨a, n, k, rfl⟩ := R.isSl
  rfl

/-- A list of certificates. -/
def CVs (h : AHeap) : List Cert → List (List AV) → Prop
  | [], [] => True
  | c :: cs, r :: rs => CV h c r ∧ CVs h cs rs
  | _, _ => False
theorem CVs.ext {h h' : AHeap} (U : Upd (fun _ => False) h h') : ∀ {l : List Cert} {rs : List (List AV)}, CVs h l rs → CVs h' l rs
  | [], [], _ => trivial
  | _ :: _, _ :: _, ⟨a, b⟩ => ⟨a.ext U, CVs.ext U b⟩
theorem CVs.get {h : AHeap} : ∀ {l : List Cert} {rs : List (List AV)} {i : Nat} {c : Cert}, CVs h l rs → l[i]? = some c → ∃ r, (rs.flatten.drop (i * 8)).take 8 = r ∧ CV h c r
  | c :: _, r :: rs, 0, _, ⟨a, b⟩, h1 => by
    simp at h1; subst h1
    refine ⟨r, ?_, a⟩
    rw [List.flatten_cons, Nat.zero_mul, List.drop_zero, List.take_append, List.take_of_length_le (by rw [a.len]; exact Nat.le_refl _), a.len]; simp
  | _ :: _, r :: rs, i + 1, _, ⟨a, b⟩, h1 => by
    obtain ⟨r', h2, h3⟩ := CVs.get b (by simpa using h1)
    refine ⟨r', ?_, h3⟩
    rw [List.flatten_cons, List.drop_append, List.drop_eq_nil_of_le (by rw [a.len, Nat.add_mul]; omega), a.len, List.nil_append, Nat.add_mul, show i * 8 + 1 * 8 - 8 = i * 8 by omega]; exact h2
def CL (h : AHeap) (v : AV) (l : List Cert) : Prop := ∃ rs, RdI 8 h v rs.flatten l.length ∧ CVs h l rs
theorem CL.ext {h h' : AHeap} {v : AV} {l : List Cert} (A : CL h v l) (U : Upd (fun _ => False) h h') : CL h' v l := by
  obtain ⟨rs, h1, h2⟩ := A; exact ⟨rs, h1.ext U, h2.ext U⟩
theorem CL.len {h : AHeap} {v : AV} {l : List Cert} (A : CL h v l) {K : Int → Prop} (hk : K l.length) : pLenSl v K := by
  obtain ⟨rs, h1, h2⟩ := A; exact h1.len hk
theorem CL.at {h : AHeap} {v : AV} {l : List Cert} (A : CL h v l) {i : Nat} {c : Cert} (hc : l[i]? = some c) : ∃ p r, CV h c r ∧ PtAt 8 h p r ∧ ∀ (k : IntKind) (h' : AHeap) (K : AV → Prop), Upd (fun _ => False) h h' → K p → pIdxAddrSl 8 v (.i k (i : Int)) h' K := by
  obtain ⟨rs, h1, h2⟩ := A
  obtain ⟨r, h3, h4⟩ := h2.get hc
  obtain ⟨p, B, hp⟩ := h1.at (lt_of_some hc)
  rw [h3] at B
  exact ⟨p, r, h4, B, hp⟩
theorem CL.nil (h : AHeap) : CL h (.sl none 0 none) [] := ⟨[], .inl ⟨rfl, rfl, rfl⟩, trivial⟩
def z8 : List AV := [.s [], .s [], .s [], .i .i64 0, .i .i64 0, .sl none 0 none, .b false, .s []]

/-! ### trust -/

def ancK (x : List UInt8 × List UInt8) : AV := .ag [.s x.1, .s x.2]
theorem keyStr : KeyOK prog 9 (fun l : List UInt8 => AV.s l) := keyOK_str Tryz.underlying9
theorem keyAnc : KeyOK prog 60 ancK := by
  intro a b
  obtain ⟨a1, a2⟩ := a
  obtain ⟨b1, b2⟩ := b
  have hs := aEq_str (P := prog) (d := 62) (kt := 9) Tryz.underlying9
  have hst : prog.stoodInHeld 60 = false := by kernel_rfl
  show aEq prog (63 + 1) 60 (.ag [.s a1, .s a2]) (.ag [.s b1, .s b2]) = _
  unfold aEq
  rw [show prog.underlying 60 = _ from Tryz.underlying60]
  simp only [hst]
  simp [hs, show prog.underlying 9 = _ from Tryz.underlying9]
  rw [Bool.eq_iff_iff]; simp

def ancKV (l : List Cert) : List ((List UInt8 × List UInt8) × AV) := l.foldl (fun kv c => upM kv (c.subject, c.key) (.b true)) []
def autKV (l : List Cert) : List (List UInt8 × AV) := l.foldl (fun kv c => if c.auth = true then upM kv c.subject (.b true) else kv) []
def hasS (l : List Cert) (c : Cert) : Bool := l.any fun t => decide (t.subject = c.subject) && decide (t.key = c.key)
def autS (l : List Cert) (s : List UInt8) : Bool := l.any fun t => t.auth && decide (t.subject = s)
theorem anc_lk (x : List UInt8 × List UInt8) : ∀ (l : List Cert) (kv), lkM (l.foldl (fun kv c => upM kv (c.subject, c.key) (.b true)) kv) x = if (l.any fun t => decide ((t.subject, t.key) = x)) = true then some (.b true) else lkM kv x
  | [], kv => by simp
  | c :: l, kv => by
    rw [List.foldl_cons, anc_lk x l, lkM_up, List.any_cons]
    by_cases h : x = (c.subject, c.key)
    · subst h; simp
    · rw [if_neg h, decide_eq_false (fun e => h e.symm), Bool.false_or]
theorem aut_lk (x : List UInt8) : ∀ (l : List Cert) (kv), lkM (l.foldl (fun kv c => if c.auth = true then upM kv c.subject (.b true) else kv) kv) x = if (l.any fun t => t.auth && decide (t.subject = x)) = true then some (.b true) else lkM kv x
  | [], kv => by simp
  | c :: l, kv => by
    rw [List.foldl_cons, aut_lk x l, List.any_cons]
    cases hc : c.auth with
    | false => simp
    | true =>
      rw [if_pos rfl, lkM_up]
      by_cases h : x = c.subject
      · subst h; simp
      · rw [if_neg h, Bool.true_and, decide_eq_false (fun e => h e.symm), Bool.false_or]
theorem anc_has (l : List Cert) (c : Cert) : (lkM (ancKV l) (c.subject, c.key)).getD (.b false) = .b (hasS l c) := by
  unfold ancKV
  rw [anc_lk]
  have e : (l.any fun t => decide ((t.subject, t.key) = (c.subject, c.key))) = hasS l c := by
    unfold hasS; congr 1; funext t; rw [Bool.eq_iff_iff]; simp
  rw [e]
  cases hasS l c <;> rfl
theorem aut_has (l : List Cert) (s : List UInt8) : (lkM (autKV l) s).getD (.b false) = .b (autS l s) := by
  unfold autKV
  rw [aut_lk]
  have e : (l.any fun t => t.auth && decide (t.subject = s)) = autS l s := rfl
  rw [e]
  cases autS l s <;> rfl

/-- Trust in memory. -/
structure TrAt (h : AHeap) (m1 m2 : Nat) (l : List Cert) : Prop where
  anc : MapAt ancK h m1 (ancKV l)
  aut : MapAt (fun x : List UInt8 => AV.s x) h m2 (autKV l)
theorem TrAt.ext {h h' : AHeap} {m1 m2 : Nat} {l : List Cert} (T : TrAt h m1 m2 l) (U : Upd (fun _ => False) h h') : TrAt h' m1 m2 l := ⟨T.1.upd U fun h => h, T.2.upd U fun h => h⟩

section
variable {h : AHeap} {Q : AV → AHeap → Prop}

theorem newTrust_p0 {v : AV} {l : List Cert} (L : CL h v l) (hl : l.length ≤ 100000) : ∀ (r : List Cert) (i : Nat) (hx : AHeap), l.drop i = r → Upd (fun _ => False) h hx → h.length + 4 ≤ hx.length → RecAt hx h.length [.mp none, .mp none] → RecAt hx (h.length + 3) [.mp (some (h.length + 1)), .mp (some (h.length + 2))] →
    TrAt hx (h.length + 1) (h.length + 2) (l.take i) → (∀ h', Upd (fun _ => False) h h' → h.length + 4 ≤ h'.length → TrAt h' (h.length + 1) (h.length + 2) l → Q (.ag [.mp (some (h.length + 1)), .mp (some (h.length + 2))]) h') →
    G_certcheck_newTrust.p0 (kRet h Q) (.p (some ⟨h.length, 2, 0⟩)) (.p (some ⟨h.length + 3, 2, 0⟩)) v l.length i hx := by
  intro r
  induction r with
  | nil =>
    intro i hx hr U hlx R2 R3 T hq
    have hle := drop_end hr
    rw [List.take_of_length_le hle] at T
    refine G_certcheck_newTrust.i0 ?_
    simp only [G_certcheck_newTrust.t0, G_certcheck_newTrust.j1]
    refine bif_f (by simp; omega) (st_loadN R3 rfl (st_storeN R2 rfl rfl rfl fun h1 hl1 U1 R2' => st_loadN R2' rfl (.inl (hq h1 (U.own U1 (Nat.le_refl _)) (by omega) ⟨T.1.upd U1 (by omega), T.2.upd U1 (by omega)⟩))))
  | cons c r ih =>
    intro i hx hr U hlx R2 R3 T hq
    have hlt := drop_lt hr
    have hn := drop_next hr
    have hci := at_of_drop hr
    obtain ⟨p, rw_, A, B, hp⟩ := (L.ext U).at hci
    have hA := A.ok
    obtain ⟨w, rfl, hw⟩ := A
    have htk := take_snoc hci
    refine G_certcheck_newTrust.i0 ?_
    simp only [G_certcheck_newTrust.t0, G_certcheck_newTrust.j1]
    refine bif_t (by simp; omega) (hp _ hx _ (Upd.refl _ _) (B.loadN (st_alloc fun h1 hl1 U1 Rc => st_storeN Rc rfl rfl hA fun h2 hl2 U2 Rc => ?_)))
    have U02 : Upd (fun _ => False) hx h2 := U1.own U2 (Nat.le_refl _)
    have R2 := R2.upd U02 fun h => h
    have R3 := R3.upd U02 fun h => h
    have T := T.ext U02
    refine st_fld (st_load R3 rfl rfl (st_fld (st_load Rc rfl rfl (st_asS (st_fld (st_load Rc rfl rfl (st_asS ?_)))))))
    refine st_mapset (κ := ancK) (x := (c.subject, c.key)) T.1 keyAnc (by kernel_rfl) rfl fun h3 hl3 U3 M1 => ?_
    have R2 := R2.upd U3 (by omega)
    have R3 := R3.upd U3 (by omega)
    have Rc := Rc.upd U3 (by omega)
    have M2 := T.2.upd U3 (by omega)
    have e1 : upM (ancKV (l.take i)) (c.subject, c.key) (.b true) = ancKV (l.take (i + 1)) := by rw [htk]; simp [ancKV]
    rw [e1] at M1
    have U03 : Upd (fun _ => False) h h3 := (U.then U02).own U3 (by omega)
    refine st_fld (st_load Rc rfl rfl (st_asB (bif_both (fun e => ?_) fun e => ?_)))
    · refine st_fld (st_load R3 rfl rfl (st_fld (st_load Rc rfl rfl (st_asS ?_))))
      refine st_mapset (κ := fun x : List UInt8 => AV.s x) (x := c.subject) M2 keyStr (by kernel_rfl) rfl fun h4 hl4 U4 M2 => ?_
      have e2 : upM (autKV (l.take i)) c.subject (.b true) = autKV (l.take (i + 1)) := by rw [htk]; simp [autKV, e]
      rw [e2] at M2
      refine G_certcheck_newTrust.i1 ?_
      simp only [G_certcheck_newTrust.t1, G_certcheck_newTrust.j0]
      exact inc (by omega) (ih (i + 1) h4 hn (U03.own U4 (by omega)) (by have := U02.1; omega) (R2.upd U4 (by omega)) (R3.upd U4 (by omega)) ⟨M1.upd U4 (by omega), M2⟩ hq)
    · have e2 : autKV (l.take i) = autKV (l.take (i + 1)) := by rw [htk]; simp [autKV, e]
      rw [e2] at M2
      refine G_certcheck_newTrust.i1 ?_
      simp only [G_certcheck_newTrust.t1, G_certcheck_newTrust.j0]
      exact inc (by omega) (ih (i + 1) h3 hn U03 (by have := U02.1; omega) R2 R3 ⟨M1, M2⟩ hq)

theorem newTrust_c {v : AV} {l : List Cert} (L : CL h v l) (hl : l.length ≤ 100000) (hq : ∀ m1 m2 h', Upd (fun _ => False) h h' → TrAt h' m1 m2 l → h.length ≤ m1 → h.length ≤ m2 → Q (.ag [.mp (some m1), .mp (some m2)]) h') : C G_certcheck_newTrust.id [v] h Q := by
  refine G_certcheck_newTrust.call ?_
  simp only [G_certcheck_newTrust.t, G_certcheck_newTrust.j0]
  refine st_alloc fun h1 hl1 U1 R2 => st_makeMap ancK fun h2 hl2 U2 M1 => st_makeMap (fun x : List UInt8 => AV.s x) fun h3 hl3 U3 M2 => st_pb (cs := [.mp (some h1.length), .mp (some h2.length)]) rfl ?_
  refine st_alloc fun h4 hl4 U4 R3 => st_storeN R3 rfl rfl rfl fun h5 hl5 U5 R3 => L.len ?_
  have e1 : h1.length = h.length + 1 := hl1
  have e2 : h2.length = h.length + 2 := by omega
  have e3 : h3.length = h.length + 3 := by omega
  rw [e3, e2, e1] at R3
  rw [e1] at M1
  rw [e2] at M2
  rw [e3]
  have U := (((U1.then U2).then U3).then U4).own U5 (by omega)
  have U25 : Upd (fun _ => False) h1 h5 := (((U2).then U3).then U4).own U5 (by omega)
  have U35 : Upd (fun _ => False) h2 h5 := (U3.then U4).own U5 (by omega)
  have U45 : Upd (fun _ => False) h3 h5 := U4.own U5 (by omega)
  exact newTrust_p0 L hl l 0 h5 rfl U (by omega) (R2.upd U25 fun h => h) R3 ⟨M1.upd U35 fun h => h, M2.upd U45 fun h => h⟩ fun h' U' hl' T => hq _ _ _ U' T (by omega) (by omega)

theorem has_c {m1 m2 : Nat} {l : List Cert} {c : Cert} {cs : List AV} (T : TrAt h m1 m2 l) (A : CV h c cs) (hq : Q (.b (hasS l c)) h) : C G_certcheck_trust_has.id [.ag [.mp (some m1), .mp (some m2)], .ag cs] h Q := by
  obtain ⟨w, rfl, hw⟩ := A
  refine G_certcheck_trust_has.call ?_
  simp only [G_certcheck_trust_has.t]
  refine st_box rfl fun h1 hl1 U1 R1 => st_box rfl fun h2 hl2 U2 R2 => ?_
  have R1 := R1.upd U2 fun h => h
  refine st_fld (st_load R1 rfl rfl (st_fld (st_load R2 rfl rfl (st_asS (st_fld (st_load R2 rfl rfl (st_asS ?_)))))))
  refine st_lookup (κ := ancK) (x := (c.subject, c.key)) (z := .b false) ((T.ext (U1.then U2)).1) keyAnc (by kernel_rfl) (by kernel_rfl) ?_
  rw [anc_has]
  exact st_asB (kRet_pure rfl (U1.then U2).ext hq)
end
end Go.Proofs.YtomghnmoomodiaaGreatDoor

/- names; Check, the program's. -/
set_option linter.unusedVariables false
set_option linter.unusedSimpArgs false
set_option linter.unusedSectionVars false
set_option maxRecDepth 20000
namespace Go.Proofs.YtomghnmoomodiaaGreatDoor
open Go.GAM Go.RowKit

/-- The texts of a certificate are short enough. -/
def shortC (c : Cert) : Prop := ∀ n ∈ c.names, n.length ≤ 100000
def nmS (cm : List UInt8 → List UInt8) (c : Cert) (x : List UInt8) : Bool := if c.names = [] then matchS (cm c.subject) x else c.names.any fun n => matchS n x
/-- What is known of Common at a text. -/
def CommonAt (cm : List UInt8 → List UInt8) (s : List UInt8) : Prop := (cm s).length ≤ 100000 ∧ ∀ (h : AHeap) (Q : AV → AHeap → Prop), (∀ h', Upd (fun _ => False) h h' → Q (.s (cm s)) h') → C G_certificate_Common.id [.s s] h Q

def num (n : Nat) : AV := .i .i64 (n : Int)

/-- A finding at a place. -/
def fAt (tr : List Cert) (at' : Int) (ch : List Cert) (f i : Nat) : Bool := match ch[i]? with
  | none => false
  | some c => if f = 1 then decide (c.til < at') else if f = 2 then decide (at' < c.frm) else if f = 4 then decide (c.issuer = c.subject) && !hasS tr c else
      if f = 6 then (match ch[i + 1]? with
        | none => false
        | some d => !decide (c.issuer = d.subject)) else if f = 7 then decide (0 < i) && !c.auth else false
def fAny (tr : List Cert) (at' : Int) (ch : List Cert) (f : Nat) : Bool := (List.range ch.length).any (fAt tr at' ch f)
def holdS (cm : List UInt8 → List UInt8) (tr : List Cert) (x : List UInt8) (ch : List Cert) (f : Nat) : Bool :=
  if f = 3 then !decide (x = []) && (match ch[0]? with
    | none => false
    | some c => !nmS cm c x) else if f = 5 then (match ch[ch.length - 1]? with
    | none => false
    | some c => !hasS tr c && !autS tr c.issuer) else false
def foundS (cm : List UInt8 → List UInt8) (tr : List Cert) (x : List UInt8) (at' : Int) (ch : List Cert) (f : Nat) : Bool := holdS cm tr x ch f || fAny tr at' ch f
def outS (cm : List UInt8 → List UInt8) (tr : List Cert) (x : List UInt8) (at' : Int) (ch : List Cert) (k : Nat) : List Nat := ((List.range k).map (· + 1)).filter (foundS cm tr x at' ch)
theorem outS_succ (cm tr x at' ch) (k : Nat) : outS cm tr x at' ch (k + 1) = outS cm tr x at' ch k ++ if foundS cm tr x at' ch (k + 1) = true then [k + 1] else [] := by
  unfold outS
  rw [List.range_succ, List.map_append, List.filter_append]
  congr 1
  simp only [List.map_cons, List.map_nil, List.filter_cons, List.filter_nil]
theorem outS_len (cm tr x at' ch) (k : Nat) : (outS cm tr x at' ch k).length ≤ k := by
  unfold outS
  have := List.length_filter_le (foundS cm tr x at' ch) ((List.range k).map (· + 1))
  simpa using this
/-- What Check hands back. -/
def checkS (cm : List UInt8 → List UInt8) (tr : List Cert) (x : List UInt8) (at' : Int) (ch : List Cert) : List Nat := if ch = [] then [5] else outS cm tr x at' ch 7

section
variable {cm : List UInt8 → List UInt8} {h : AHeap} {Q : AV → AHeap → Prop}

theorem names_p0 {c : Cert} {x : List UInt8} {v : AV} {h0 : AHeap} (R : RdI 1 h v (c.names.map .s) c.names.length) (hc : shortC c) (hx : x.length ≤ 100000) (hl : c.names.length ≤ 1000000) : ∀ (r : List (List UInt8)) (i : Nat), c.names.drop i = r → kRet h0 Q (.b (r.any fun n => matchS n x)) h → G_certcheck_names.p0 (kRet h0 Q) x v c.names.length i h := by
  intro r
  induction r with
  | nil =>
    intro i hr hq
    have := drop_end hr
    refine G_certcheck_names.i0 ?_
    simp only [G_certcheck_names.t0]
    exact bif_f (by simp; omega) hq
  | cons n r ih =>
    intro i hr hq
    have hlt := drop_lt hr
    have hn := drop_next hr
    have hni := at_of_drop hr
    refine G_certcheck_names.i0 ?_
    simp only [G_certcheck_names.t0, G_certcheck_names.j0]
    refine bif_t (by simp; omega) (R.str (Upd.refl _ _) hni (match_c (hc n (List.mem_of_getElem? hni)) hx (st_asB ?_)))
    rw [List.any_cons] at hq
    cases hm : matchS n x with
    | true => rw [hm] at hq; exact bif_t rfl hq
    | false => rw [hm, Bool.false_or] at hq; exact bif_f rfl (inc (by omega) (ih (i + 1) hn hq))
theorem names_c {c : Cert} {cs : List AV} {x : List UInt8} (A : CV h c cs) (hc : shortC c) (hx : x.length ≤ 100000) (hl : c.names.length ≤ 1000000) (hcm : c.names = [] → CommonAt cm c.subject) (hq : ∀ h', Upd (fun _ => False) h h' → Q (.b (nmS cm c x)) h') : C G_certcheck_names.id [.ag cs, .s x] h Q := by
  obtain ⟨w, rfl, hw⟩ := A
  refine G_certcheck_names.call ?_
  simp only [G_certcheck_names.t, G_certcheck_names.j0]
  refine st_box rfl fun h1 hl1 U1 R1 => st_fld (st_load R1 rfl rfl (hw.len ?_))
  have hw1 := hw.ext U1
  unfold nmS at hq
  by_cases hn : c.names = []
  · rw [if_pos hn] at hq
    refine bif_t (by simp [hn]) (st_fld (st_load R1 rfl rfl (st_asS ((hcm hn).2 _ _ fun h2 U2 => st_asS (match_c (hcm hn).1 hx (st_asB (.inl (hq h2 (U1.then U2)))))))))
  · rw [if_neg hn] at hq
    refine bif_f (by simp [hn]) (st_fld (st_load R1 rfl rfl (hw1.len (names_p0 hw1 hc hx hl c.names 0 rfl ?_))))
    exact .inl (hq h1 U1)

/-- The closure's captured places. -/
structure Cap (h : AHeap) (b1 b2 b3 b4 : Nat) (x : List UInt8) (v : AV) (m1 m2 n : Nat) : Prop where
  c1 : RecAt h b1 [.s x]
  c2 : RecAt h b2 [v]
  c3 : RecAt h b3 [.mp (some m1), .mp (some m2)]
  c4 : RecAt h b4 [num n]
theorem Cap.ext {h h' : AHeap} {b1 b2 b3 b4 : Nat} {x : List UInt8} {v : AV} {m1 m2 n : Nat} (A : Cap h b1 b2 b3 b4 x v m1 m2 n) (U : Upd (fun _ => False) h h') : Cap h' b1 b2 b3 b4 x v m1 m2 n :=
  ⟨A.1.upd U fun h => h, A.2.upd U fun h => h, A.3.upd U fun h => h, A.4.upd U fun h => h⟩

theorem hold_c {b1 b2 b3 b4 m1 m2 f : Nat} {v : AV} {x : List UInt8} {ch tr : List Cert} (A : Cap h b1 b2 b3 b4 x v m1 m2 (ch.length - 1)) (T : TrAt h m1 m2 tr) (L : CL h v ch) (hne : ch ≠ []) (hs : ∀ c ∈ ch, shortC c ∧ c.names.length ≤ 1000000) (hx : x.length ≤ 100000) (hcm : ∀ c, ch[0]? = some c → c.names = [] → CommonAt cm c.subject)
    (hq : ∀ h', Upd (fun _ => False) h h' → Q (.b (holdS cm tr x ch f)) h') : C G_certcheck_Check_1.id [.i .i64 (f : Int), .p (some ⟨b1, 1, 0⟩), .p (some ⟨b2, 1, 0⟩), .p (some ⟨b3, 2, 0⟩), .p (some ⟨b4, 1, 0⟩)] h Q := by
  have hpos := List.length_pos_iff.2 hne
  refine G_certcheck_Check_1.call ?_
  simp only [G_certcheck_Check_1.t, G_certcheck_Check_1.j0, G_certcheck_Check_1.j1]
  have p0 : ∀ b hx, kRet h Q (.b b) hx → G_certcheck_Check_1.p0 (kRet h Q) b hx := by
    intro b hx hb
    refine G_certcheck_Check_1.i0 ?_
    simp only [G_certcheck_Check_1.t0]
    exact hb
  have p1 : ∀ b hx, kRet h Q (.b b) hx → G_certcheck_Check_1.p1 (kRet h Q) b hx := by
    intro b hx hb
    refine G_certcheck_Check_1.i1 ?_
    simp only [G_certcheck_Check_1.t1]
    exact hb
  unfold holdS at hq
  by_cases h3 : f = 3
  · subst h3
    rw [if_pos rfl] at hq
    obtain ⟨c, hc⟩ : ∃ c, ch[0]? = some c := ⟨_, List.getElem?_eq_getElem hpos⟩
    simp only [hc] at hq
    refine bif_t rfl (st_load A.1 rfl rfl (st_asS ?_))
    cases hd : decide (x = []) with
    | true => rw [hd] at hq; exact bif_f rfl (p0 _ _ (.inl (hq h (Upd.refl _ _))))
    | false =>
      rw [hd] at hq
      obtain ⟨p, r, D, B, hp⟩ := L.at hc
      have hmem := hs c (List.mem_of_getElem? hc)
      refine bif_t rfl (st_load A.2 rfl rfl (hp _ h _ (Upd.refl _ _) (B.loadN (st_load A.1 rfl rfl (st_asS ?_)))))
      refine names_c D hmem.1 hx hmem.2 (hcm c hc) fun h1 U1 => st_asB (hp _ h1 _ U1 ⟨rfl, st_load (A.ext U1).2 rfl rfl ⟨rfl, st_load (A.ext U1).1 rfl rfl (st_asS ⟨rfl, p0 _ _ (.inl (hq h1 U1))⟩)⟩⟩)
  · rw [if_neg h3] at hq
    refine bif_f (by simp; omega) ?_
    by_cases h5 : f = 5
    · subst h5
      rw [if_pos rfl] at hq
      obtain ⟨c, hc⟩ : ∃ c, ch[ch.length - 1]? = some c := ⟨_, List.getElem?_eq_getElem (by omega)⟩
      simp only [hc] at hq
      obtain ⟨p, r, D, B, hp⟩ := L.at hc
      refine bif_t rfl (st_loadN A.3 rfl (st_load A.2 rfl rfl (st_load A.4 rfl rfl (st_asI (hp _ h _ (Upd.refl _ _) (B.loadN ?_))))))
      refine has_c T D (st_asB (hp _ h _ (Upd.refl _ _) ⟨rfl, st_load A.4 rfl rfl (st_asI ⟨rfl, st_load A.2 rfl rfl ⟨rfl, ?_⟩⟩)⟩))
      cases hh : hasS tr c with
      | true => rw [hh] at hq; exact bif_f rfl (p1 _ _ (.inl (hq h (Upd.refl _ _))))
      | false =>
        rw [hh] at hq
        obtain ⟨w, rfl, hw⟩ := D
        refine bif_t rfl (st_fld (st_load A.3 rfl rfl (st_load A.2 rfl rfl (st_load A.4 rfl rfl (st_asI (hp _ h _ (Upd.refl _ _) (B.fld (o := 1) rfl (st_asS ?_))))))))
        refine st_lookup (κ := fun x : List UInt8 => AV.s x) (x := c.issuer) (z := .b false) T.2 keyStr (by kernel_rfl) (by kernel_rfl) ?_
        rw [aut_has]
        exact st_asB (p1 _ _ (.inl (hq h (Upd.refl _ _))))
    · rw [if_neg h5] at hq
      exact bif_f (by simp; omega) (.inl (hq h (Upd.refl _ _)))

/-- The list of findings. -/
def Outs (h0 h : AHeap) (v : AV) (l : List Nat) : Prop := NewA 1 h0 h v (l.map num) l.length
theorem Outs.push {h0 h : AHeap} {v : AV} {l : List Nat} (A : Outs h0 h v l) {n : Nat} (hl : l.length ≤ 1000) {K : AV → AHeap → Prop} (hk : ∀ v' h', Outs h0 h' v' (l ++ [n]) → Upd (SlAt v) h h' → K v' h') : pBuildSl 1 1 [.i .i64 0] [(0, 1, .i .i64 (n : Int))] h fun y h' => pAppend 1 8 v y h' K := by
  refine st_build (cs := [num n]) rfl rfl fun y h1 hl1 U1 R1 F1 => ?_
  have A1 : NewA 1 h0 h1 v (l.map num) l.length := ⟨A.upd.trans U1 fun _ _ h => h, A.arr.upd U1 fun _ _ h => h, A.new⟩
  refine A1.append Nat.one_pos (ns := [num n]) (k := 1) (fun K hK => R1.news hK) rfl rfl (by omega) (by omega) fun v' h' A' U => hk v' h' ?_ ((U1.mono fun _ _ h => h.elim).trans U fun _ _ h => h)
  unfold Outs
  rw [List.map_append, List.length_append]; exact A'
theorem Outs.ext {h0 h h' : AHeap} {v : AV} {l : List Nat} (A : Outs h0 h v l) (U : Upd (fun _ => False) h h') : Outs h0 h' v l := ⟨A.upd.then U, A.arr.upd U fun _ _ h => h, A.new⟩
end
end Go.Proofs.YtomghnmoomodiaaGreatDoor

/- Check, the program's. -/
set_option linter.unusedVariables false
set_option linter.unusedSimpArgs false
set_option linter.unusedSectionVars false
set_option maxRecDepth 20000
namespace Go.Proofs.YtomghnmoomodiaaGreatDoor
open Go.GAM Go.RowKit

section
variable {cm : List UInt8 → List UInt8} {h hS : AHeap} {Q : AV → AHeap → Prop} {b1 b2 b3 b4 m1 m2 : Nat} {v : AV} {x : List UInt8} {at' : Int} {ch tr : List Cert}

/-- What stands while Check goes through the findings. -/
structure Ctx (cm : List UInt8 → List UInt8) (hS : AHeap) (b1 b2 b3 b4 m1 m2 : Nat) (v : AV) (x : List UInt8) (ch tr : List Cert) : Prop where
  cap : Cap hS b1 b2 b3 b4 x v m1 m2 (ch.length - 1)
  tr : TrAt hS m1 m2 tr
  cl : CL hS v ch
  ne : ch ≠ []
  len : ch.length ≤ 100000
  short : ∀ c ∈ ch, shortC c ∧ c.names.length ≤ 1000000
  xl : x.length ≤ 100000
  com : ∀ c, ch[0]? = some c → c.names = [] → CommonAt cm c.subject


theorem any_none {tr : List Cert} {at' : Int} {ch : List Cert} {f : Nat} (h : ∀ j, j < ch.length → fAt tr at' ch f j = false) : fAny tr at' ch f = false := by
  unfold fAny
  rw [List.any_eq_false]
  intro j hj
  rw [h j (by simpa using hj)]; simp
theorem any_some {tr : List Cert} {at' : Int} {ch : List Cert} {f i : Nat} (hi : i < ch.length) (h : fAt tr at' ch f i = true) : fAny tr at' ch f = true := by
  unfold fAny
  rw [List.any_eq_true]
  exact ⟨i, by simpa using hi, h⟩

theorem check_p3 {w : AV} {hx : AHeap} {k : Nat} (hk : k ≤ 100) (hn : G_certcheck_Check.p0 (kRet h Q) at' (.p (some ⟨b2, 1, 0⟩)) (.p (some ⟨b3, 2, 0⟩)) (.p (some ⟨b4, 1, 0⟩)) (.fn (.func G_certcheck_Check_1.id) [] [.p (some ⟨b1, 1, 0⟩), .p (some ⟨b2, 1, 0⟩), .p (some ⟨b3, 2, 0⟩), .p (some ⟨b4, 1, 0⟩)]) w (k + 1 + 1 : Nat) hx) : G_certcheck_Check.p3 (kRet h Q) at' (.p (some ⟨b2, 1, 0⟩)) (.p (some ⟨b3, 2, 0⟩)) (.p (some ⟨b4, 1, 0⟩)) (.fn (.func G_certcheck_Check_1.id) [] [.p (some ⟨b1, 1, 0⟩), .p (some ⟨b2, 1, 0⟩), .p (some ⟨b3, 2, 0⟩), .p (some ⟨b4, 1, 0⟩)]) w (k + 1 : Nat) hx := by
  refine G_certcheck_Check.i3 ?_
  simp only [G_certcheck_Check.t3, G_certcheck_Check.j0]
  exact inc (by omega) hn

theorem check_p1 (X : Ctx cm hS b1 b2 b3 b4 m1 m2 v x ch tr) {k : Nat} (hk : k < 7) (hhold : holdS cm tr x ch (k + 1) = false)
    (next : ∀ w hx, Outs hS hx w (outS cm tr x at' ch (k + 1)) → G_certcheck_Check.p0 (kRet h Q) at' (.p (some ⟨b2, 1, 0⟩)) (.p (some ⟨b3, 2, 0⟩)) (.p (some ⟨b4, 1, 0⟩)) (.fn (.func G_certcheck_Check_1.id) [] [.p (some ⟨b1, 1, 0⟩), .p (some ⟨b2, 1, 0⟩), .p (some ⟨b3, 2, 0⟩), .p (some ⟨b4, 1, 0⟩)]) w (k + 1 + 1 : Nat) hx) :
    ∀ (r : List Cert) (i : Nat) (w : AV) (hx : AHeap), ch.drop i = r → i ≤ ch.length → Outs hS hx w (outS cm tr x at' ch k) → (∀ j, j < i → fAt tr at' ch (k + 1) j = false) →
    G_certcheck_Check.p1 (kRet h Q) at' (.p (some ⟨b2, 1, 0⟩)) (.p (some ⟨b3, 2, 0⟩)) (.p (some ⟨b4, 1, 0⟩)) (.fn (.func G_certcheck_Check_1.id) [] [.p (some ⟨b1, 1, 0⟩), .p (some ⟨b2, 1, 0⟩), .p (some ⟨b3, 2, 0⟩), .p (some ⟨b4, 1, 0⟩)]) w (k + 1 : Nat) v ch.length i hx := by
  intro r
  have hlen := X.len
  have hol := outS_len cm tr x at' ch k
  induction r with
  | nil =>
    intro i w hx hr hi O hj
    have hle := drop_end hr
    refine G_certcheck_Check.i1 ?_
    simp only [G_certcheck_Check.t1, G_certcheck_Check.j3]
    refine bif_f (by simp; omega) (check_p3 (by omega) (next w hx ?_))
    have hf : foundS cm tr x at' ch (k + 1) = false := by unfold foundS; rw [hhold, any_none fun j hj' => hj j (by omega)]; rfl
    rw [outS_succ, hf]
    simpa using O
  | cons c r ih =>
    intro i w hx hr hi O hj
    have hlt := drop_lt hr
    have hn := drop_next hr
    have hci := at_of_drop hr
    have p2 : ∀ (b : Bool) (hy : AHeap), b = fAt tr at' ch (k + 1) i → Outs hS hy w (outS cm tr x at' ch k) → G_certcheck_Check.p2 (kRet h Q) at' (.p (some ⟨b2, 1, 0⟩)) (.p (some ⟨b3, 2, 0⟩)) (.p (some ⟨b4, 1, 0⟩)) (.fn (.func G_certcheck_Check_1.id) [] [.p (some ⟨b1, 1, 0⟩), .p (some ⟨b2, 1, 0⟩), .p (some ⟨b3, 2, 0⟩), .p (some ⟨b4, 1, 0⟩)]) w (k + 1 : Nat) b v ch.length i hy := by
      intro b hy hb Oy
      refine G_certcheck_Check.i2 ?_
      simp only [G_certcheck_Check.t2, G_certcheck_Check.j1, G_certcheck_Check.j3]
      refine bif_both (fun e => ?_) fun e => ?_
      · refine Oy.push (by omega) fun w' hz O' U' => check_p3 (by omega) (next w' hz ?_)
        have hf : foundS cm tr x at' ch (k + 1) = true := by unfold foundS; rw [any_some hlt (by rw [← hb]; exact e)]; simp
        rw [outS_succ, hf, if_pos rfl]
        exact O'
      · refine inc (by omega) (ih (i + 1) w hy hn (by omega) Oy fun j hj' => ?_)
        by_cases hji : j = i
        · subst hji; rw [← hb]; exact e
        · exact hj j (by omega)
    have hfat : fAt tr at' ch (k + 1) i = if k + 1 = 1 then decide (c.til < at') else if k + 1 = 2 then decide (at' < c.frm) else if k + 1 = 4 then decide (c.issuer = c.subject) && !hasS tr c else
      if k + 1 = 6 then (match ch[i + 1]? with
        | none => false
        | some d => !decide (c.issuer = d.subject)) else if k + 1 = 7 then decide (0 < i) && !c.auth else false := by
      rw [fAt, hci] <;> rfl
    have Lx := X.cl.ext O.upd
    obtain ⟨p, rw_, A, B, hp⟩ := Lx.at hci
    have hA := A.ok
    obtain ⟨wn, rfl, hw⟩ := A
    refine G_certcheck_Check.i1 ?_
    simp only [G_certcheck_Check.t1, G_certcheck_Check.j2]
    refine bif_t (by simp; omega) (hp _ hx _ (Upd.refl _ _) (B.loadN (st_alloc fun h1 hl1 U1 Rc => st_storeN Rc rfl rfl hA fun h2 hl2 U2 Rc => ?_)))
    have U02 : Upd (fun _ => False) hx h2 := U1.own U2 (Nat.le_refl _)
    have O2 := O.ext U02
    have C2 := X.cap.ext O2.upd
    have T2 := X.tr.ext O2.upd
    have hkk : k = 0 ∨ k = 1 ∨ k = 3 ∨ k = 5 ∨ k = 6 ∨ (k = 2 ∨ k = 4) := by omega
    rcases hkk with rfl | rfl | rfl | rfl | rfl | hkk
    · exact bif_t rfl (st_fld (st_load Rc rfl rfl (st_asI (p2 _ _ hfat.symm O2))))
    · exact bif_f rfl (bif_t rfl (st_fld (st_load Rc rfl rfl (st_asI (p2 _ _ hfat.symm O2)))))
    · refine bif_f rfl (bif_f rfl (bif_t rfl (st_fld (st_load Rc rfl rfl (st_asS (st_fld (st_load Rc rfl rfl (st_asS ?_))))))))
      have hfat : fAt tr at' ch 4 i = (decide (c.issuer = c.subject) && !hasS tr c) := hfat
      cases hd : decide (c.issuer = c.subject) with
      | false => exact bif_f rfl (p2 _ _ (by rw [hfat, hd]; rfl) O2)
      | true => exact bif_t rfl (st_loadN C2.3 rfl (st_loadN Rc rfl (has_c T2 ⟨wn, rfl, hw.ext U02⟩ (st_asB (p2 _ _ (by rw [hfat, hd]; rfl) O2)))))
    · refine bif_f rfl (bif_f rfl (bif_f rfl (bif_t rfl (st_load C2.4 rfl rfl (st_asI ?_)))))
      have hfat : fAt tr at' ch 6 i = (match ch[i + 1]? with
        | none => false
        | some d => !decide (c.issuer = d.subject)) := hfat
      by_cases hlast : i < ch.length - 1
      · obtain ⟨d, hd⟩ : ∃ d, ch[i + 1]? = some d := ⟨_, List.getElem?_eq_getElem (by omega)⟩
        rw [hd] at hfat
        obtain ⟨p', r', A', B', hp'⟩ := (X.cl.ext O2.upd).at hd
        obtain ⟨wn', rfl, hw'⟩ := A'
        exact bif_t (by simp; omega) (st_fld (st_load Rc rfl rfl (st_asS (st_load C2.2 rfl rfl (inc (by omega) (hp' _ h2 _ (Upd.refl _ _) (B'.fld (o := 2) rfl (st_asS (p2 _ _ hfat.symm O2)))))))))
      · rw [List.getElem?_eq_none (show ch.length ≤ i + 1 by omega)] at hfat
        exact bif_f (by simp; omega) (p2 _ _ hfat.symm O2)
    · refine bif_f rfl (bif_f rfl (bif_f rfl (bif_f rfl (bif_t rfl ?_))))
      have hfat : fAt tr at' ch 7 i = (decide (0 < i) && !c.auth) := hfat
      by_cases h0 : 0 < i
      · rw [decide_eq_true h0] at hfat
        exact bif_t (by simp; omega) (st_fld (st_load Rc rfl rfl (st_asB (p2 _ _ (by rw [hfat]; rfl) O2))))
      · rw [decide_eq_false h0] at hfat
        exact bif_f (by simp; omega) (p2 _ _ (by rw [hfat]; rfl) O2)
    · have hf : fAt tr at' ch (k + 1) i = false := by
        rw [hfat]
        rcases hkk with rfl | rfl <;> rfl
      rcases hkk with rfl | rfl
      · exact bif_f rfl (bif_f rfl (bif_f rfl (bif_f rfl (bif_f rfl (p2 _ _ hf.symm O2)))))
      · exact bif_f rfl (bif_f rfl (bif_f rfl (bif_f rfl (bif_f rfl (p2 _ _ hf.symm O2)))))

theorem check_p0 (X : Ctx cm hS b1 b2 b3 b4 m1 m2 v x ch tr) (fin : ∀ w hx, Outs hS hx w (outS cm tr x at' ch 7) → kRet h Q w hx) :
    ∀ (d k : Nat) (w : AV) (hx : AHeap), k + d = 7 → Outs hS hx w (outS cm tr x at' ch k) → G_certcheck_Check.p0 (kRet h Q) at' (.p (some ⟨b2, 1, 0⟩)) (.p (some ⟨b3, 2, 0⟩)) (.p (some ⟨b4, 1, 0⟩)) (.fn (.func G_certcheck_Check_1.id) [] [.p (some ⟨b1, 1, 0⟩), .p (some ⟨b2, 1, 0⟩), .p (some ⟨b3, 2, 0⟩), .p (some ⟨b4, 1, 0⟩)]) w (k + 1 : Nat) hx := by
  intro d
  induction d with
  | zero =>
    intro k w hx hk O
    obtain rfl : k = 7 := by omega
    refine G_certcheck_Check.i0 ?_
    simp only [G_certcheck_Check.t0, G_certcheck_Check.j3, G_certcheck_Check.j1]
    exact bif_f rfl (fin w hx O)
  | succ d ih =>
    intro k w hx hk O
    have hol := outS_len cm tr x at' ch k
    refine G_certcheck_Check.i0 ?_
    simp only [G_certcheck_Check.t0, G_certcheck_Check.j3, G_certcheck_Check.j1]
    refine bif_t (by simp; omega) (callV_c rfl ?_)
    refine hold_c (f := k + 1) (X.cap.ext O.upd) (X.tr.ext O.upd) (X.cl.ext O.upd) X.ne X.short X.xl X.com fun h1 U1 => st_asB ?_
    have O1 := O.ext U1
    refine bif_both (fun e => ?_) fun e => ?_
    · refine O1.push (by omega) fun w' hz O' U' => check_p3 (by omega) (ih (k + 1) w' hz (by omega) ?_)
      have hf : foundS cm tr x at' ch (k + 1) = true := by unfold foundS; rw [e]; rfl
      rw [outS_succ, hf, if_pos rfl]
      exact O'
    · refine st_load (X.cap.ext O1.upd).2 rfl rfl ((X.cl.ext O1.upd).len ?_)
      exact check_p1 X (by omega) e (fun w' hz O' => ih (k + 1) w' hz (by omega) O') ch 0 w h1 rfl (by omega) O1 fun j hj => by omega

theorem check_c {vt : AV} (L : CL h v ch) (LT : CL h vt tr) (hlen : ch.length ≤ 100000) (htl : tr.length ≤ 100000) (hs : ∀ c ∈ ch, shortC c ∧ c.names.length ≤ 1000000) (hx : x.length ≤ 100000) (hcm : ∀ c, ch[0]? = some c → c.names = [] → CommonAt cm c.subject)
    (hq : ∀ w h', Upd (fun _ => False) h h' → Rd 1 h' w ((checkS cm tr x at' ch).map num) (checkS cm tr x at' ch).length → Q w h') : C G_certcheck_Check.id [v, .s x, .i .i64 at', vt] h Q := by
  obtain ⟨rs, hR, hrs⟩ := id L
  obtain ⟨a, n, kk, rfl⟩ := hR.isSl
  refine G_certcheck_Check.call ?_
  simp only [G_certcheck_Check.t, G_certcheck_Check.j0]
  refine st_box rfl fun h1 hl1 U1 R2 => st_box rfl fun h2 hl2 U2 R1 => ?_
  have R2 := R2.upd U2 fun h => h
  have U12 := U1.then U2
  refine st_load R2 rfl rfl ((L.ext U12).len ?_)
  unfold checkS at hq
  by_cases hne : ch = []
  · rw [if_pos hne] at hq
    refine bif_t (by simp [hne]) (st_build (cs := [num 5]) rfl rfl fun y h3 hl3 U3 R3 F3 => .inl (hq y h3 (U12.then U3) R3))
  rw [if_neg hne] at hq
  have hpos := List.length_pos_iff.2 hne
  refine bif_f (by simp [hne]) (newTrust_c (LT.ext U12) htl fun m1 m2 h3 U3 T hm1 hm2 => st_alloc fun h4 hl4 U4 R3 => st_storeN R3 rfl rfl rfl fun h5 hl5 U5 R3 => ?_)
  have U35 : Upd (fun _ => False) h3 h5 := U4.own U5 (Nat.le_refl _)
  have R2 := R2.upd (U3.then U35) fun h => h
  have R1 := R1.upd (U3.then U35) fun h => h
  have U05 := (U12.then U3).then U35
  refine st_load R2 rfl rfl ((L.ext U05).len (withI_is (n := ((ch.length - 1 : Nat) : Int)) (by rw [wrap_i64 (by omega) (by omega)]; omega) ?_))
  refine st_alloc fun h6 hl6 U6 R4 => st_store R4 rfl (by simp) rfl rfl rfl fun h7 hl7 U7 R4 => ?_
  have U57 : Upd (fun _ => False) h5 h7 := U6.own U7 (Nat.le_refl _)
  have X : Ctx cm h7 h1.length h.length h3.length h5.length m1 m2 (.sl a n kk) x ch tr :=
    ⟨⟨R1.upd U57 fun h => h, R2.upd U57 fun h => h, R3.upd U57 fun h => h, R4⟩, T.ext (U35.then U57), L.ext (U05.then U57), hne, hlen, hs, hx, hcm⟩
  refine check_p0 (h := h) (Q := Q) (cm := cm) (at' := at') X (fun w hx O => .inl (hq w hx ((U05.then U57).then O.upd) O.arr.rd)) 7 0 _ h7 rfl (NewA.start 1 h7)
end
end Go.Proofs.YtomghnmoomodiaaGreatDoor

/- awake; equal lists of findings. -/
set_option linter.unusedVariables false
set_option linter.unusedSimpArgs false
set_option linter.unusedSectionVars false
set_option maxRecDepth 20000
namespace Go.Proofs.YtomghnmoomodiaaGreatDoor
open Go.GAM Go.RowKit

section
variable {h : AHeap} {Q : AV → AHeap → Prop}

theorem rd_num {v : AV} {l : List Nat} {len : Nat} (R : Rd 1 h v (l.map num) len) {k : IntKind} {i n : Nat} (hn : l[i]? = some n) {K : Int → Prop} (hk : K (n : Int)) : pIdxAddrSl 1 v (.i k (i : Int)) h fun a => pLoad1 a h fun y => asI .i64 y K := by
  have hl := R.length
  rw [List.length_map, Nat.mul_one] at hl
  exact R.cell Nat.one_pos (by have := lt_of_some hn; omega) (c := num n) (by rw [Nat.mul_one, List.getElem?_map, hn]; rfl) (st_asI hk)

theorem ints_p0 {v w : AV} {a b : List Nat} {h0 : AHeap} (R : Rd 1 h v (a.map num) a.length) (S : Rd 1 h w (b.map num) b.length) (hl : a.length = b.length) (ha : a.length ≤ 1000000) : ∀ (r s : List Nat) (i : Nat), a.drop i = r → b.drop i = s → kRet h0 Q (.b (decide (r = s))) h → G_law35_ints.p0 (kRet h0 Q) v w a.length i h := by
  intro r
  induction r with
  | nil =>
    intro s i hr hs hq
    have h1 := drop_end hr
    have : s = [] := by rw [← hs]; exact List.drop_eq_nil_of_le (by omega)
    subst this
    refine G_law35_ints.i0 ?_
    simp only [G_law35_ints.t0]
    exact bif_f (by simp; omega) (by simpa using hq)
  | cons x r ih =>
    intro s i hr hs hq
    have h1 := drop_lt hr
    have hx := at_of_drop hr
    obtain ⟨y, hy⟩ : ∃ y, b[i]? = some y := ⟨_, List.getElem?_eq_getElem (by omega)⟩
    have hs' := drop_of_at hy
    rw [hs] at hs'
    refine G_law35_ints.i0 ?_
    simp only [G_law35_ints.t0, G_law35_ints.j0]
    refine bif_t (by simp; omega) (rd_num R hx (rd_num S hy ?_))
    by_cases hxy : x = y
    · subst hxy
      refine bif_f (by simp) (inc (by omega) (ih (b.drop (i + 1)) (i + 1) (drop_next hr) rfl ?_))
      rw [hs'] at hq
      have : decide (x :: r = x :: b.drop (i + 1)) = decide (r = b.drop (i + 1)) := by rw [decide_eq_decide]; simp
      rwa [this] at hq
    · refine bif_t (by simp; omega) ?_
      rw [hs', decide_eq_false (by simp [hxy])] at hq
      exact hq
theorem ints_c {v w : AV} {a b : List Nat} (R : Rd 1 h v (a.map num) a.length) (S : Rd 1 h w (b.map num) b.length) (ha : a.length ≤ 1000000) (hq : Q (.b (decide (a = b))) h) : C G_law35_ints.id [v, w] h Q := by
  refine G_law35_ints.call ?_
  simp only [G_law35_ints.t, G_law35_ints.j0]
  refine R.len (S.len ?_)
  by_cases hl : a.length = b.length
  · exact bif_f (by simp [hl]) (R.len (ints_p0 R S hl ha a b 0 rfl rfl (.inl hq)))
  · rw [decide_eq_false (fun e => hl (by rw [e]))] at hq
    exact bif_t (by simp; omega) (.inl hq)

def c0 : Cert := ⟨[], [67, 78, 61, 97], [67, 78, 61, 97], 1, 9, [[120, 46, 97, 46, 98]], false, [107]⟩
def cm0 : List UInt8 → List UInt8 := fun _ => []

theorem awake_c (hq : ∀ h', Upd (fun _ => False) h h' → Q (.b true) h') : C G_law35_awake.id [] h Q := by
  refine G_law35_awake.call ?_
  simp only [G_law35_awake.t, G_law35_awake.j0]
  refine st_build (cs := [.s [120, 46, 97, 46, 98]]) rfl rfl fun v1 h1 hl1 U1 R1 F1 => ?_
  obtain ⟨aa, nn, kk, rfl⟩ := R1.i.isSl
  refine st_pb (cs := certC c0 (.sl aa nn kk)) rfl (st_alloc fun h2 hl2 U2 Rc => st_storeN Rc rfl rfl rfl fun h3 hl3 U3 Rc => st_loadN Rc rfl (st_build (cs := certC c0 (.sl aa nn kk)) rfl rfl fun v9 h4 hl4 U4 R9 F9 => ?_))
  have U13 : Upd (fun _ => False) h1 h3 := U2.own U3 (Nat.le_refl _)
  have U04 := (U1.then U13).then U4
  have L : CL h4 v9 [c0] := ⟨[certC c0 (.sl aa nn kk)], by simpa using R9.i, ⟨⟨_, rfl, (R1.i.ext (U13.then U4))⟩, trivial⟩⟩
  have hs : ∀ c ∈ [c0], shortC c ∧ c.names.length ≤ 1000000 := by
    intro c hc
    simp only [List.mem_singleton] at hc
    subst hc
    exact ⟨fun n hn => by simp [c0] at hn; subst hn; simp, by simp [c0]⟩
  have hcm : ∀ c, [c0][0]? = some c → c.names = [] → CommonAt cm0 c.subject := by
    intro c hc hn
    simp at hc; subst hc
    simp [c0] at hn
  refine match_c (by simp) (by simp) (st_asB (bif_t (by decide) (match_c (by simp) (by simp) (st_asB (bif_t (by decide) (match_c (by simp) (by simp) (st_asB (bif_t (by decide) (match_c (by simp) (by simp) (st_asB (bif_t (by decide) ?_)))))))))))
  refine check_c (cm := cm0) L L (by simp) (by simp) hs (by simp) hcm fun w5 h5 U5 R5 => ?_
  have e1 : checkS cm0 [c0] [120, 46, 97, 46, 98] 5 [c0] = [] := by decide
  rw [e1] at R5
  refine R5.len (bif_t rfl ?_)
  refine check_c (cm := cm0) (L.ext U5) (CL.nil _) (by simp) (by simp) hs (by simp) hcm fun w6 h6 U6 R6 => ?_
  have e2 : checkS cm0 [] [121, 46, 97, 46, 98] 10 [c0] = [1, 3, 4, 5] := by decide
  rw [e2] at R6
  refine st_build (cs := [num 1, num 3, num 4, num 5]) rfl rfl fun v7 h7 hl7 U7 R7 F7 => ?_
  refine ints_c (a := [1, 3, 4, 5]) (b := [1, 3, 4, 5]) (R6.upd U7 fun _ _ h => h) R7 (by simp) (st_asB (bif_t (by decide) ?_))
  refine check_c (cm := cm0) (CL.nil _) ((L.ext (U5.then U6)).ext U7) (by simp) (by simp) (by simp) (by simp) (by simp) fun w8 h8 U8 R8 => ?_
  have e3 : checkS cm0 [c0] [] 0 [] = [5] := by decide
  rw [e3] at R8
  refine st_build (cs := [num 5]) rfl rfl fun v9' h9 hl9 U9 R9' F9' => ?_
  refine ints_c (a := [5]) (b := [5]) (R8.upd U9 fun _ _ h => h) R9' (by simp) (st_asB (bif_t (by decide) ?_))
  refine text_c (st_asS (withB_is (n := true) (by decide) ?_))
  refine G_law35_awake.i0 ?_
  simp only [G_law35_awake.t0]
  exact .inl (hq _ (((((U04.then U5).then U6).then U7).then U8).then U9))
end
end Go.Proofs.YtomghnmoomodiaaGreatDoor

/- MatchName, the reference's. -/
set_option linter.unusedVariables false
set_option linter.unusedSimpArgs false
set_option linter.unusedSectionVars false
set_option maxRecDepth 20000
namespace Go.Proofs.YtomghnmoomodiaaGreatDoor
open Go.GAM Go.RowKit

section
variable {s : List UInt8} {h0 : AHeap} {Q : AV → AHeap → Prop}

theorem Rlower_p2 (hs : s.length ≤ 100000) {c d : UInt8} {r l : List UInt8} {i : Nat} {v : AV} {h : AHeap} (hi : i < s.length) (hl : l.length ≤ i) (T : Tx h0 h v l) (hd : d = lowC c)
    (hk : ∀ v' h', Tx h0 h' v' (l ++ [lowC c]) → G_ref26_lower.p0 (kRet h0 Q) s v' (i + 1 : Nat) h') : G_ref26_lower.p2 (kRet h0 Q) s v i (d.toNat : Int) h := by
  refine G_ref26_lower.i2 ?_
  simp only [G_ref26_lower.t2, G_ref26_lower.j0]
  subst hd
  exact T.push (by omega) fun v' h' T' => inc (by omega) (hk v' h' T')

theorem Rlower_p0 (hs : s.length ≤ 100000) : ∀ (r : List UInt8) (i : Nat) (v : AV) (l : List UInt8) (h : AHeap), s.drop i = r → l.length ≤ i → Tx h0 h v l → Q (.s (l ++ lowS r)) h0 → G_ref26_lower.p0 (kRet h0 Q) s v i h := by
  intro r
  induction r with
  | nil =>
    intro i v l h hr hl T hq
    have := drop_end hr
    refine G_ref26_lower.i0 ?_
    simp only [G_ref26_lower.t0, G_ref26_lower.j1]
    exact bif_f (by simp; omega) (T.ret (by simpa [lowS] using hq))
  | cons c r ih =>
    intro i v l h hr hl T hq
    have hlt := drop_lt hr
    have hn := drop_next hr
    have hc := c.toNat_lt
    have hnext : ∀ v' h', Tx h0 h' v' (l ++ [lowC c]) → G_ref26_lower.p0 (kRet h0 Q) s v' (i + 1 : Nat) h' := fun v' h' T' => ih (i + 1) v' _ h' hn (by simp; omega) T' (by simpa [lowS] using hq)
    have key : ∀ b, b = decide (65 ≤ c.toNat ∧ c.toNat ≤ 90) → G_ref26_lower.p1 (kRet h0 Q) s v i (c.toNat : Int) b h := by
      intro b hb
      refine G_ref26_lower.i1 ?_
      simp only [G_ref26_lower.t1, G_ref26_lower.j2]
      refine bif_both (fun e => ?_) fun e => ?_
      · subst e
        have hu : 65 ≤ c.toNat ∧ c.toNat ≤ 90 := by simpa using hb.symm
        refine withI_is (n := ((lowC c).toNat : Int)) (by rw [lowC_up hu, wrap_u8 (by omega) (by omega)]) ?_
        exact Rlower_p2 hs (r := r) hlt hl T rfl hnext
      · subst e
        have hu : ¬ (65 ≤ c.toNat ∧ c.toNat ≤ 90) := by simpa using hb.symm
        exact Rlower_p2 hs (r := r) hlt hl T (lowC_no hu).symm hnext
    refine G_ref26_lower.i0 ?_
    simp only [G_ref26_lower.t0, G_ref26_lower.j1]
    refine bif_t (by simp; omega) (st_at hr ?_)
    refine bif_both (fun e => key _ ?_) fun e => key _ ?_
    · simp only [decide_eq_true_eq] at e
      rw [decide_eq_decide]; omega
    · simp only [decide_eq_false_iff_not] at e
      symm; simp; omega

theorem Rlower_c {h : AHeap} (hs : s.length ≤ 100000) (hk : Q (.s (lowS s)) h) : C G_ref26_lower.id [.s s] h Q := by
  refine G_ref26_lower.call ?_
  simp only [G_ref26_lower.t, G_ref26_lower.j0]
  exact Tx.empty fun v h' T => Rlower_p0 hs s 0 _ [] h' rfl (by simp) T hk

theorem Rapply_c {h : AHeap} (hs : s.length ≤ 100000) (hk : Q (.s (lowS s)) h) : C G_ref26_Apply.id [.i .i64 1, .s s] h Q := by
  refine G_ref26_Apply.call ?_
  simp only [G_ref26_Apply.t]
  exact bif_t rfl (Rlower_c hs (st_asS (.inl hk)))

theorem index_mem (c : UInt8) : ∀ l : List UInt8, 0 ≤ Lib.indexByte l c ↔ c ∈ l
  | [] => by simp [Lib.indexByte]
  | b :: l => by
    have ih := index_mem c l
    have := index_lt l c
    unfold Lib.indexByte
    split
    · rename_i h; simp at h; simp [h]
    · rename_i h
      have hne : c ≠ b := by intro e; subst e; simp at h
      split
      · rename_i h2
        simp only [beq_iff_eq] at h2
        constructor
        · intro h3; omega
        · intro h3
          rcases List.mem_cons.1 h3 with h3 | h3
          · exact absurd h3 hne
          · have := ih.2 h3; omega
      · rename_i h2
        simp only [beq_iff_eq] at h2
        constructor
        · intro _; exact List.mem_cons_of_mem _ (ih.1 (by omega))
        · intro _; omega
theorem index_skip {b c : UInt8} {l : List UInt8} (h : b ≠ c) : Lib.indexByte (b :: l) c = if Lib.indexByte l c < 0 then -1 else Lib.indexByte l c + 1 := by
  rw [Lib.indexByte]
  rw [if_neg (by simpa using h)]
  have := index_lt l c
  split <;> split <;> first | rfl | skip
  all_goals (simp only [beq_iff_eq] at *; omega)
theorem index_here {c : UInt8} {l : List UInt8} : Lib.indexByte (c :: l) c = 0 := by rw [Lib.indexByte]; simp

def afterS (l : List UInt8) : List UInt8 × Bool := if 0 ≤ Lib.indexByte l 46 then (l.drop ((Lib.indexByte l 46).toNat + 1), decide (0 < Lib.indexByte l 46)) else ([], false)
theorem after_p0 {l : List UInt8} {h : AHeap} (hl : l.length ≤ 1000000) (hk : Q (.tu [.s (afterS l).1, .b (afterS l).2]) h0) (E : Ext h0 h) : ∀ (r : List UInt8) (i : Nat), l.drop i = r → (Lib.indexByte l 46 = if Lib.indexByte r 46 < 0 then -1 else Lib.indexByte r 46 + i) → G_ref35_after.p0 (kRet h0 Q) l i h := by
  intro r
  induction r with
  | nil =>
    intro i hr hi
    have := drop_end hr
    have e : Lib.indexByte l 46 = -1 := by rw [hi]; simp [Lib.indexByte]
    unfold afterS at hk
    rw [if_neg (by omega)] at hk
    refine G_ref35_after.i0 ?_
    simp only [G_ref35_after.t0]
    exact bif_f (by simp; omega) (kRet_pure rfl E hk)
  | cons c r ih =>
    intro i hr hi
    have hlt := drop_lt hr
    have hn := drop_next hr
    refine G_ref35_after.i0 ?_
    simp only [G_ref35_after.t0, G_ref35_after.j0]
    refine bif_t (by simp; omega) (st_at hr ?_)
    by_cases hc : c = 46
    · subst hc
      rw [index_here] at hi
      have hi : Lib.indexByte l 46 = i := by simpa using hi
      unfold afterS at hk
      rw [hi, if_pos (by omega)] at hk
      refine bif_t (by decide) (inc (by omega) (st_subs (by omega) (kRet_pure rfl E ?_)))
      simpa using hk
    · refine bif_f (decide_eq_false fun e => hc (UInt8.toNat_inj.1 (by show c.toNat = 46; omega))) (inc (by omega) (ih (i + 1) hn ?_))
      have hge := index_lt r 46
      rw [hi, index_skip hc]
      split
      · rw [if_pos (by omega)]
      · rw [if_neg (by omega)]; omega
theorem after_c {l : List UInt8} {h : AHeap} (hl : l.length ≤ 1000000) (hk : Q (.tu [.s (afterS l).1, .b (afterS l).2]) h) : C G_ref35_after.id [.s l] h Q := by
  refine G_ref35_after.call ?_
  simp only [G_ref35_after.t, G_ref35_after.j0]
  have := index_lt l 46
  exact after_p0 hl hk (Ext.refl _) l 0 rfl (by split <;> omega)

def tailS (P X : List UInt8) : Bool := (cutS X 46).2.2 && (!decide ((cutS X 46).1 = []) && (decide ((cutS X 46).2.1 = P.drop 2) && decide (0 ≤ Lib.indexByte (P.drop 2) 46)))
theorem tail_is (P X : List UInt8) : tailS P X = ((afterS X).2 && (decide ((46 : UInt8) ∈ P.drop 2) && decide ((afterS X).1 = P.drop 2))) := by
  have hb := index_lt X 46
  have hm : decide (0 ≤ Lib.indexByte (P.drop 2) 46) = decide ((46 : UInt8) ∈ P.drop 2) := by rw [decide_eq_decide]; exact index_mem _ _
  unfold tailS cutS afterS
  rw [hm]
  by_cases h0 : 0 ≤ Lib.indexByte X 46
  · rw [if_pos h0, if_pos h0]
    have : decide (X.take (Lib.indexByte X 46).toNat = []) = !decide (0 < Lib.indexByte X 46) := by
      rw [Bool.eq_iff_iff]
      simp only [decide_eq_true_eq, Bool.not_eq_true', decide_eq_false_iff_not, List.take_eq_nil_iff]
      constructor
      · rintro (h | h)
        · omega
        · subst h; simp at hb; omega
      · intro h; left; omega
    simp only [this, Bool.not_not, Bool.true_and]
    rw [Bool.and_comm (decide (X.drop _ = P.drop 2))]
  · rw [if_neg h0, if_neg h0]; rfl

theorem Rmatch_p1 {P X : List UInt8} {h : AHeap} (hP : P.length ≤ 1000000) (hX : X.length ≤ 1000000) (h2 : 2 ≤ P.length) (hk : kRet h0 Q (.b (tailS P X)) h) : ∀ (r : List UInt8) (i : Nat) (b : Bool), P.drop i = r → 2 ≤ i → (decide ((46 : UInt8) ∈ P.drop 2) = (b || decide ((46 : UInt8) ∈ r))) → G_ref35_MatchName.p1 (kRet h0 Q) P X b i h := by
  intro r
  rw [tail_is] at hk
  have p3 : ∀ b, kRet h0 Q (.b b) h → G_ref35_MatchName.p3 (kRet h0 Q) b h := by
    intro b hb
    refine G_ref35_MatchName.i3 ?_
    simp only [G_ref35_MatchName.t3]
    exact hb
  induction r with
  | nil =>
    intro i b hr hi hb
    have := drop_end hr
    have hb : decide ((46 : UInt8) ∈ P.drop 2) = b := by rw [hb]; simp
    rw [hb] at hk
    refine G_ref35_MatchName.i1 ?_
    simp only [G_ref35_MatchName.t1, G_ref35_MatchName.j3]
    refine bif_f (by simp; omega) (after_c hX (st_ext0 (st_asS (st_ext1 (st_asB ?_)))))
    cases hq : (afterS X).2 with
    | false => rw [hq] at hk; exact bif_f rfl (p3 _ hk)
    | true =>
      rw [hq, Bool.true_and] at hk
      refine bif_t rfl ?_
      cases b with
      | false => exact bif_f rfl (p3 _ hk)
      | true => exact bif_t rfl (st_subs h2 (p3 _ hk))
  | cons c r ih =>
    intro i b hr hi hb
    have hlt := drop_lt hr
    have hn := drop_next hr
    have p2 : ∀ b', (b || decide ((46 : UInt8) ∈ c :: r)) = (b' || decide ((46 : UInt8) ∈ r)) → G_ref35_MatchName.p2 (kRet h0 Q) P X b' i h := by
      intro b' e
      refine G_ref35_MatchName.i2 ?_
      simp only [G_ref35_MatchName.t2, G_ref35_MatchName.j1]
      exact inc (by omega) (ih (i + 1) b' hn (by omega) (by rw [hb, e]))
    refine G_ref35_MatchName.i1 ?_
    simp only [G_ref35_MatchName.t1, G_ref35_MatchName.j2]
    refine bif_t (by simp; omega) ?_
    cases b with
    | true => exact bif_t rfl (p2 _ rfl)
    | false =>
      refine bif_f rfl (st_at hr (p2 _ ?_))
      rw [Bool.false_or, Bool.eq_iff_iff]
      simp only [decide_eq_true_eq, List.mem_cons, Bool.or_eq_true]
      constructor
      · rintro (h | h)
        · left; subst h; decide
        · exact .inr h
      · rintro (h | h)
        · left; exact (UInt8.toNat_inj.1 (by show c.toNat = 46; omega)).symm
        · exact .inr h
theorem Rmatch_c {p x : List UInt8} {h : AHeap} (hp : p.length ≤ 100000) (hx : x.length ≤ 100000) (hk : Q (.b (matchS p x)) h) : C G_ref35_MatchName.id [.s p, .s x] h Q := by
  refine G_ref35_MatchName.call ?_
  simp only [G_ref35_MatchName.t, G_ref35_MatchName.j0]
  refine Rapply_c hp (st_asS (Rapply_c hx (st_asS ?_)))
  have hlp := lowS_len p
  have hlx := lowS_len x
  have e : matchS p x = (decide (lowS p = lowS x) || (hasPre (lowS p) [42, 46] && tailS (lowS p) (lowS x))) := rfl
  rw [e] at hk
  generalize lowS p = P at *
  generalize lowS x = X at *
  cases hd : decide (P = X) with
  | true => rw [hd] at hk; exact bif_t rfl (.inl hk)
  | false =>
    rw [hd, Bool.false_or] at hk
    refine bif_f rfl ?_
    by_cases hl : P.length < 2
    · have : hasPre P [42, 46] = false := decide_eq_false fun e => by
        have := congrArg List.length e
        simp at this; omega
      rw [this] at hk
      refine bif_t (by simp; omega) ?_
      refine G_ref35_MatchName.i0 ?_
      simp only [G_ref35_MatchName.t0]
      exact bif_t rfl (.inl hk)
    · refine bif_f (by simp; omega) (st_subs1 (hi := 2) (by omega) ?_)
      refine G_ref35_MatchName.i0 ?_
      simp only [G_ref35_MatchName.t0, G_ref35_MatchName.j1]
      have e2 : hasPre P [42, 46] = decide (P.take 2 = [42, 46]) := rfl
      rw [e2] at hk
      cases hd2 : decide (P.take 2 = [42, 46]) with
      | false => rw [hd2] at hk; exact bif_t rfl (.inl hk)
      | true =>
        rw [hd2, Bool.true_and] at hk
        exact bif_f rfl (Rmatch_p1 (by omega) (by omega) (by omega) (.inl hk) (P.drop 2) 2 false rfl (by omega) (by simp))
end
end Go.Proofs.YtomghnmoomodiaaGreatDoor

/- The law's text in the abstract machine: printed by Gen.lean, checked by Lean's kernel. -/
set_option linter.unusedVariables false
set_option linter.unusedSectionVars false
set_option maxRecDepth 100000
namespace Go.Proofs.YtomghnmoomodiaaGreatDoor
open Go.GAM
variable [XR]
--@@ G_law35_CertcheckMatches
/-! ### 3: intrusion/intrusionlaw35.CertcheckMatches -/
noncomputable def G_law35_CertcheckMatches.body : Code := (Tryz.f3.body).getD .skip
def G_law35_CertcheckMatches.ann : Ann := (.seq 0 [0, 1] .leaf (.seq 0 [0, 1] (.seq 1 [0, 1, 12] .leaf (.br (.seq 0 [4] .leaf .leaf) .leaf)) (.seq 2 [4] .leaf .leaf)))
theorem G_law35_CertcheckMatches.body_eq : Tryz.f3.body = some G_law35_CertcheckMatches.body := by kernel_rfl
theorem G_law35_CertcheckMatches.dist : noTwice (places G_law35_CertcheckMatches.ann G_law35_CertcheckMatches.body) = true := by kernel_rfl
noncomputable def G_law35_CertcheckMatches.J (Q : AV → AHeap → Prop) : JT := funJ prog C Tryz.f3 G_law35_CertcheckMatches.ann G_law35_CertcheckMatches.body Q
theorem G_law35_CertcheckMatches.goR {Q : AV → AHeap → Prop} {k : Nat} {p : List Nat} (hl : lookJ (places G_law35_CertcheckMatches.ann G_law35_CertcheckMatches.body) k = some (p, false)) {e : Env} {h : AHeap} (hk : atJ prog C 29 (G_law35_CertcheckMatches.J Q) false p G_law35_CertcheckMatches.ann G_law35_CertcheckMatches.body e h (kFun prog Tryz.f3 Q)) : G_law35_CertcheckMatches.J Q k e h := goJ_run (P := prog) (fn := Tryz.f3) (ann := G_law35_CertcheckMatches.ann) (body := G_law35_CertcheckMatches.body) (Q := Q) (k := k) (p := p) (e := e) (h := h) (acall_le X) G_law35_CertcheckMatches.dist hl hk
theorem G_law35_CertcheckMatches.goH {Q : AV → AHeap → Prop} {k : Nat} {p : List Nat} (hl : lookJ (places G_law35_CertcheckMatches.ann G_law35_CertcheckMatches.body) k = some (p, true)) {e : Env} {h : AHeap} (hk : atJ prog C 29 (G_law35_CertcheckMatches.J Q) true p G_law35_CertcheckMatches.ann G_law35_CertcheckMatches.body e h (kFun prog Tryz.f3 Q)) : G_law35_CertcheckMatches.J Q k e h := goJ_head (P := prog) (fn := Tryz.f3) (ann := G_law35_CertcheckMatches.ann) (body := G_law35_CertcheckMatches.body) (Q := Q) (k := k) (p := p) (e := e) (h := h) (acall_le X) G_law35_CertcheckMatches.dist hl hk
def G_law35_CertcheckMatches.p0 (Q : AV → AHeap → Prop) (x0 : List UInt8) (x1 : List UInt8) (x12 : Bool) (h : AHeap) : Prop := G_law35_CertcheckMatches.J Q 1 [(0, (AV.s x0)), (1, (AV.s x1)), (12, (AV.b x12))] h
theorem G_law35_CertcheckMatches.j0 (Q : AV → AHeap → Prop) (x0 : List UInt8) (x1 : List UInt8) (x12 : Bool) (h : AHeap) : G_law35_CertcheckMatches.J Q 1 [(0, (AV.s x0)), (1, (AV.s x1)), (12, (AV.b x12))] h = G_law35_CertcheckMatches.p0 Q x0 x1 x12 h := rfl
def G_law35_CertcheckMatches.p1 (Q : AV → AHeap → Prop) (x4 : Bool) (h : AHeap) : Prop := G_law35_CertcheckMatches.J Q 2 [(4, (AV.b x4))] h
theorem G_law35_CertcheckMatches.j1 (Q : AV → AHeap → Prop) (x4 : Bool) (h : AHeap) : G_law35_CertcheckMatches.J Q 2 [(4, (AV.b x4))] h = G_law35_CertcheckMatches.p1 Q x4 h := rfl
def G_law35_CertcheckMatches.t0 (J : JT) (Q : AV → AHeap → Prop) (x0 : List UInt8) (x1 : List UInt8) (x12 : Bool) (h : AHeap) : Prop :=
(bif x12 then
(C G_law35_awake.id [] h fun v3 h4 =>
asB v3 fun c5 =>
Q (AV.b c5) h4)
else
(C G_certcheck_MatchName.id [(AV.s x0), (AV.s x1)] h fun v8 h9 =>
asB v8 fun c10 =>
C G_ref35_MatchName.id [(AV.s x0), (AV.s x1)] h9 fun v11 h12 =>
asB v11 fun c13 =>
(bif (c10 == c13) then
(C G_certcheck_MatchName.id [(AV.s x1), (AV.s x1)] h12 fun v14 h15 =>
asB v14 fun c16 =>
(bif c16 then
(C G_law35_awake.id [] h15 fun v17 h18 =>
asB v17 fun c19 =>
J 2 [(4, (AV.b c19))] h18)
else
(J 2 [(4, (AV.b false))] h15)))
else
(J 2 [(4, (AV.b false))] h12))))
theorem G_law35_CertcheckMatches.t0_eq (J : JT) (Q : AV → AHeap → Prop) (x0 : List UInt8) (x1 : List UInt8) (x12 : Bool) (h : AHeap) : G_law35_CertcheckMatches.t0 J Q x0 x1 x12 h = atJ prog C 29 J false [1, 0, 1] G_law35_CertcheckMatches.ann G_law35_CertcheckMatches.body [(0, (AV.s x0)), (1, (AV.s x1)), (12, (AV.b x12))] h (kFun prog Tryz.f3 Q) := by kernel_rfl
theorem G_law35_CertcheckMatches.i0 {Q : AV → AHeap → Prop} {x0 : List UInt8} {x1 : List UInt8} {x12 : Bool} {h : AHeap} (H : G_law35_CertcheckMatches.t0 (G_law35_CertcheckMatches.J Q) Q x0 x1 x12 h) : G_law35_CertcheckMatches.p0 Q x0 x1 x12 h := G_law35_CertcheckMatches.goR (k := 1) (p := [1, 0, 1]) (by kernel_rfl) ((G_law35_CertcheckMatches.t0_eq (G_law35_CertcheckMatches.J Q) Q x0 x1 x12 h).mp H)
def G_law35_CertcheckMatches.t1 (J : JT) (Q : AV → AHeap → Prop) (x4 : Bool) (h : AHeap) : Prop :=
Q (AV.b x4) h
theorem G_law35_CertcheckMatches.t1_eq (J : JT) (Q : AV → AHeap → Prop) (x4 : Bool) (h : AHeap) : G_law35_CertcheckMatches.t1 J Q x4 h = atJ prog C 29 J false [1, 1, 1] G_law35_CertcheckMatches.ann G_law35_CertcheckMatches.body [(4, (AV.b x4))] h (kFun prog Tryz.f3 Q) := by kernel_rfl
theorem G_law35_CertcheckMatches.i1 {Q : AV → AHeap → Prop} {x4 : Bool} {h : AHeap} (H : G_law35_CertcheckMatches.t1 (G_law35_CertcheckMatches.J Q) Q x4 h) : G_law35_CertcheckMatches.p1 Q x4 h := G_law35_CertcheckMatches.goR (k := 2) (p := [1, 1, 1]) (by kernel_rfl) ((G_law35_CertcheckMatches.t1_eq (G_law35_CertcheckMatches.J Q) Q x4 h).mp H)
def G_law35_CertcheckMatches.t (J : JT) (Q : AV → AHeap → Prop) (x0 : List UInt8) (x1 : List UInt8) (h : AHeap) : Prop :=
(bif (decide ((500 : Int) < (x0.length : Int))) then
(J 1 [(0, (AV.s x0)), (1, (AV.s x1)), (12, (AV.b true))] h)
else
(J 1 [(0, (AV.s x0)), (1, (AV.s x1)), (12, (AV.b (decide ((500 : Int) < (x1.length : Int)))))] h))
theorem G_law35_CertcheckMatches.t_eq (J : JT) (Q : AV → AHeap → Prop) (x0 : List UInt8) (x1 : List UInt8) (h : AHeap) : G_law35_CertcheckMatches.t J Q x0 x1 h = exJ prog C 29 J G_law35_CertcheckMatches.ann G_law35_CertcheckMatches.body (initEnv 0 [(AV.s x0), (AV.s x1)]) h (kFun prog Tryz.f3 Q) := by kernel_rfl
theorem G_law35_CertcheckMatches.call {K : AV → AHeap → Prop} {x0 : List UInt8} {x1 : List UInt8} {h : AHeap} (H : G_law35_CertcheckMatches.t (G_law35_CertcheckMatches.J (kRet h K)) (kRet h K) x0 x1 h) : C G_law35_CertcheckMatches.id [(AV.s x0), (AV.s x1)] h K :=
  callJ (P := prog) (fn := Tryz.f3) (ann := G_law35_CertcheckMatches.ann) (body := G_law35_CertcheckMatches.body) Tryz.func3 G_law35_CertcheckMatches.body_eq (by kernel_rfl) G_law35_CertcheckMatches.dist (by kernel_rfl) ((G_law35_CertcheckMatches.t_eq (G_law35_CertcheckMatches.J (kRet h K)) (kRet h K) x0 x1 h).mp H)


end Go.Proofs.YtomghnmoomodiaaGreatDoor

/- CertcheckMatches. -/
set_option linter.unusedVariables false
set_option linter.unusedSimpArgs false
set_option linter.unusedSectionVars false
set_option maxRecDepth 20000
namespace Go.Proofs.YtomghnmoomodiaaGreatDoor
open Go.GAM Go.RowKit

theorem matches_c {p x : List UInt8} {h : AHeap} : C G_law35_CertcheckMatches.id [.s p, .s x] h Yes := by
  refine G_law35_CertcheckMatches.call ?_
  simp only [G_law35_CertcheckMatches.t, G_law35_CertcheckMatches.j0]
  have skip : G_law35_CertcheckMatches.p0 (kRet h Yes) p x true h := by
    refine G_law35_CertcheckMatches.i0 ?_
    simp only [G_law35_CertcheckMatches.t0]
    exact bif_t rfl (awake_c fun h' _ => st_asB kRet_yes)
  refine bif_both (fun e => skip) fun e => ?_
  by_cases hx : 500 < x.length
  · rw [decide_eq_true (by omega)]; exact skip
  simp at e
  rw [decide_eq_false (by omega)]
  refine G_law35_CertcheckMatches.i0 ?_
  simp only [G_law35_CertcheckMatches.t0, G_law35_CertcheckMatches.j1]
  refine bif_f rfl (match_c (by omega) (by omega) (st_asB (Rmatch_c (by omega) (by omega) (st_asB (bif_t (by simp) (match_c (by omega) (by omega) (st_asB (bif_t (match_self x) (awake_c fun h' _ => st_asB ?_)))))))))
  refine G_law35_CertcheckMatches.i1 ?_
  simp only [G_law35_CertcheckMatches.t1]
  exact kRet_yes

theorem walk_CertcheckMatches {p x : ByteArray} (W : World) (hL : laidMet Tryz.prog Rows.certcheckMatchesRow.laid W) (w0 : p.size ≤ maxLen) (w1 : x.size ≤ maxLen) :
    Calls Tryz.prog G_law35_CertcheckMatches.id #[.string p, .string x] W fun e w' => e = .returned (.bool true) ∧ Below W.heap.size W w' :=
  law_calls mixedOK sizeOK soundX (by kernel_rfl) (szOf := fun _ => 1) (.cons _ _ _ _ (.s _ _ rfl) (.cons _ _ _ _ (.s _ _ rfl) .nil)) matches_c

end Go.Proofs.YtomghnmoomodiaaGreatDoor

