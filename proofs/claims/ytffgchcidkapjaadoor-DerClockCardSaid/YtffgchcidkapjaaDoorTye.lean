/- Arguments that are DER values; Few; the small examples. -/
import Derived.Test.YtffgchcidkapjaaDoorTyd
import Derived.Test.YtffgchcidkapjaaDoorRows
set_option linter.unusedVariables false
set_option linter.unusedSimpArgs false
set_option linter.unusedSectionVars false
set_option maxRecDepth 20000
namespace Go.GAM
open Go.RowKit Go.ChangeShapes

section
variable {H : Type} {enc : TypeId × Value → H} {P : Program} {w : World} {szOf : Nat → Nat}
/-- A slice that is read, spare places and all: its rows, read with less fuel. -/
theorem row_openF {t e : TypeId} {fuel : Nat} {cs : List Value} {x : DataW H × List MemPlace} (ht : P.underlying t = some (.slice e)) (h : DataW.trod enc P w 0 (fun _ => true) true fuel t cs = some x) :
    cs = [.slice none 0 0] ∨ ∃ (a : Addr) (len cap n : Nat) (rows : List (List Value)), fuel = n + 1 ∧ cs = [.slice (some a) len cap] ∧ len ≤ cap ∧ rows.length = cap ∧
      (∀ r ∈ rows, r.length = P.cellsOf e ∧ ∃ y, DataW.trod enc P w 0 (fun _ => true) true n e r = some y) ∧ ∀ i, i < rows.flatten.length → w.cell? (a.add i) = some (rows.flatten.getD i undef) := by
  rcases DataW.trod_slice ht h with ⟨h0, _⟩ | ⟨a, len, cap, elems, rest, n, hf, rfl, _, hb, hl, hm, hlen, hel, hsp, hns⟩
  · exact .inl h0
  right
  have each : ∀ i, i < cap → ∃ r, w.cells? 0 (a.add (i * P.cellsOf e)) (P.cellsOf e) = some r ∧ ∃ y, DataW.trod enc P w 0 (fun _ => true) true n e r = some y := by
    intro i hi
    have hb' : ∃ y, (w.cells? 0 (a.add (i * P.cellsOf e)) (P.cellsOf e)).bind (DataW.trod enc P w 0 (fun _ => true) true n e) = some y := by
      by_cases h1 : i < len
      · rw [hel i h1]
        exact ⟨_, List.getElem?_eq_getElem (by omega)⟩
      · obtain ⟨h2, h3⟩ := hsp rfl
        have := h3 (i - len) (by omega)
        rw [show len + (i - len) = i by omega] at this
        rw [this]
        exact ⟨_, List.getElem?_eq_getElem (by omega)⟩
    obtain ⟨y, hy⟩ := hb'
    obtain ⟨r, h1, h2⟩ := Option.bind_eq_some_iff.1 hy
    exact ⟨r, h1, y, h2⟩
  refine ⟨a, len, cap, n, (List.range cap).map fun i => (w.cells? 0 (a.add (i * P.cellsOf e)) (P.cellsOf e)).getD [], hf, rfl, hl, by simp, ?_, ?_⟩
  · intro r hr
    obtain ⟨i, hi, rfl⟩ := List.mem_map.1 hr
    obtain ⟨r, h1, y, h2⟩ := each i (by simpa using hi)
    rw [h1]
    exact ⟨(World.cells?_some h1).2.1, y, h2⟩
  · have := rows_cells (w := w) (a := a) (sz := P.cellsOf e) ((List.range cap).map fun i => (w.cells? 0 (a.add (i * P.cellsOf e)) (P.cellsOf e)).getD []) 0 (fun i r hi => by
      simp only [List.getElem?_map, Option.map_eq_some_iff] at hi
      obtain ⟨i', hi', rfl⟩ := hi
      obtain ⟨hlt, rfl⟩ := List.getElem?_eq_some_iff.1 hi'
      rw [List.getElem_range]
      obtain ⟨r, h1, _⟩ := each i (by simpa using hlt)
      rw [h1]
      have hs := World.cells?_some h1
      refine ⟨hs.2.1, fun j hj => ?_⟩
      have := hs.2.2 j hj
      rw [Addr.add_add] at this
      rw [Nat.zero_add, this]
      simp [hs.2.1, hj])
    simpa using this
end
end Go.GAM
namespace Go.Proofs.YtffgchcidkapjaaDoor
open Go.GAM Go.RowKit Go.ChangeShapes

/-- The blocks of the world as it came in. -/
def inW (w : World) (i : Nat) : Prop := i < w.heap.size + 1

theorem dvs_of {w : World} : ∀ (rows : List (List Value)), (∀ r ∈ rows, ∃ d : Der, DV (heapC w fun _ => 5) (inW w) d (r.map (absV w fun _ => 5))) → ∃ ks : List Der, DVs (heapC w fun _ => 5) (inW w) ks (rows.map (·.map (absV w fun _ => 5)))
  | [], _ => ⟨[], .nil⟩
  | r :: rows, h => by
    obtain ⟨d, hd⟩ := h r (by simp)
    obtain ⟨ks, hk⟩ := dvs_of rows fun r hr => h r (by simp [hr])
    exact ⟨d :: ks, .cons hd hk⟩

theorem der_row {H : Type} {enc : TypeId × Value → H} {w : World} : ∀ (fuel : Nat) (cs : List Value) (x : DataW H × List MemPlace), DataW.trod enc Tryd.prog w 0 (fun _ => true) true fuel 25 cs = some x → cs.length = 5 ∧ ∃ d : Der, DV (heapC w fun _ => 5) (inW w) d (cs.map (absV w fun _ => 5)) := by
  intro fuel
  induction fuel with
  | zero => intro cs x h; simp [DataW.trod] at h
  | succ fuel ih =>
    intro cs x h
    obtain ⟨xs, n, hn, _, hlen, hl, hf⟩ := DataW.trod_struct Tryd.underlying25 h
    have c25 : Tryd.prog.cellsOf 25 = 5 := by kernel_rfl
    have c3 : Tryd.prog.cellsOf 3 = 1 := by kernel_rfl
    have c4 : Tryd.prog.cellsOf 4 = 1 := by kernel_rfl
    have c9 : Tryd.prog.cellsOf 9 = 1 := by kernel_rfl
    have c23 : Tryd.prog.cellsOf 23 = 1 := by kernel_rfl
    rw [c25] at hlen
    refine ⟨hlen, ?_⟩
    have hn : fuel = n := by omega
    subst hn
    match cs, hlen with
    | [v0, v1, v2, v3, v4], _ =>
      have hxl : xs.length = 5 := hl
      have f0 : DataW.trod enc Tryd.prog w 0 (fun _ => true) true fuel 3 (([v0, v1, v2, v3, v4].drop 0).take (Tryd.prog.cellsOf 3)) = xs[0]? := hf 0 _ rfl
      rw [c3] at f0
      have f1 : DataW.trod enc Tryd.prog w 0 (fun _ => true) true fuel 3 (([v0, v1, v2, v3, v4].drop 1).take (Tryd.prog.cellsOf 3)) = xs[1]? := hf 1 _ rfl
      rw [c3] at f1
      have f2 : DataW.trod enc Tryd.prog w 0 (fun _ => true) true fuel 4 (([v0, v1, v2, v3, v4].drop 2).take (Tryd.prog.cellsOf 4)) = xs[2]? := hf 2 _ rfl
      rw [c4] at f2
      have f3 : DataW.trod enc Tryd.prog w 0 (fun _ => true) true fuel 9 (([v0, v1, v2, v3, v4].drop 3).take (Tryd.prog.cellsOf 9)) = xs[3]? := hf 3 _ rfl
      rw [c9] at f3
      have f4 : DataW.trod enc Tryd.prog w 0 (fun _ => true) true fuel 23 (([v0, v1, v2, v3, v4].drop 4).take (Tryd.prog.cellsOf 23)) = xs[4]? := hf 4 _ rfl
      rw [c23] at f4
      rw [List.getElem?_eq_getElem (by omega)] at f0 f1 f2 f3 f4
      obtain ⟨a, e0, _, _⟩ := DataW.trod_int Tryd.underlying3 f0
      obtain ⟨b, e1, _, _⟩ := DataW.trod_int Tryd.underlying3 f1
      obtain ⟨m, e2, _⟩ := DataW.trod_bool Tryd.underlying4 f2
      obtain ⟨s, e3, _, _⟩ := DataW.trod_string Tryd.underlying9 f3
      have g0 : v0 = .int .i64 a := List.singleton_inj.1 e0
      have g1 : v1 = .int .i64 b := List.singleton_inj.1 e1
      have g2 : v2 = .bool m := List.singleton_inj.1 e2
      have g3 : v3 = .string s := List.singleton_inj.1 e3
      subst g0 g1 g2 g3
      rcases row_openF Tryd.underlying23 f4 with h0 | ⟨x, len, cap, n, rows, hfn, h0, hlc, hrl, hr, hcell⟩
      · have h0 : v4 = .slice none 0 0 := List.singleton_inj.1 h0
        subst h0
        exact ⟨.mk a b m s.data.toList [], .mk .nil (.inl (.inl ⟨rfl, rfl, rfl⟩)) (fun i hi => hi.elim) rfl⟩
      · have h0 : v4 = .slice (some x) len cap := List.singleton_inj.1 h0
        subst h0
        by_cases hc0 : cap = 0
        · subst hc0
          have hl0 : len = 0 := by omega
          subst hl0
          refine ⟨.mk a b m s.data.toList [], ?_⟩
          have e : absV w (fun _ => 5) (.slice (some x) 0 0) = .sl (some ⟨w.heap.size, 0, 0⟩) 0 (some 0) := by simp [absV, absV1]
          show DV _ _ _ [_, _, _, _, absV w (fun _ => 5) (.slice (some x) 0 0)]
          rw [e]
          refine .mk .nil (.inr ⟨rfl, rfl, _, _, rfl⟩) (fun i hi => ?_) rfl
          have hi : w.heap.size = i := hi
          subst hi
          exact ⟨Nat.lt_succ_self _, by rw [heapC_len]; omega⟩
        · have hrow5 := rows_len rows fun r hr' => (hr r hr').1.trans c25
          obtain ⟨ver, blk, h1, h2, h3⟩ := canon_slice (w := w) (szOf := fun _ => 5) (sz := 5) hlc hc0 (by decide) rfl (by rw [hrow5, hrl]) hcell
          rw [rows_take rows len fun r hr' => (hr r hr').1.trans c25] at h2
          obtain ⟨ks, hks⟩ := dvs_of (w := w) (rows.take len) fun r hr' => by
            obtain ⟨_, y, hy⟩ := hr r (List.mem_of_mem_take hr')
            exact (ih r y (DataW.trod_le (by omega) hy)).2
          have hl5 : (rows.take len).length = len := by rw [List.length_take, hrl]; omega
          refine ⟨.mk a b m s.data.toList ks, ?_⟩
          show DV _ _ _ [_, _, _, _, absV w (fun _ => 5) (.slice (some x) len cap)]
          rw [h1]
          have hrd := h2.rd (some cap)
          refine .mk hks (.inl ?_) (fun i hi => ?_) rfl
          · rw [List.length_map, hl5, ← List.map_flatten]
            exact hrd
          · have hi : x.block = i := hi
            subst hi
            have := h2.lt
            rw [heapC_len] at this
            exact ⟨this, by rw [heapC_len]; exact this⟩

theorem der_arg {H : Type} {enc : TypeId × Value → H} {w : World} {v : Value} {d : DataW H} {p : List MemPlace} (k : DataW.Trod enc Tryd.prog w 0 (fun _ => true) true 25 v d p) :
    ∃ (cs : List AV) (x : Der), VRel (muC w fun _ => 5) (.ag cs) v ∧ DV (heapC w fun _ => 5) (inW w) x cs := by
  obtain ⟨fuel, h⟩ := k
  obtain ⟨h5, x, hx⟩ := der_row fuel _ _ h
  cases v with
  | agg cs => exact ⟨_, x, .ag _ _ (by
      have : ∀ vs : List Value, VRels (muC w fun _ => 5) (vs.map (absV w fun _ => 5)) vs := absVs_rel
      exact this _), hx⟩
  | _ => simp [Value.cells] at h5

/-! ### Few -/

mutual
def fewV : Nat → Nat → Der → Bool × Nat
  | lvl, n, .mk _ _ _ s ks => if 30 < lvl ∨ 6000 < n + (10 + s.length) ∨ 3000 < s.length then (false, n + (10 + s.length)) else fewK (lvl + 1) (n + (10 + s.length)) ks
def fewK : Nat → Nat → List Der → Bool × Nat
  | _, n, [] => (true, n)
  | lvl, n, k :: r => if (fewV lvl n k).1 = true then fewK lvl (fewV lvl n k).2 r else fewV lvl n k
end
def Der.few (d : Der) : Bool := (fewV 1 0 d).1

theorem few_n : ∀ m, (∀ (d : Der) (lvl n : Nat), d.sz ≤ m → (fewV lvl n d).1 = true → (fewV lvl n d).2 = n + dsum d ∧ n + dsum d ≤ 6000) ∧ (∀ (ks : List Der) (lvl n : Nat), szs ks ≤ m → n ≤ 6000 → (fewK lvl n ks).1 = true → (fewK lvl n ks).2 = n + dsums ks ∧ n + dsums ks ≤ 6000) := by
  intro m
  induction m with
  | zero =>
    refine ⟨fun d lvl n hd => absurd hd (by have := szs_pos d; omega), fun ks lvl n hk _ _ => ?_⟩
    cases ks with
    | nil => simp [fewK, dsums]; assumption
    | cons k r => have := szs_pos k; unfold szs at hk; omega
  | succ m ih =>
    have hV : ∀ (d : Der) (lvl n : Nat), d.sz ≤ m + 1 → (fewV lvl n d).1 = true → (fewV lvl n d).2 = n + dsum d ∧ n + dsum d ≤ 6000 := by
      intro d lvl n hd h
      obtain ⟨c, t, mm, s, ks⟩ := d
      unfold Der.sz at hd
      unfold fewV at h ⊢
      unfold dsum
      split at h
      · cases h
      · rename_i hc
        rw [if_neg hc]
        have := ih.2 ks (lvl + 1) _ (by omega) (by omega) h
        omega
    refine ⟨hV, fun ks => ?_⟩
    induction ks with
    | nil => intro lvl n _ h6 _; simp [fewK, dsums]; exact h6
    | cons k r ihr =>
      intro lvl n hk h6 h
      unfold szs at hk
      unfold fewK at h ⊢
      unfold dsums
      split at h
      · rename_i h1
        rw [if_pos h1]
        have h2 := hV k lvl n (by omega) h1
        have := ihr lvl _ (by omega) (by omega) h
        omega
      · rename_i h1; exact absurd h h1
theorem sz_dsum : ∀ m, (∀ d : Der, d.sz ≤ m → 10 * d.sz ≤ dsum d ∧ d.data.length ≤ dsum d) ∧ ∀ ks : List Der, szs ks ≤ m → 10 * szs ks ≤ dsums ks := by
  intro m
  induction m with
  | zero =>
    refine ⟨fun d hd => absurd hd (by have := szs_pos d; omega), fun ks hk => ?_⟩
    cases ks with
    | nil => simp [szs]
    | cons k r => have := szs_pos k; unfold szs at hk; omega
  | succ m ih =>
    have hV : ∀ d : Der, d.sz ≤ m + 1 → 10 * d.sz ≤ dsum d ∧ d.data.length ≤ dsum d := by
      intro d hd
      obtain ⟨c, t, mm, s, ks⟩ := d
      unfold Der.sz at hd
      have := ih.2 ks (by omega)
      show 10 * (Der.mk c t mm s ks).sz ≤ dsum (Der.mk c t mm s ks) ∧ s.length ≤ dsum (Der.mk c t mm s ks)
      unfold Der.sz dsum
      omega
    refine ⟨hV, fun ks => ?_⟩
    induction ks with
    | nil => intro _; simp [szs]
    | cons k r ihr =>
      intro hk
      unfold szs at hk
      have := hV k (by omega)
      have := ihr (by omega)
      unfold szs dsums; omega
theorem few_small {d : Der} (h : d.few = true) : dsum d ≤ 6000 ∧ d.sz ≤ 600 ∧ d.data.length ≤ 6000 := by
  have h1 := (few_n d.sz).1 d 1 0 (Nat.le_refl _) h
  have h2 := (sz_dsum d.sz).1 d (Nat.le_refl _)
  omega

section
variable {h0 : AHeap} {Q : AV → AHeap → Prop}

theorem fewK_step {k : Der} {r : List Der} {lvl n : Nat} : fewK lvl n (k :: r) = if (fewV lvl n k).1 = true then fewK lvl (fewV lvl n k).2 r else fewV lvl n k := by rw [fewK]

theorem fewc_n : ∀ m, ∀ (d : Der) (cs : List AV) (F : Nat → Prop) (lvl n id0 : Nat) (h : AHeap) (Q : AV → AHeap → Prop), d.sz ≤ m → lvl ≤ 1000 → n ≤ 6000 → RecAt h id0 [.i .i64 (n : Int)] → DV h F d cs → (∀ i, F i → i ≠ id0) →
    (∀ h', Upd (· = id0) h h' → ((fewV lvl n d).1 = true → RecAt h' id0 [.i .i64 ((fewV lvl n d).2 : Int)]) → Q (.b (fewV lvl n d).1) h') → C G_ref33_Count_few.id [.p (some ⟨id0, 1, 0⟩), .ag cs, .i .i64 (lvl : Int)] h Q := by
  intro m
  induction m with
  | zero => intro d cs F lvl n id0 h Q hd; have := szs_pos d; omega
  | succ m ih =>
    intro d cs F lvl n id0 h Q hd hlv hn R D hF hq
    cases D with
    | @mk c t mm s ks v rows Dk sv fv ov =>
    refine G_ref33_Count_few.call ?_
    simp only [G_ref33_Count_few.t, G_ref33_Count_few.j0]
    unfold Der.sz at hd
    have hln := Dk.length
    have id0l := R.lt
    refine st_box rfl fun h1 hl1 U1 B => ?_
    have R1 := R.upd U1 fun h => h
    refine st_nil (st_fld (st_load R1 rfl rfl (st_asI (st_fld (st_load B rfl rfl (st_asS (withI_is rfl (withI_is rfl (st_nil (st_fld (st_store R1 rfl (by simp) rfl rfl rfl fun h2 hl2 U2 R2 => ?_)))))))))))
    have B := B.upd U2 (by omega)
    have U : Upd (· = id0) h h2 := (U1.mono fun _ _ h => h.elim).trans U2 fun _ _ h => h
    unfold fewV at hq
    have p0bad : (30 < lvl ∨ 6000 < n + (10 + s.length) ∨ 3000 < s.length) → G_ref33_Count_few.p0 (kRet h Q) (.p (some ⟨id0, 1, 0⟩)) lvl (.p (some ⟨h.length, 5, 0⟩)) true h2 := by
      intro hb
      rw [if_pos hb] at hq
      refine G_ref33_Count_few.i0 ?_
      simp only [G_ref33_Count_few.t0]
      exact bif_t rfl (.inl (hq h2 U fun h => by cases h))
    by_cases hsl : 3000 < s.length
    · -- any way it is too long
      by_cases e1 : 30 < lvl
      · exact bif_t (by simp; omega) (p0bad (.inl e1))
      refine bif_f (by simp; omega) (st_nil (st_fld (st_load R2 rfl rfl (st_asI ?_))))
      refine bif_both (fun e2 => p0bad (.inr (.inr hsl))) fun e2 => st_fld (st_load B rfl rfl (st_asS ?_))
      rw [decide_eq_true (by omega)]
      exact p0bad (.inr (.inr hsl))
    have ew : IntKind.wrap .i64 ((n : Int) + IntKind.wrap .i64 (10 + (s.length : Int))) = ((n + (10 + s.length) : Nat) : Int) := by
      rw [wrap_i64 (n := 10 + (s.length : Int)) (by omega) (by omega), wrap_i64 (by omega) (by omega)]; omega
    have R2 : RecAt h2 id0 [.i .i64 ((n + (10 + s.length) : Nat) : Int)] := by rw [← ew]; exact R2
    by_cases e1 : 30 < lvl
    · exact bif_t (by simp; omega) (p0bad (.inl e1))
    refine bif_f (by simp; omega) (st_nil (st_fld (st_load R2 rfl rfl (st_asI ?_))))
    by_cases e2 : 6000 < n + (10 + s.length)
    · exact bif_t (by simp; omega) (p0bad (.inr (.inl e2)))
    refine bif_f (by simp; omega) (st_fld (st_load B rfl rfl (st_asS ?_)))
    rw [decide_eq_false (by omega)]
    rw [if_neg (by omega)] at hq
    generalize hn1 : n + (10 + s.length) = n1 at hq R2 e2
    have hks : ∀ k ∈ ks, k.sz ≤ m := fun k hk => by have := szs_mem hk; omega
    have go : ∀ (r : List Der) (i n2 : Nat) (h2 : AHeap), ks.drop i = r → i ≤ ks.length → n2 ≤ 6000 → 10 * i ≤ n2 → Upd (· = id0) h h2 → RecAt h2 h.length [.i .i64 c, .i .i64 t, .b mm, .s s, v] → RecAt h2 id0 [.i .i64 (n2 : Int)] →
        (∀ h', Upd (· = id0) h h' → ((fewK (lvl + 1) n2 r).1 = true → RecAt h' id0 [.i .i64 ((fewK (lvl + 1) n2 r).2 : Int)]) → Q (.b (fewK (lvl + 1) n2 r).1) h') → G_ref33_Count_few.p1 (kRet h Q) (.p (some ⟨id0, 1, 0⟩)) lvl (.p (some ⟨h.length, 5, 0⟩)) i h2 := by
      intro r
      induction r with
      | nil =>
        intro i n2 h2 hr hi hn2 h10 U B R hk
        have hle := drop_end hr
        have S2 := sv.upd U fun i hs _ => hF i (fv i hs).1
        refine G_ref33_Count_few.i1 ?_
        simp only [G_ref33_Count_few.t1]
        refine st_fld (st_load B rfl rfl (S2.len (bif_f (by simp; omega) (.inl ?_))))
        have := hk h2 U (by unfold fewK; exact fun _ => R)
        unfold fewK at this
        exact this
      | cons k r ihr =>
        intro i n2 h2 hr hi hn2 h10 U B R hk
        have hlt := drop_lt hr
        have hn' := drop_next hr
        have hki := at_of_drop hr
        have S2 := sv.upd U fun i hs _ => hF i (fv i hs).1
        have D2 := Dk.upd (F' := F) U fun i hi _ => ⟨hF i hi, hi⟩
        obtain ⟨r1, g1, e1⟩ := D2.get hki
        obtain ⟨id1, ver1, off1, cap1, b1, rfl, A1⟩ := S2.at (by omega)
        have q1 := rows_get rows i r1 D2.len5 g1
        have hk0 := List.mem_of_getElem? hki
        refine G_ref33_Count_few.i1 ?_
        simp only [G_ref33_Count_few.t1, G_ref33_Count_few.j1]
        refine st_fld (st_load B rfl rfl (S2.len (bif_t (by simp; omega) ?_)))
        refine st_fld (st_load B rfl rfl (st_idx A1 (by omega) (st_elemN A1 (by omega) q1 (inc (by omega) ?_))))
        refine ih k r1 F (lvl + 1) n2 id0 h2 _ (hks k hk0) (by omega) hn2 R e1 hF fun h3 U3 R3 => st_asB ?_
        have UU := U.trans U3 fun _ _ h => h
        have B := B.upd U3 (by omega)
        rw [fewK_step] at hk
        cases he : (fewV (lvl + 1) n2 k).1 with
        | false =>
          rw [if_neg (by rw [he]; simp)] at hk
          rw [← he]
          exact bif_t (by rw [he]; rfl) (.inl (hk h3 UU R3))
        | true =>
          rw [if_pos he] at hk
          have hb := (few_n k.sz).1 k _ _ (Nat.le_refl _) he
          have hz := (sz_dsum k.sz).1 k (Nat.le_refl _)
          have hp := szs_pos k
          refine bif_f rfl (inc (by omega) ?_)
          exact ihr (i + 1) _ h3 hn' (by omega) (by omega) (by omega) UU B (R3 he) hk
    refine G_ref33_Count_few.i0 ?_
    simp only [G_ref33_Count_few.t0, G_ref33_Count_few.j1]
    exact bif_f rfl (go ks 0 n1 h2 rfl (by omega) (by omega) (by omega) U B R2 hq)
theorem few_c {d : Der} {cs : List AV} {F : Nat → Prop} {h : AHeap} {Q : AV → AHeap → Prop} (D : DV h F d cs) (hF : ∀ i, F i → i < h.length) (hq : Q (.b d.few) h) : C G_ref33_Few.id [.ag cs] h Q := by
  refine G_ref33_Few.call ?_
  simp only [G_ref33_Few.t]
  refine D.box fun h1 hl1 U1 B D1 => st_box rfl fun h2 hl2 U2 R => ?_
  have B2 := B.upd U2 fun h => h
  refine st_loadN B2 D.len.symm (fewc_n d.sz d cs F 1 0 h1.length h2 _ (Nat.le_refl _) (by omega) (by omega) R (D1.ext U2) (fun i hi => by have := hF i hi; omega) fun h3 U3 R3 => st_asB ?_)
  have E : Ext h h3 := ((((U1.mono (M' := fun i => h.length ≤ i) fun _ _ h => h.elim).trans U2 fun _ _ h => h.elim).trans U3 fun i hi he => by omega).mono (M' := fun i => False) fun i hi he => by omega).ext
  exact kRet_pure rfl E hq

/-! ### the small examples -/

theorem lives_c {h : AHeap} {Q : AV → AHeap → Prop} (hq : ∀ h', Upd (fun _ => False) h h' → Q (.b true) h') : C G_law33_lives.id [] h Q := by
  refine G_law33_lives.call ?_
  simp only [G_law33_lives.t, G_law33_lives.j0]
  refine decode_c ?_
  have hd : decS [48, 3, 2, 1, 5] = .ok (.mk 0 16 true [] [.mk 0 2 false [5] []]) := by rfl
  rw [hd]
  intro cs h1 U1 D
  have hsz : (Der.mk 0 16 true [] [.mk 0 2 false [5] []]).sz ≤ 100000 := by decide
  cases D with
  | @mk _ _ _ _ _ v rows Dk sv fv ov =>
  have hln := Dk.length
  refine st_ext0 (st_ext1 (st_asI (st_alloc fun h2 hl2 U2 R => st_storeN R rfl rfl (by simp [AV.cellOK] at ov ⊢; exact ov) fun h3 hl3 U3 R => ?_)))
  have U13 : Upd (· = h1.length) h1 h3 := (U2.mono fun _ _ h => h.elim).trans U3 fun _ _ h => h
  have lt : ∀ i, SlAt v i → i < h1.length := fun i hi => (fv i hi).2
  have D3 : DV h3 (fun i => i < h1.length) _ _ := (DV.mk Dk sv fv ov (c := 0) (t := 16) (m := true) (s := [])).upd U13 fun i hi hl => ⟨by omega, hl⟩
  have S3 := sv.upd U13 fun i hs hl => by omega
  have U : Upd (fun _ => False) h h3 := ((U1.mono (M' := fun i => h.length ≤ i) fun _ _ h => h.elim).trans U13 fun i hi he => by have := U1.1; omega).mono fun i hi he => by omega
  refine bif_f rfl (st_fld (st_load R rfl rfl (st_asI (bif_f rfl (st_fld (st_load R rfl rfl (st_asB (bif_f rfl (st_fld (st_load R rfl rfl (S3.len ?_)))))))))))
  rw [← hln]
  refine G_law33_lives.i0 ?_
  simp only [G_law33_lives.t0, G_law33_lives.j1]
  refine bif_f rfl (st_fld (st_load R rfl rfl ?_))
  obtain ⟨id1, ver1, off1, cap1, b1, rfl, A1⟩ := S3.at (by rw [← hln]; decide)
  have Dk3 := Dk.upd (F' := fun _ => True) U13 fun i hi hl => ⟨by omega, trivial⟩
  obtain ⟨r1, g1, e1⟩ := Dk3.get (i := 0) rfl
  have q1 := rows_get rows 0 r1 Dk3.len5 g1
  refine st_idx A1 (i := 0) (by rw [← hln]; decide) (st_elemN A1 (by rw [← hln]; decide) q1 ?_)
  refine int_c e1 (by decide) ?_
  have hi : intS (.mk 0 2 false [5] []) = (5, true) := by rfl
  rw [hi]
  refine st_ext0 (st_asI (st_ext1 (st_asB (st_loadN R rfl ?_))))
  refine encode_c hsz (by decide) D3 (fun i hi => by omega) ?_
  have he : encS (.mk 0 16 true [] [.mk 0 2 false [5] []]) = .ok [48, 3, 2, 1, 5] := by rfl
  rw [he]
  refine st_ext0 (st_asS (st_ext1 (st_asI (oidOf_c fun h4 U4 => ?_))))
  have ho : oidOfS [50, 46, 53, 46, 50, 57, 46, 49, 55] = .ok [85, 29, 17] := by rfl
  rw [ho]
  refine st_ext0 (st_ext1 (st_asI (st_alloc fun h5 hl5 U5 RO => st_storeN RO rfl rfl rfl fun h6 hl6 U6 RO => ?_)))
  have D0 : Date (31536000 / 86400) 1971 1 0 := ⟨by decide, by decide, by decide, by decide, by decide, by decide, by decide⟩
  refine timeOf_c (n := 31536000) (by decide) D0 ?_
  have ht : timeOfS 1971 1 0 (31536000 % 86400) = leafC 0 23 false [55, 49, 48, 49, 48, 49, 48, 48, 48, 48, 48, 48, 90] := by rfl
  rw [ht]
  refine time_c (DV.leaf h6 (fun _ => True) 0 23 false [55, 49, 48, 49, 48, 49, 48, 48, 48, 48, 48, 48, 90]) (by decide) ?_
  have ht2 : timeS (.mk 0 23 false [55, 49, 48, 49, 48, 49, 48, 48, 48, 48, 48, 48, 90] []) = (31536000, true) := by rfl
  rw [ht2]
  refine st_ext0 (st_asI (st_ext1 (st_asB ?_)))
  refine text_c (DV.leaf h6 (fun _ => True) 0 12 false [97]) (by decide) ?_
  have hx : textS (.mk 0 12 false [97] []) = ([97], true) := by rfl
  rw [hx]
  refine st_ext0 (st_asS (st_ext1 (st_asB ?_)))
  refine bif_t rfl (bif_t rfl (bif_t rfl (bif_t rfl (st_fld (st_load RO rfl rfl (st_asS (bif_t rfl (bif_t rfl (bif_t rfl (bif_t rfl (bif_t rfl (bif_t rfl ?_))))))))))))
  refine intOf_c ?_
  have hi2 : intOfS 128 = leafC 0 2 false [0, 128] := by rfl
  rw [hi2]
  refine ⟨by decide, st_asS (bif_t rfl ?_)⟩
  refine timeOf_c (n := 31536000) (by decide) D0 ?_
  rw [ht]
  refine ⟨by decide, st_asS (withB_is (n := true) rfl ?_)⟩
  refine G_law33_lives.i1 ?_
  simp only [G_law33_lives.t1]
  have U6' : Upd (fun _ => False) h3 h6 := ((U4.trans U5 fun _ _ h => h).mono (M' := fun i => i = h4.length) fun _ _ h => h.elim).trans U6 (fun _ _ h => h) |>.mono fun i hi he => by have := U4.1; omega
  exact .inl (hq h6 (U.trans U6' fun _ _ h => h))

end
end Go.Proofs.YtffgchcidkapjaaDoor
