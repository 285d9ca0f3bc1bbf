/- Lemmas (several texts in one). -/
import Derived.Test.YtffgchcidkapjaaDoorRows
import Derived.Lib.ItoaNum
import Derived.Test.YtffgchcidkapjaaDoorMg4
/- Arguments that are DER values; Few; the small examples. -/
set_option linter.unusedVariables false
set_option linter.unusedSimpArgs false
set_option linter.unusedSectionVars false
set_option maxRecDepth 20000
namespace Go.GAM
open Go.RowKit Go.ChangeShapes

section
variable {H : Type} {enc : TypeId × Value → H} {P : Program} {w : World} {szOf : Nat → Nat}
/-- A slice that is read, spare places and all: its rows, read with less fuel. -/
theorem row_openF {t e : TypeId} {fuel : Nat} {cs : List Value} {x : DataW H × List MemPlace} (ht : P.underlying t = some (.slice e)) (h : DataW.trod enc P w 0 (fun _ => true) true fuel t cs = some x) :
    cs = [.slice none 0 0] ∨ ∃ (a : Addr) (len cap n : Nat) (rows : List (List Value)), fuel = n + 1 ∧ cs = [.slice (some a) len cap] ∧ len ≤ cap ∧ rows.length = cap ∧
      (∀ r ∈ rows, r.length = P.cellsOf e ∧ ∃ y, DataW.trod enc P w 0 (fun _ => true) true n e r = some y) ∧ ∀ i, i < rows.flatten.length → w.cell? (a.add i) = some (rows.flatten.getD i undef) := by
  rcases DataW.trod_slice ht h with ⟨h0, _⟩ | ⟨a, len, cap, elems, rest, n, hf, rfl, _, hb, hl, hm, hlen, hel, hsp, hns⟩
  · exact .inl h0
  right
  have each : ∀ i, i < cap → ∃ r, w.cells? 0 (a.add (i * P.cellsOf e)) (P.cellsOf e) = some r ∧ ∃ y, DataW.trod enc P w 0 (fun _ => true) true n e r = some y := by
    intro i hi
    have hb' : ∃ y, (w.cells? 0 (a.add (i * P.cellsOf e)) (P.cellsOf e)).bind (DataW.trod enc P w 0 (fun _ => true) true n e) = some y := by
      by_cases h1 : i < len
      · rw [hel i h1]
        exact ⟨_, List.getElem?_eq_getElem (by omega)⟩
      · obtain ⟨h2, h3⟩ := hsp rfl
        have := h3 (i - len) (by omega)
        rw [show len + (i - len) = i by omega] at this
        rw [this]
        exact ⟨_, List.getElem?_eq_getElem (by omega)⟩
    obtain ⟨y, hy⟩ := hb'
    obtain ⟨r, h1, h2⟩ := Option.bind_eq_some_iff.1 hy
    exact ⟨r, h1, y, h2⟩
  refine ⟨a, len, cap, n, (List.range cap).map fun i => (w.cells? 0 (a.add (i * P.cellsOf e)) (P.cellsOf e)).getD [], hf, rfl, hl, by simp, ?_, ?_⟩
  · intro r hr
    obtain ⟨i, hi, rfl⟩ := List.mem_map.1 hr
    obtain ⟨r, h1, y, h2⟩ := each i (by simpa using hi)
    rw [h1]
    exact ⟨(World.cells?_some h1).2.1, y, h2⟩
  · have := rows_cells (w := w) (a := a) (sz := P.cellsOf e) ((List.range cap).map fun i => (w.cells? 0 (a.add (i * P.cellsOf e)) (P.cellsOf e)).getD []) 0 (fun i r hi => by
      simp only [List.getElem?_map, Option.map_eq_some_iff] at hi
      obtain ⟨i', hi', rfl⟩ := hi
      obtain ⟨hlt, rfl⟩ := List.getElem?_eq_some_iff.1 hi'
      rw [List.getElem_range]
      obtain ⟨r, h1, _⟩ := each i (by simpa using hlt)
      rw [h1]
      have hs := World.cells?_some h1
      refine ⟨hs.2.1, fun j hj => ?_⟩
      have := hs.2.2 j hj
      rw [Addr.add_add] at this
      rw [Nat.zero_add, this]
      simp [hs.2.1, hj])
    simpa using this
end
end Go.GAM
namespace Go.Proofs.YtffgchcidkapjaaDoor
open Go.GAM Go.RowKit Go.ChangeShapes

/-- The blocks of the world as it came in. -/
def inW (w : World) (i : Nat) : Prop := i < w.heap.size + 1

theorem dvs_of {w : World} : ∀ (rows : List (List Value)), (∀ r ∈ rows, ∃ d : Der, DV (heapC w fun _ => 5) (inW w) d (r.map (absV w fun _ => 5))) → ∃ ks : List Der, DVs (heapC w fun _ => 5) (inW w) ks (rows.map (·.map (absV w fun _ => 5)))
  | [], _ => ⟨[], .nil⟩
  | r :: rows, h => by
    obtain ⟨d, hd⟩ := h r (by simp)
    obtain ⟨ks, hk⟩ := dvs_of rows fun r hr => h r (by simp [hr])
    exact ⟨d :: ks, .cons hd hk⟩

theorem der_row {H : Type} {enc : TypeId × Value → H} {w : World} : ∀ (fuel : Nat) (cs : List Value) (x : DataW H × List MemPlace), DataW.trod enc Tryd.prog w 0 (fun _ => true) true fuel 25 cs = some x → cs.length = 5 ∧ ∃ d : Der, DV (heapC w fun _ => 5) (inW w) d (cs.map (absV w fun _ => 5)) := by
  intro fuel
  induction fuel with
  | zero => intro cs x h; simp [DataW.trod] at h
  | succ fuel ih =>
    intro cs x h
    obtain ⟨xs, n, hn, _, hlen, hl, hf⟩ := DataW.trod_struct Tryd.underlying25 h
    have c25 : Tryd.prog.cellsOf 25 = 5 := by kernel_rfl
    have c3 : Tryd.prog.cellsOf 3 = 1 := by kernel_rfl
    have c4 : Tryd.prog.cellsOf 4 = 1 := by kernel_rfl
    have c9 : Tryd.prog.cellsOf 9 = 1 := by kernel_rfl
    have c23 : Tryd.prog.cellsOf 23 = 1 := by kernel_rfl
    rw [c25] at hlen
    refine ⟨hlen, ?_⟩
    have hn : fuel = n := by omega
    subst hn
    match cs, hlen with
    | [v0, v1, v2, v3, v4], _ =>
      have hxl : xs.length = 5 := hl
      have f0 : DataW.trod enc Tryd.prog w 0 (fun _ => true) true fuel 3 (([v0, v1, v2, v3, v4].drop 0).take (Tryd.prog.cellsOf 3)) = xs[0]? := hf 0 _ rfl
      rw [c3] at f0
      have f1 : DataW.trod enc Tryd.prog w 0 (fun _ => true) true fuel 3 (([v0, v1, v2, v3, v4].drop 1).take (Tryd.prog.cellsOf 3)) = xs[1]? := hf 1 _ rfl
      rw [c3] at f1
      have f2 : DataW.trod enc Tryd.prog w 0 (fun _ => true) true fuel 4 (([v0, v1, v2, v3, v4].drop 2).take (Tryd.prog.cellsOf 4)) = xs[2]? := hf 2 _ rfl
      rw [c4] at f2
      have f3 : DataW.trod enc Tryd.prog w 0 (fun _ => true) true fuel 9 (([v0, v1, v2, v3, v4].drop 3).take (Tryd.prog.cellsOf 9)) = xs[3]? := hf 3 _ rfl
      rw [c9] at f3
      have f4 : DataW.trod enc Tryd.prog w 0 (fun _ => true) true fuel 23 (([v0, v1, v2, v3, v4].drop 4).take (Tryd.prog.cellsOf 23)) = xs[4]? := hf 4 _ rfl
      rw [c23] at f4
      rw [List.getElem?_eq_getElem (by omega)] at f0 f1 f2 f3 f4
      obtain ⟨a, e0, _, _⟩ := DataW.trod_int Tryd.underlying3 f0
      obtain ⟨b, e1, _, _⟩ := DataW.trod_int Tryd.underlying3 f1
      obtain ⟨m, e2, _⟩ := DataW.trod_bool Tryd.underlying4 f2
      obtain ⟨s, e3, _, _⟩ := DataW.trod_string Tryd.underlying9 f3
      have g0 : v0 = .int .i64 a := List.singleton_inj.1 e0
      have g1 : v1 = .int .i64 b := List.singleton_inj.1 e1
      have g2 : v2 = .bool m := List.singleton_inj.1 e2
      have g3 : v3 = .string s := List.singleton_inj.1 e3
      subst g0 g1 g2 g3
      rcases row_openF Tryd.underlying23 f4 with h0 | ⟨x, len, cap, n, rows, hfn, h0, hlc, hrl, hr, hcell⟩
      · have h0 : v4 = .slice none 0 0 := List.singleton_inj.1 h0
        subst h0
        exact ⟨.mk a b m s.data.toList [], .mk .nil (.inl (.inl ⟨rfl, rfl, rfl⟩)) (fun i hi => hi.elim) rfl⟩
      · have h0 : v4 = .slice (some x) len cap := List.singleton_inj.1 h0
        subst h0
        by_cases hc0 : cap = 0
        · subst hc0
          have hl0 : len = 0 := by omega
          subst hl0
          refine ⟨.mk a b m s.data.toList [], ?_⟩
          have e : absV w (fun _ => 5) (.slice (some x) 0 0) = .sl (some ⟨w.heap.size, 0, 0⟩) 0 (some 0) := by simp [absV, absV1]
          show DV _ _ _ [_, _, _, _, absV w (fun _ => 5) (.slice (some x) 0 0)]
          rw [e]
          refine .mk .nil (.inr ⟨rfl, rfl, _, _, rfl⟩) (fun i hi => ?_) rfl
          have hi : w.heap.size = i := hi
          subst hi
          exact ⟨Nat.lt_succ_self _, by rw [heapC_len]; omega⟩
        · have hrow5 := rows_len rows fun r hr' => (hr r hr').1.trans c25
          obtain ⟨ver, blk, h1, h2, h3⟩ := canon_slice (w := w) (szOf := fun _ => 5) (sz := 5) hlc hc0 (by decide) rfl (by rw [hrow5, hrl]) hcell
          rw [rows_take rows len fun r hr' => (hr r hr').1.trans c25] at h2
          obtain ⟨ks, hks⟩ := dvs_of (w := w) (rows.take len) fun r hr' => by
            obtain ⟨_, y, hy⟩ := hr r (List.mem_of_mem_take hr')
            exact (ih r y (DataW.trod_le (by omega) hy)).2
          have hl5 : (rows.take len).length = len := by rw [List.length_take, hrl]; omega
          refine ⟨.mk a b m s.data.toList ks, ?_⟩
          show DV _ _ _ [_, _, _, _, absV w (fun _ => 5) (.slice (some x) len cap)]
          rw [h1]
          have hrd := h2.rd (some cap)
          refine .mk hks (.inl ?_) (fun i hi => ?_) rfl
          · rw [List.length_map, hl5, ← List.map_flatten]
            exact hrd
          · have hi : x.block = i := hi
            subst hi
            have := h2.lt
            rw [heapC_len] at this
            exact ⟨this, by rw [heapC_len]; exact this⟩

theorem der_arg {H : Type} {enc : TypeId × Value → H} {w : World} {v : Value} {d : DataW H} {p : List MemPlace} (k : DataW.Trod enc Tryd.prog w 0 (fun _ => true) true 25 v d p) :
    ∃ (cs : List AV) (x : Der), VRel (muC w fun _ => 5) (.ag cs) v ∧ DV (heapC w fun _ => 5) (inW w) x cs := by
  obtain ⟨fuel, h⟩ := k
  obtain ⟨h5, x, hx⟩ := der_row fuel _ _ h
  cases v with
  | agg cs => exact ⟨_, x, .ag _ _ (by
      have : ∀ vs : List Value, VRels (muC w fun _ => 5) (vs.map (absV w fun _ => 5)) vs := absVs_rel
      exact this _), hx⟩
  | _ => simp [Value.cells] at h5

/-! ### Few -/

mutual
def fewV : Nat → Nat → Der → Bool × Nat
  | lvl, n, .mk _ _ _ s ks => if 30 < lvl ∨ 6000 < n + (10 + s.length) ∨ 3000 < s.length then (false, n + (10 + s.length)) else fewK (lvl + 1) (n + (10 + s.length)) ks
def fewK : Nat → Nat → List Der → Bool × Nat
  | _, n, [] => (true, n)
  | lvl, n, k :: r => if (fewV lvl n k).1 = true then fewK lvl (fewV lvl n k).2 r else fewV lvl n k
end
def Der.few (d : Der) : Bool := (fewV 1 0 d).1

theorem few_n : ∀ m, (∀ (d : Der) (lvl n : Nat), d.sz ≤ m → (fewV lvl n d).1 = true → (fewV lvl n d).2 = n + dsum d ∧ n + dsum d ≤ 6000) ∧ (∀ (ks : List Der) (lvl n : Nat), szs ks ≤ m → n ≤ 6000 → (fewK lvl n ks).1 = true → (fewK lvl n ks).2 = n + dsums ks ∧ n + dsums ks ≤ 6000) := by
  intro m
  induction m with
  | zero =>
    refine ⟨fun d lvl n hd => absurd hd (by have := szs_pos d; omega), fun ks lvl n hk _ _ => ?_⟩
    cases ks with
    | nil => simp [fewK, dsums]; assumption
    | cons k r => have := szs_pos k; unfold szs at hk; omega
  | succ m ih =>
    have hV : ∀ (d : Der) (lvl n : Nat), d.sz ≤ m + 1 → (fewV lvl n d).1 = true → (fewV lvl n d).2 = n + dsum d ∧ n + dsum d ≤ 6000 := by
      intro d lvl n hd h
      obtain ⟨c, t, mm, s, ks⟩ := d
      unfold Der.sz at hd
      unfold fewV at h ⊢
      unfold dsum
      split at h
      · cases h
      · rename_i hc
        rw [if_neg hc]
        have := ih.2 ks (lvl + 1) _ (by omega) (by omega) h
        omega
    refine ⟨hV, fun ks => ?_⟩
    induction ks with
    | nil => intro lvl n _ h6 _; simp [fewK, dsums]; exact h6
    | cons k r ihr =>
      intro lvl n hk h6 h
      unfold szs at hk
      unfold fewK at h ⊢
      unfold dsums
      split at h
      · rename_i h1
        rw [if_pos h1]
        have h2 := hV k lvl n (by omega) h1
        have := ihr lvl _ (by omega) (by omega) h
        omega
      · rename_i h1; exact absurd h h1
theorem sz_dsum : ∀ m, (∀ d : Der, d.sz ≤ m → 10 * d.sz ≤ dsum d ∧ d.data.length ≤ dsum d) ∧ ∀ ks : List Der, szs ks ≤ m → 10 * szs ks ≤ dsums ks := by
  intro m
  induction m with
  | zero =>
    refine ⟨fun d hd => absurd hd (by have := szs_pos d; omega), fun ks hk => ?_⟩
    cases ks with
    | nil => simp [szs]
    | cons k r => have := szs_pos k; unfold szs at hk; omega
  | succ m ih =>
    have hV : ∀ d : Der, d.sz ≤ m + 1 → 10 * d.sz ≤ dsum d ∧ d.data.length ≤ dsum d := by
      intro d hd
      obtain ⟨c, t, mm, s, ks⟩ := d
      unfold Der.sz at hd
      have := ih.2 ks (by omega)
      show 10 * (Der.mk c t mm s ks).sz ≤ dsum (Der.mk c t mm s ks) ∧ s.length ≤ dsum (Der.mk c t mm s ks)
      unfold Der.sz dsum
      omega
    refine ⟨hV, fun ks => ?_⟩
    induction ks with
    | nil => intro _; simp [szs]
    | cons k r ihr =>
      intro hk
      unfold szs at hk
      have := hV k (by omega)
      have := ihr (by omega)
      unfold szs dsums; omega
theorem few_small {d : Der} (h : d.few = true) : dsum d ≤ 6000 ∧ d.sz ≤ 600 ∧ d.data.length ≤ 6000 := by
  have h1 := (few_n d.sz).1 d 1 0 (Nat.le_refl _) h
  have h2 := (sz_dsum d.sz).1 d (Nat.le_refl _)
  omega

section
variable {h0 : AHeap} {Q : AV → AHeap → Prop}

theorem fewK_step {k : Der} {r : List Der} {lvl n : Nat} : fewK lvl n (k :: r) = if (fewV lvl n k).1 = true then fewK lvl (fewV lvl n k).2 r else fewV lvl n k := by rw [fewK]

theorem fewc_n : ∀ m, ∀ (d : Der) (cs : List AV) (F : Nat → Prop) (lvl n id0 : Nat) (h : AHeap) (Q : AV → AHeap → Prop), d.sz ≤ m → lvl ≤ 1000 → n ≤ 6000 → RecAt h id0 [.i .i64 (n : Int)] → DV h F d cs → (∀ i, F i → i ≠ id0) →
    (∀ h', Upd (· = id0) h h' → ((fewV lvl n d).1 = true → RecAt h' id0 [.i .i64 ((fewV lvl n d).2 : Int)]) → Q (.b (fewV lvl n d).1) h') → C G_ref33_Count_few.id [.p (some ⟨id0, 1, 0⟩), .ag cs, .i .i64 (lvl : Int)] h Q := by
  intro m
  induction m with
  | zero => intro d cs F lvl n id0 h Q hd; have := szs_pos d; omega
  | succ m ih =>
    intro d cs F lvl n id0 h Q hd hlv hn R D hF hq
    cases D with
    | @mk c t mm s ks v rows Dk sv fv ov =>
    refine G_ref33_Count_few.call ?_
    simp only [G_ref33_Count_few.t, G_ref33_Count_few.j0]
    unfold Der.sz at hd
    have hln := Dk.length
    have id0l := R.lt
    refine st_box rfl fun h1 hl1 U1 B => ?_
    have R1 := R.upd U1 fun h => h
    refine st_nil (st_fld (st_load R1 rfl rfl (st_asI (st_fld (st_load B rfl rfl (st_asS (withI_is rfl (withI_is rfl (st_nil (st_fld (st_store R1 rfl (by simp) rfl rfl rfl fun h2 hl2 U2 R2 => ?_)))))))))))
    have B := B.upd U2 (by omega)
    have U : Upd (· = id0) h h2 := (U1.mono fun _ _ h => h.elim).trans U2 fun _ _ h => h
    unfold fewV at hq
    have p0bad : (30 < lvl ∨ 6000 < n + (10 + s.length) ∨ 3000 < s.length) → G_ref33_Count_few.p0 (kRet h Q) (.p (some ⟨id0, 1, 0⟩)) lvl (.p (some ⟨h.length, 5, 0⟩)) true h2 := by
      intro hb
      rw [if_pos hb] at hq
      refine G_ref33_Count_few.i0 ?_
      simp only [G_ref33_Count_few.t0]
      exact bif_t rfl (.inl (hq h2 U fun h => by cases h))
    by_cases hsl : 3000 < s.length
    · -- any way it is too long
      by_cases e1 : 30 < lvl
      · exact bif_t (by simp; omega) (p0bad (.inl e1))
      refine bif_f (by simp; omega) (st_nil (st_fld (st_load R2 rfl rfl (st_asI ?_))))
      refine bif_both (fun e2 => p0bad (.inr (.inr hsl))) fun e2 => st_fld (st_load B rfl rfl (st_asS ?_))
      rw [decide_eq_true (by omega)]
      exact p0bad (.inr (.inr hsl))
    have ew : IntKind.wrap .i64 ((n : Int) + IntKind.wrap .i64 (10 + (s.length : Int))) = ((n + (10 + s.length) : Nat) : Int) := by
      rw [wrap_i64 (n := 10 + (s.length : Int)) (by omega) (by omega), wrap_i64 (by omega) (by omega)]; omega
    have R2 : RecAt h2 id0 [.i .i64 ((n + (10 + s.length) : Nat) : Int)] := by rw [← ew]; exact R2
    by_cases e1 : 30 < lvl
    · exact bif_t (by simp; omega) (p0bad (.inl e1))
    refine bif_f (by simp; omega) (st_nil (st_fld (st_load R2 rfl rfl (st_asI ?_))))
    by_cases e2 : 6000 < n + (10 + s.length)
    · exact bif_t (by simp; omega) (p0bad (.inr (.inl e2)))
    refine bif_f (by simp; omega) (st_fld (st_load B rfl rfl (st_asS ?_)))
    rw [decide_eq_false (by omega)]
    rw [if_neg (by omega)] at hq
    generalize hn1 : n + (10 + s.length) = n1 at hq R2 e2
    have hks : ∀ k ∈ ks, k.sz ≤ m := fun k hk => by have := szs_mem hk; omega
    have go : ∀ (r : List Der) (i n2 : Nat) (h2 : AHeap), ks.drop i = r → i ≤ ks.length → n2 ≤ 6000 → 10 * i ≤ n2 → Upd (· = id0) h h2 → RecAt h2 h.length [.i .i64 c, .i .i64 t, .b mm, .s s, v] → RecAt h2 id0 [.i .i64 (n2 : Int)] →
        (∀ h', Upd (· = id0) h h' → ((fewK (lvl + 1) n2 r).1 = true → RecAt h' id0 [.i .i64 ((fewK (lvl + 1) n2 r).2 : Int)]) → Q (.b (fewK (lvl + 1) n2 r).1) h') → G_ref33_Count_few.p1 (kRet h Q) (.p (some ⟨id0, 1, 0⟩)) lvl (.p (some ⟨h.length, 5, 0⟩)) i h2 := by
      intro r
      induction r with
      | nil =>
        intro i n2 h2 hr hi hn2 h10 U B R hk
        have hle := drop_end hr
        have S2 := sv.upd U fun i hs _ => hF i (fv i hs).1
        refine G_ref33_Count_few.i1 ?_
        simp only [G_ref33_Count_few.t1]
        refine st_fld (st_load B rfl rfl (S2.len (bif_f (by simp; omega) (.inl ?_))))
        have := hk h2 U (by unfold fewK; exact fun _ => R)
        unfold fewK at this
        exact this
      | cons k r ihr =>
        intro i n2 h2 hr hi hn2 h10 U B R hk
        have hlt := drop_lt hr
        have hn' := drop_next hr
        have hki := at_of_drop hr
        have S2 := sv.upd U fun i hs _ => hF i (fv i hs).1
        have D2 := Dk.upd (F' := F) U fun i hi _ => ⟨hF i hi, hi⟩
        obtain ⟨r1, g1, e1⟩ := D2.get hki
        obtain ⟨id1, ver1, off1, cap1, b1, rfl, A1⟩ := S2.at (by omega)
        have q1 := rows_get rows i r1 D2.len5 g1
        have hk0 := List.mem_of_getElem? hki
        refine G_ref33_Count_few.i1 ?_
        simp only [G_ref33_Count_few.t1, G_ref33_Count_few.j1]
        refine st_fld (st_load B rfl rfl (S2.len (bif_t (by simp; omega) ?_)))
        refine st_fld (st_load B rfl rfl (st_idx A1 (by omega) (st_elemN A1 (by omega) q1 (inc (by omega) ?_))))
        refine ih k r1 F (lvl + 1) n2 id0 h2 _ (hks k hk0) (by omega) hn2 R e1 hF fun h3 U3 R3 => st_asB ?_
        have UU := U.trans U3 fun _ _ h => h
        have B := B.upd U3 (by omega)
        rw [fewK_step] at hk
        cases he : (fewV (lvl + 1) n2 k).1 with
        | false =>
          rw [if_neg (by rw [he]; simp)] at hk
          rw [← he]
          exact bif_t (by rw [he]; rfl) (.inl (hk h3 UU R3))
        | true =>
          rw [if_pos he] at hk
          have hb := (few_n k.sz).1 k _ _ (Nat.le_refl _) he
          have hz := (sz_dsum k.sz).1 k (Nat.le_refl _)
          have hp := szs_pos k
          refine bif_f rfl (inc (by omega) ?_)
          exact ihr (i + 1) _ h3 hn' (by omega) (by omega) (by omega) UU B (R3 he) hk
    refine G_ref33_Count_few.i0 ?_
    simp only [G_ref33_Count_few.t0, G_ref33_Count_few.j1]
    exact bif_f rfl (go ks 0 n1 h2 rfl (by omega) (by omega) (by omega) U B R2 hq)
theorem few_c {d : Der} {cs : List AV} {F : Nat → Prop} {h : AHeap} {Q : AV → AHeap → Prop} (D : DV h F d cs) (hF : ∀ i, F i → i < h.length) (hq : Q (.b d.few) h) : C G_ref33_Few.id [.ag cs] h Q := by
  refine G_ref33_Few.call ?_
  simp only [G_ref33_Few.t]
  refine D.box fun h1 hl1 U1 B D1 => st_box rfl fun h2 hl2 U2 R => ?_
  have B2 := B.upd U2 fun h => h
  refine st_loadN B2 D.len.symm (fewc_n d.sz d cs F 1 0 h1.length h2 _ (Nat.le_refl _) (by omega) (by omega) R (D1.ext U2) (fun i hi => by have := hF i hi; omega) fun h3 U3 R3 => st_asB ?_)
  have E : Ext h h3 := ((((U1.mono (M' := fun i => h.length ≤ i) fun _ _ h => h.elim).trans U2 fun _ _ h => h.elim).trans U3 fun i hi he => by omega).mono (M' := fun i => False) fun i hi he => by omega).ext
  exact kRet_pure rfl E hq

/-! ### the small examples -/

theorem lives_c {h : AHeap} {Q : AV → AHeap → Prop} (hq : ∀ h', Upd (fun _ => False) h h' → Q (.b true) h') : C G_law33_lives.id [] h Q := by
  refine G_law33_lives.call ?_
  simp only [G_law33_lives.t, G_law33_lives.j0]
  refine decode_c ?_
  have hd : decS [48, 3, 2, 1, 5] = .ok (.mk 0 16 true [] [.mk 0 2 false [5] []]) := by rfl
  rw [hd]
  intro cs h1 U1 D
  have hsz : (Der.mk 0 16 true [] [.mk 0 2 false [5] []]).sz ≤ 100000 := by decide
  cases D with
  | @mk _ _ _ _ _ v rows Dk sv fv ov =>
  have hln := Dk.length
  refine st_ext0 (st_ext1 (st_asI (st_alloc fun h2 hl2 U2 R => st_storeN R rfl rfl (by simp [AV.cellOK] at ov ⊢; exact ov) fun h3 hl3 U3 R => ?_)))
  have U13 : Upd (· = h1.length) h1 h3 := (U2.mono fun _ _ h => h.elim).trans U3 fun _ _ h => h
  have lt : ∀ i, SlAt v i → i < h1.length := fun i hi => (fv i hi).2
  have D3 : DV h3 (fun i => i < h1.length) _ _ := (DV.mk Dk sv fv ov (c := 0) (t := 16) (m := true) (s := [])).upd U13 fun i hi hl => ⟨by omega, hl⟩
  have S3 := sv.upd U13 fun i hs hl => by omega
  have U : Upd (fun _ => False) h h3 := ((U1.mono (M' := fun i => h.length ≤ i) fun _ _ h => h.elim).trans U13 fun i hi he => by have := U1.1; omega).mono fun i hi he => by omega
  refine bif_f rfl (st_fld (st_load R rfl rfl (st_asI (bif_f rfl (st_fld (st_load R rfl rfl (st_asB (bif_f rfl (st_fld (st_load R rfl rfl (S3.len ?_)))))))))))
  rw [← hln]
  refine G_law33_lives.i0 ?_
  simp only [G_law33_lives.t0, G_law33_lives.j1]
  refine bif_f rfl (st_fld (st_load R rfl rfl ?_))
  obtain ⟨id1, ver1, off1, cap1, b1, rfl, A1⟩ := S3.at (by rw [← hln]; decide)
  have Dk3 := Dk.upd (F' := fun _ => True) U13 fun i hi hl => ⟨by omega, trivial⟩
  obtain ⟨r1, g1, e1⟩ := Dk3.get (i := 0) rfl
  have q1 := rows_get rows 0 r1 Dk3.len5 g1
  refine st_idx A1 (i := 0) (by rw [← hln]; decide) (st_elemN A1 (by rw [← hln]; decide) q1 ?_)
  refine int_c e1 (by decide) ?_
  have hi : intS (.mk 0 2 false [5] []) = (5, true) := by rfl
  rw [hi]
  refine st_ext0 (st_asI (st_ext1 (st_asB (st_loadN R rfl ?_))))
  refine encode_c hsz (by decide) D3 (fun i hi => by omega) ?_
  have he : encS (.mk 0 16 true [] [.mk 0 2 false [5] []]) = .ok [48, 3, 2, 1, 5] := by rfl
  rw [he]
  refine st_ext0 (st_asS (st_ext1 (st_asI (oidOf_c fun h4 U4 => ?_))))
  have ho : oidOfS [50, 46, 53, 46, 50, 57, 46, 49, 55] = .ok [85, 29, 17] := by rfl
  rw [ho]
  refine st_ext0 (st_ext1 (st_asI (st_alloc fun h5 hl5 U5 RO => st_storeN RO rfl rfl rfl fun h6 hl6 U6 RO => ?_)))
  have D0 : Date (31536000 / 86400) 1971 1 0 := ⟨by decide, by decide, by decide, by decide, by decide, by decide, by decide⟩
  refine timeOf_c (n := 31536000) (by decide) D0 ?_
  have ht : timeOfS 1971 1 0 (31536000 % 86400) = leafC 0 23 false [55, 49, 48, 49, 48, 49, 48, 48, 48, 48, 48, 48, 90] := by rfl
  rw [ht]
  refine time_c (DV.leaf h6 (fun _ => True) 0 23 false [55, 49, 48, 49, 48, 49, 48, 48, 48, 48, 48, 48, 90]) (by decide) ?_
  have ht2 : timeS (.mk 0 23 false [55, 49, 48, 49, 48, 49, 48, 48, 48, 48, 48, 48, 90] []) = (31536000, true) := by rfl
  rw [ht2]
  refine st_ext0 (st_asI (st_ext1 (st_asB ?_)))
  refine text_c (DV.leaf h6 (fun _ => True) 0 12 false [97]) (by decide) ?_
  have hx : textS (.mk 0 12 false [97] []) = ([97], true) := by rfl
  rw [hx]
  refine st_ext0 (st_asS (st_ext1 (st_asB ?_)))
  refine bif_t rfl (bif_t rfl (bif_t rfl (bif_t rfl (st_fld (st_load RO rfl rfl (st_asS (bif_t rfl (bif_t rfl (bif_t rfl (bif_t rfl (bif_t rfl (bif_t rfl ?_))))))))))))
  refine intOf_c ?_
  have hi2 : intOfS 128 = leafC 0 2 false [0, 128] := by rfl
  rw [hi2]
  refine ⟨by decide, st_asS (bif_t rfl ?_)⟩
  refine timeOf_c (n := 31536000) (by decide) D0 ?_
  rw [ht]
  refine ⟨by decide, st_asS (withB_is (n := true) rfl ?_)⟩
  refine G_law33_lives.i1 ?_
  simp only [G_law33_lives.t1]
  have U6' : Upd (fun _ => False) h3 h6 := ((U4.trans U5 fun _ _ h => h).mono (M' := fun i => i = h4.length) fun _ _ h => h.elim).trans U6 (fun _ _ h => h) |>.mono fun i hi he => by have := U4.1; omega
  exact .inl (hq h6 (U.trans U6' fun _ _ h => h))

end
end Go.Proofs.YtffgchcidkapjaaDoor

/- Decoding inverts encoding, and encodings are canonical. -/
set_option linter.unusedVariables false
set_option linter.unusedSimpArgs false
set_option linter.unusedSectionVars false
set_option maxRecDepth 20000
namespace Go.Proofs.YtffgchcidkapjaaDoor
open Go.GAM Go.RowKit

theorem numS_1 (a : UInt8) : numS [a] = a.toNat := by simp [numS]
theorem numS_2 (a b : UInt8) : numS [a, b] = a.toNat * 256 + b.toNat := by simp [numS]
theorem numS_3 (a b c : UInt8) : numS [a, b, c] = (a.toNat * 256 + b.toNat) * 256 + c.toNat := by simp [numS]
theorem toNat_of {n : Nat} (h : n < 256) : (UInt8.ofNat n).toNat = n := by rw [UInt8.toNat_ofNat']; omega

theorem lenS_lenB {n : Nat} (h : n < 65536) (r : List UInt8) : lenS (lenB n ++ r) = .ok (n, r) := by
  unfold lenB
  split
  · rename_i h1
    rw [List.singleton_append, lenS, toNat_of (by omega), if_pos h1]
  · split
    · rename_i h1 h2
      show lenS (129 :: UInt8.ofNat n :: r) = _
      rw [lenS, if_neg (by decide), if_neg (by decide), if_neg (by show ¬ (r.length + 1) < 1; omega)]
      have e : (UInt8.ofNat n :: r).take ((129 : UInt8).toNat - 128) = [UInt8.ofNat n] := rfl
      rw [e, numS_1, toNat_of (by omega), if_neg (by
        rw [show 8 * ((129 : UInt8).toNat - 128 - 1) = 0 from rfl, Nat.pow_zero]; omega)]
      rfl
    · rename_i h1 h2
      show lenS (130 :: UInt8.ofNat (n / 256) :: UInt8.ofNat n :: r) = _
      rw [lenS, if_neg (by decide), if_neg (by decide), if_neg (by show ¬ (r.length + 1 + 1) < 2; omega)]
      have e : (UInt8.ofNat (n / 256) :: UInt8.ofNat n :: r).take ((130 : UInt8).toNat - 128) = [UInt8.ofNat (n / 256), UInt8.ofNat n] := rfl
      have e2 : (UInt8.ofNat (n / 256)).toNat * 256 + (UInt8.ofNat n).toNat = n := by
        rw [UInt8.toNat_ofNat', UInt8.toNat_ofNat']; omega
      rw [e, numS_2, e2, if_neg (by
        rw [show 8 * ((130 : UInt8).toNat - 128 - 1) = 8 from rfl]; omega)]
      rfl

theorem lenS_inv {s r : List UInt8} {n : Nat} (h : lenS s = .ok (n, r)) (hn : n < 65536) : s = lenB n ++ r := by
  cases s with
  | nil => cases h
  | cons c s =>
    have hc := c.toNat_lt
    rw [lenS] at h
    split at h
    · rename_i h1
      cases h
      unfold lenB
      rw [if_pos h1, UInt8.ofNat_toNat]; rfl
    · rename_i h1
      split at h
      · cases h
      · rename_i h2
        split at h
        · cases h
        · rename_i h3
          split at h
          · cases h
          · rename_i h4
            cases h
            have hk : c.toNat - 128 = 1 ∨ c.toNat - 128 = 2 ∨ c.toNat - 128 = 3 := by omega
            rcases hk with hk | hk | hk
            · rw [hk] at h3 h4 hn ⊢
              obtain ⟨a, s', rfl⟩ : ∃ a s', s = a :: s' := by
                cases s with
                | nil => simp at h3
                | cons a s' => exact ⟨a, s', rfl⟩
              have e : (a :: s').take 1 = [a] := rfl
              rw [e, numS_1] at h4 hn ⊢
              have ha := a.toNat_lt
              have hc2 : c = 129 := UInt8.toNat_inj.1 (by show c.toNat = 129; omega)
              unfold lenB
              rw [if_neg (by omega), if_pos (by omega), UInt8.ofNat_toNat, hc2]; rfl
            · rw [hk] at h3 h4 hn ⊢
              obtain ⟨a, b, s', rfl⟩ : ∃ a b s', s = a :: b :: s' := by
                match s, h3 with
                | [], h3 => simp at h3
                | [a], h3 => simp at h3
                | a :: b :: s', _ => exact ⟨a, b, s', rfl⟩
              have e : (a :: b :: s').take 2 = [a, b] := rfl
              rw [e, numS_2] at h4 hn ⊢
              have ha := a.toNat_lt
              have hb := b.toNat_lt
              have hc2 : c = 130 := UInt8.toNat_inj.1 (by show c.toNat = 130; omega)
              rw [show 8 * (2 - 1) = 8 from rfl] at h4
              have e1 : UInt8.ofNat ((a.toNat * 256 + b.toNat) / 256) = a := by
                rw [show (a.toNat * 256 + b.toNat) / 256 = a.toNat by omega, UInt8.ofNat_toNat]
              have e2 : UInt8.ofNat (a.toNat * 256 + b.toNat) = b := UInt8.toNat_inj.1 (by rw [UInt8.toNat_ofNat']; omega)
              unfold lenB
              rw [if_neg (by omega), if_neg (by omega), e1, e2, hc2]; rfl
            · exfalso
              rw [hk] at h3 h4 hn
              rw [show 8 * (3 - 1) = 16 from rfl] at h4
              omega

theorem hdB_nat {c t : Int} {m : Bool} (hc : 0 ≤ c ∧ c ≤ 3) (ht : 0 ≤ t ∧ t ≤ 30) : (hdB c t m).toNat = c.toNat * 64 + t.toNat + if m = true then 32 else 0 := by
  unfold hdB
  rw [toNat_of]
  split <;> omega

theorem dec_enc : ∀ m,
    (∀ (d : Der) (lvl n f : Nat) (rest : List UInt8), d.sz ≤ m → 2 * (bytesS d).length + 1 ≤ f → (bytesS d).length ≤ 65535 → (chkV lvl n d).1 = 0 → decV f lvl n (bytesS d ++ rest) = .ok (d, rest, (chkV lvl n d).2)) ∧
    (∀ (ks : List Der) (lvl n f : Nat), szs ks ≤ m → 2 * (bytesK ks).length + 2 ≤ f → (bytesK ks).length ≤ 65535 → (chkK (lvl + 1) n ks).1 = 0 → decK f lvl n (bytesK ks) = .ok (ks, (chkK (lvl + 1) n ks).2)) := by
  intro m
  induction m with
  | zero =>
    refine ⟨fun d lvl n f rest hd => absurd hd (by have := szs_pos d; omega), fun ks lvl n f hk hf _ _ => ?_⟩
    cases ks with
    | nil =>
      obtain ⟨f, rfl⟩ : ∃ g, f = g + 1 := ⟨f - 1, by omega⟩
      unfold decK chkK bytesK; rfl
    | cons k r => have := szs_pos k; unfold szs at hk; omega
  | succ m ih =>
    have hV : ∀ (d : Der) (lvl n f : Nat) (rest : List UInt8), d.sz ≤ m + 1 → 2 * (bytesS d).length + 1 ≤ f → (bytesS d).length ≤ 65535 → (chkV lvl n d).1 = 0 → decV f lvl n (bytesS d ++ rest) = .ok (d, rest, (chkV lvl n d).2) := by
      intro d lvl n f rest hd hf hl hc
      obtain ⟨c, t, mm, s, ks⟩ := d
      obtain ⟨f, rfl⟩ : ∃ g, f = g + 1 := ⟨f - 1, by omega⟩
      unfold Der.sz at hd
      unfold chkV at hc ⊢
      split at hc
      · cases hc
      rename_i c1
      split at hc
      · cases hc
      rename_i c2
      split at hc
      · cases hc
      rename_i c3
      split at hc
      · cases hc
      rename_i c4
      rw [if_neg c1, if_neg c2, if_neg c3, if_neg c4]
      have hh := hdB_nat (c := c) (t := t) (m := mm) (by omega) (by omega)
      unfold bytesS at hf hl ⊢
      generalize hct : s ++ bytesK ks = content at *
      simp only [List.cons_append, List.length_cons, List.length_append] at hf hl
      have hcl : content.length < 65536 := by omega
      rw [List.cons_append, List.cons_append, List.append_assoc]
      unfold decV
      simp only
      have e32 : (hdB c t mm).toNat % 32 = t.toNat := by rw [hh]; split <;> omega
      have e64 : (hdB c t mm).toNat / 64 = c.toNat := by rw [hh]; split <;> omega
      rw [if_neg (by rw [e32]; omega), if_neg c3, if_neg c4, lenS_lenB hcl]
      simp only
      rw [if_neg (by rw [List.length_append]; omega), List.take_left' rfl, List.drop_left' rfl, e32, e64, Int.toNat_of_nonneg (by omega), Int.toNat_of_nonneg (by omega)]
      cases mm with
      | false =>
        have hks : ks = [] := Classical.byContradiction fun h => c2 (.inr ⟨rfl, h⟩)
        subst hks
        rw [if_pos (by rw [hh]; simp; omega)]
        have : content = s := by rw [← hct]; simp [bytesK]
        rw [this]
        unfold chkK; rfl
      | true =>
        have hs : s = [] := Classical.byContradiction fun h => c2 (.inl ⟨rfl, h⟩)
        subst hs
        rw [if_neg (by rw [hh]; simp; omega)]
        have : content = bytesK ks := by rw [← hct]; rfl
        rw [this] at hf hcl ⊢
        rw [ih.2 ks lvl (n + 1) f (by omega) (by omega) (by omega) hc]
    refine ⟨hV, fun ks => ?_⟩
    induction ks with
    | nil =>
      intro lvl n f _ hf _ _
      obtain ⟨f, rfl⟩ : ∃ g, f = g + 1 := ⟨f - 1, by omega⟩
      unfold decK chkK bytesK; rfl
    | cons k r ihr =>
      intro lvl n f hk hf hl hc
      obtain ⟨f, rfl⟩ : ∃ g, f = g + 1 := ⟨f - 1, by omega⟩
      unfold szs at hk
      have hbk : bytesK (k :: r) = bytesS k ++ bytesK r := by rw [bytesK]
      rw [hbk, List.length_append] at hf hl
      rw [hbk]
      rw [chk_step] at hc ⊢
      split at hc
      · rename_i h1; exact absurd hc h1
      rename_i h1
      rw [if_neg h1]
      have h1 : (chkV (lvl + 1) n k).1 = 0 := by simpa using h1
      have hv := hV k (lvl + 1) n f (bytesK r) (by omega) (by omega) (by omega) h1
      obtain ⟨x, b, hb⟩ : ∃ x b, bytesS k = x :: b := by
        obtain ⟨c, t, mm, s, ks⟩ := k
        unfold bytesS
        exact ⟨_, _, rfl⟩
      have hlen : 0 < (bytesS k).length := by rw [hb]; simp
      rw [hb] at hv ⊢
      unfold decK
      simp only [List.cons_append] at hv ⊢
      rw [hv]
      simp only
      rw [ihr lvl _ f (by omega) (by omega) (by omega) hc]

theorem enc_dec : ∀ f,
    (∀ (lvl n : Nat) (s : List UInt8) (d : Der) (r : List UInt8) (n' : Nat), s.length ≤ 65535 → decV f lvl n s = .ok (d, r, n') → s = bytesS d ++ r ∧ chkV lvl n d = (0, n')) ∧
    (∀ (lvl n : Nat) (s : List UInt8) (ks : List Der) (n' : Nat), s.length ≤ 65535 → decK f lvl n s = .ok (ks, n') → s = bytesK ks ∧ chkK (lvl + 1) n ks = (0, n')) := by
  intro f
  induction f with
  | zero =>
    refine ⟨fun lvl n s d r n' _ h => ?_, fun lvl n s ks n' _ h => ?_⟩
    · unfold decV at h; cases h
    · unfold decK at h; cases h
  | succ f ih =>
    refine ⟨fun lvl n s d r n' hs h => ?_, fun lvl n s ks n' hs h => ?_⟩
    · unfold decV at h
      cases s with
      | nil => cases h
      | cons c s =>
        have hc := c.toNat_lt
        simp only [List.length_cons] at hs
        simp only at h
        split at h
        · cases h
        rename_i e31
        split at h
        · cases h
        rename_i e24
        split at h
        · cases h
        rename_i e256
        split at h
        · cases h
        · rename_i k t hl
          have hsh := lenS_short hl
          split at h
          · cases h
          · rename_i hk
            have hinv := lenS_inv hl (by omega)
            have htk : (t.take k).length = k := by rw [List.length_take]; omega
            have hhd : ∀ mm : Bool, (mm = true ↔ c.toNat / 32 % 2 ≠ 0) → hdB (c.toNat / 64 : Nat) (c.toNat % 32 : Nat) mm = c := by
              intro mm hm
              unfold hdB
              rw [Int.toNat_natCast, Int.toNat_natCast]
              apply UInt8.toNat_inj.1
              rw [UInt8.toNat_ofNat']
              cases mm with
              | true => have := hm.1 rfl; simp; omega
              | false =>
                have : ¬ c.toNat / 32 % 2 ≠ 0 := fun hh => by have := hm.2 hh; cases this
                simp; omega
            split at h
            · rename_i hm
              cases h
              refine ⟨?_, ?_⟩
              · unfold bytesS
                rw [hhd false (by simp [hm]), bytesK, List.append_nil, htk, List.cons_append, List.cons_append, List.append_assoc, List.take_append_drop, ← hinv]
              · unfold chkV
                rw [if_neg (by omega), if_neg (by simp), if_neg e24, if_neg e256]
                unfold chkK; rfl
            · rename_i hm
              split at h
              · cases h
              · rename_i ks n2 hd
                cases h
                obtain ⟨g1, g2⟩ := ih.2 lvl (n + 1) (t.take k) ks n' (by omega) hd
                refine ⟨?_, ?_⟩
                · unfold bytesS
                  rw [hhd true (by simp [hm]), List.nil_append, ← g1, htk, List.cons_append, List.cons_append, List.append_assoc, List.take_append_drop, ← hinv]
                · unfold chkV
                  rw [if_neg (by omega), if_neg (by simp), if_neg e24, if_neg e256, g2]
    · unfold decK at h
      cases s with
      | nil => cases h; unfold bytesK chkK; exact ⟨rfl, rfl⟩
      | cons c s =>
        simp only at h
        split at h
        · cases h
        · rename_i d t n2 hv
          have hsh := (dec_short f).1 _ _ _ _ _ _ hv
          obtain ⟨g1, g2⟩ := ih.1 (lvl + 1) n (c :: s) d t n2 hs hv
          split at h
          · cases h
          · rename_i ks2 n3 hk
            cases h
            obtain ⟨g3, g4⟩ := ih.2 lvl n2 t ks2 n' (by omega) hk
            refine ⟨?_, ?_⟩
            · rw [g1, g3, bytesK]
            · rw [chk_step, g2, if_neg (by simp), g4]

/-- What is encoded is decoded. -/
theorem dec_of_enc {d : Der} {t : List UInt8} (h : encS d = .ok t) : t = bytesS d ∧ t.length ≤ 65535 ∧ decS t = .ok d ∧ 2 ≤ t.length ∧ (∀ x, x.length + t.length ≤ 65535 → x ≠ [] → decS (t ++ x) = .error 2) := by
  unfold encS at h
  split at h
  · cases h
  rename_i h1
  split at h
  · cases h
  rename_i h2
  cases h
  have h1 : (chkV 1 0 d).1 = 0 := by simpa using h1
  have key := fun f rest hf => (dec_enc d.sz).1 d 1 0 f rest (Nat.le_refl _) hf (by omega) h1
  refine ⟨rfl, by omega, ?_, ?_, ?_⟩
  · unfold decS
    rw [if_neg h2]
    have := key (2 * (bytesS d).length + 1) [] (Nat.le_refl _)
    rw [List.append_nil] at this
    rw [this]; rfl
  · obtain ⟨c, t, mm, s, ks⟩ := d
    unfold bytesS
    have : 1 ≤ (lenB (s ++ bytesK ks).length).length := by unfold lenB; split <;> (try split) <;> simp
    simp only [List.length_cons, List.length_append] at *
    omega
  · intro x hx hne
    unfold decS
    rw [if_neg (by rw [List.length_append]; omega), key _ x (by rw [List.length_append]; omega)]
    simp only
    rw [if_neg hne]
/-- What is decoded is the encoding of its value. -/
theorem enc_of_dec {s : List UInt8} {y : Der} (h : decS s = .ok y) : encS y = .ok s := by
  unfold decS at h
  split at h
  · cases h
  rename_i hl
  split at h
  · cases h
  · rename_i d r n hv
    split at h
    · rename_i hr
      cases h
      subst hr
      obtain ⟨g1, g2⟩ := (enc_dec _).1 _ _ _ _ _ _ (by omega) hv
      rw [List.append_nil] at g1
      unfold encS
      rw [g2, if_neg (by simp), ← g1, if_neg hl]
    · cases h
/-- A byte less can't be decoded. -/
theorem dec_less {d : Der} {t : List UInt8} (h : encS d = .ok t) : ∃ e, decS t.dropLast = .error e := by
  obtain ⟨h1, h2, h3, h4, h5⟩ := dec_of_enc h
  cases hd : decS t.dropLast with
  | error e => exact ⟨e, rfl⟩
  | ok y =>
    exfalso
    obtain ⟨g1, g2, g3, g4, g5⟩ := dec_of_enc (enc_of_dec hd)
    have hne : t ≠ [] := fun h => by rw [h] at h4; simp at h4
    have := g5 [t.getLast hne] (by rw [List.length_dropLast]; simp; omega) (by simp)
    rw [List.dropLast_concat_getLast hne, h3] at this
    cases this
theorem decS_err {s : List UInt8} {e : Int} (h : decS s = .error e) : e ≠ 0 := by
  unfold decS at h
  split at h
  · cases h; decide
  split at h
  · rename_i hv; cases h; exact (dec_err _).1 _ _ _ _ (Nat.le_refl _) hv
  · split at h
    · cases h
    · cases h; decide

theorem dsum_bytes : ∀ m, (∀ d : Der, d.sz ≤ m → dsum d ≤ 5 * (bytesS d).length) ∧ ∀ ks : List Der, szs ks ≤ m → dsums ks ≤ 5 * (bytesK ks).length := by
  intro m
  induction m with
  | zero =>
    refine ⟨fun d hd => absurd hd (by have := szs_pos d; omega), fun ks hk => ?_⟩
    cases ks with
    | nil => simp [dsums]
    | cons k r => have := szs_pos k; unfold szs at hk; omega
  | succ m ih =>
    have hV : ∀ d : Der, d.sz ≤ m + 1 → dsum d ≤ 5 * (bytesS d).length := by
      intro d hd
      obtain ⟨c, t, mm, s, ks⟩ := d
      unfold Der.sz at hd
      have := ih.2 ks (by omega)
      have : 1 ≤ (lenB (s ++ bytesK ks).length).length := by unfold lenB; split <;> (try split) <;> simp
      unfold dsum bytesS
      simp only [List.length_cons, List.length_append] at *
      omega
    refine ⟨hV, fun ks => ?_⟩
    induction ks with
    | nil => intro _; simp [dsums]
    | cons k r ihr =>
      intro hk
      unfold szs at hk
      have := hV k (by omega)
      have := ihr (by omega)
      unfold dsums bytesK
      rw [List.length_append]; omega
theorem dec_dsum {s : List UInt8} {y : Der} (h : decS s = .ok y) : dsum y ≤ 5 * s.length ∧ y.sz ≤ 5 * s.length := by
  obtain ⟨g1, _⟩ := dec_of_enc (enc_of_dec h)
  have h1 := (dsum_bytes y.sz).1 y (Nat.le_refl _)
  have h2 := (sz_dsum y.sz).1 y (Nat.le_refl _)
  rw [← g1] at h1
  omega

end Go.Proofs.YtffgchcidkapjaaDoor

/- Object identifiers, the reference's. -/
set_option linter.unusedVariables false
set_option linter.unusedSimpArgs false
set_option linter.unusedSectionVars false
set_option maxRecDepth 20000
namespace Go.Proofs.YtffgchcidkapjaaDoor
open Go.GAM Go.RowKit

/-- The numbers that bytes to the base 128 hold. -/
def oidD : List UInt8 → Nat → Bool → Option (List Nat)
  | [], _, begun => if begun = true then none else some []
  | c :: r, n, begun => if begun = false ∧ c.toNat = 128 then none else if 268435456 ≤ n * 128 + c.toNat % 128 then none else
      if 128 ≤ c.toNat then oidD r (n * 128 + c.toNat % 128) true else match oidD r 0 false with
        | none => none
        | some l => some ((n * 128 + c.toNat % 128) :: l)
def oidTxt : List Nat → List UInt8
  | [] => []
  | a :: r => Lib.decDigits (min (a / 40) 2) ++ [46] ++ Lib.decDigits (a - 40 * min (a / 40) 2) ++ r.flatMap fun n => 46 :: Lib.decDigits n
def oidS (d : Der) : List UInt8 × Bool := if dPlain 6 d = true ∧ d.data ≠ [] then (match oidD d.data 0 false with
  | none => ([], false)
  | some l => (oidTxt l, true)) else ([], false)

theorem oidD_bd : ∀ (r : List UInt8) (n : Nat) (b : Bool) (l : List Nat), oidD r n b = some l → ∀ m ∈ l, m < 268435456
  | [], n, b, l, h, m, hm => by
    unfold oidD at h
    split at h
    · cases h
    · cases h; cases hm
  | c :: r, n, b, l, h, m, hm => by
    unfold oidD at h
    split at h
    · cases h
    split at h
    · cases h
    rename_i h28
    split at h
    · exact oidD_bd r _ _ l h m hm
    · split at h
      · cases h
      · rename_i l' hl
        cases h
        rcases List.mem_cons.1 hm with rfl | hm
        · omega
        · exact oidD_bd r _ _ l' hl m hm
theorem decDigits_ne (n : Nat) : Lib.decDigits n ≠ [] := by
  rw [Lib.decDigits]
  split <;> simp
theorem oidTxt_ne {l : List Nat} (h : l ≠ []) : oidTxt l ≠ [] := by
  cases l with
  | nil => exact absurd rfl h
  | cons a r => unfold oidTxt; simp
theorem oidTxt_app {l : List Nat} (h : l ≠ []) (n : Nat) : oidTxt (l ++ [n]) = oidTxt l ++ (46 :: Lib.decDigits n) := by
  cases l with
  | nil => exact absurd rfl h
  | cons a r => simp [oidTxt]
theorem decDigits_len {n : Nat} (h : n < 1000000000) : (Lib.decDigits n).length ≤ 10 := by
  have key : ∀ k n, n < 10 ^ k → 1 ≤ k → (Lib.decDigits n).length ≤ k := by
    intro k
    induction k with
    | zero => intro n _ h; omega
    | succ k ih =>
      intro n hn _
      rw [Lib.decDigits]
      split
      · simp
      · rename_i h10
        have hk : 1 ≤ k := by
          rcases Nat.eq_zero_or_pos k with h | h
          · subst h; simp at hn; omega
          · exact h
        have := ih (n / 10) (by rw [Nat.pow_succ] at hn; omega) hk
        simp only [List.length_append, List.length_singleton]; omega
  exact key 10 n (by omega) (by omega)

section
variable {h0 : AHeap} {Q : AV → AHeap → Prop}

theorem number6_c {n : Nat} {h : AHeap} (hn : n < 1000000000) (hq : Q (.s (Lib.decDigits n)) h) : C G_ref06_Number.id [.i .i64 (n : Int)] h Q := by
  refine G_ref06_Number.call ?_
  simp only [G_ref06_Number.t, G_ref06_Number.j0]
  have go : ∀ m n acc hx, n ≤ m → n < 1000000000 → acc.length + (Lib.decDigits n).length ≤ 1000 → Upd (fun _ => False) h hx → Q (.s (Lib.decDigits n ++ acc)) h → G_ref06_Number.p0 (kRet h Q) n acc hx := by
    intro m
    induction m with
    | zero =>
      intro n acc hx hm hn hl U hq
      have : n = 0 := by omega
      subst this
      refine G_ref06_Number.i0 ?_
      simp only [G_ref06_Number.t0]
      refine bif_f rfl (withI_is (n := ((48 : Nat) : Int)) (by rw [wrap_i64 (by omega) (by omega)]; rfl) ?_)
      rw [wrap_u8_nat, byte_mod]
      rw [Lib.decDigits_one (by omega)] at hq
      exact Tx.one U fun v h1 T _ => T.str ⟨by simp; omega, kRet_pure rfl T.upd.ext hq⟩
    | succ m ih =>
      intro n acc hx hm hn hl U hq
      refine G_ref06_Number.i0 ?_
      simp only [G_ref06_Number.t0, G_ref06_Number.j0]
      by_cases h9 : 9 < n
      · rw [Lib.decDigits, dif_neg (by omega)] at hq hl
        rw [List.length_append, List.length_singleton] at hl
        refine bif_t (by simp; omega) (rem_n (b := 10) (by omega) ?_)
        refine withI_is (n := ((48 + n % 10 : Nat) : Int)) (by rw [wrap_i64 (by omega) (by omega)]; omega) ?_
        rw [wrap_u8_nat, byte_mod]
        refine Tx.one U fun v h1 T _ => T.str ⟨by simp; omega, quo_n (b := 10) (by omega) (by omega) ?_⟩
        exact ih (n / 10) _ h1 (by omega) (by omega) (by simp; omega) T.upd (by simpa using hq)
      · rw [Lib.decDigits_one (by omega)] at hq
        refine bif_f (by simp; omega) (withI_is (n := ((48 + n : Nat) : Int)) (by rw [wrap_i64 (by omega) (by omega)]; omega) ?_)
        rw [wrap_u8_nat, byte_mod]
        exact Tx.one U fun v h1 T _ => T.str ⟨by simp; omega, kRet_pure rfl T.upd.ext hq⟩
  have hl := decDigits_len hn
  exact go n n [] h (Nat.le_refl _) hn (by simp; omega) (Upd.refl _ _) (by simpa using hq)

theorem mmI_min (a b : Nat) : mmI false (a : Int) (b : Int) = ((min a b : Nat) : Int) := by
  unfold mmI
  simp only [cond_false]
  split <;> omega

theorem oidTxt_bd {l : List Nat} (h : ∀ m ∈ l, m < 268435456) : (oidTxt l).length ≤ 22 + 11 * l.length := by
  cases l with
  | nil => simp [oidTxt]
  | cons a r =>
    have ha := h a (by simp)
    have h1 := decDigits_len (n := min (a / 40) 2) (by omega)
    have h2 := decDigits_len (n := a - 40 * min (a / 40) 2) (by omega)
    have h3 : (r.flatMap fun n => 46 :: Lib.decDigits n).length ≤ 11 * r.length := by
      have hr : ∀ m ∈ r, m < 268435456 := fun m hm => h m (by simp [hm])
      clear h h1 h2 ha
      induction r with
      | nil => simp
      | cons b r ih =>
        have := decDigits_len (n := b) (by have := hr b (by simp); omega)
        have := ih fun m hm => hr m (by simp [hm])
        rw [List.flatMap_cons, List.length_append, List.length_cons, List.length_cons]; omega
    unfold oidTxt
    simp only [List.length_append, List.length_cons, List.length_nil] at *
    omega

def oidT (x : List UInt8 × Bool) : AV := .tu [.s x.1, .b x.2]
def oidX : Option (List Nat) → List Nat → List UInt8 × Bool
  | none, _ => ([], false)
  | some l, done => (oidTxt (done ++ l), true)

theorem Roid_loop {s : List UInt8} {h hx : AHeap} (E : Ext h hx) (hs : s.length ≤ 100000) (hlast : ∀ c, s[s.length - 1]? = some c → c.toNat < 128) : ∀ (r : List UInt8) (i n : Nat) (begun : Bool) (done : List Nat), s.drop i = r → i ≤ s.length → n < 268435456 → (begun = true → 0 < i ∧ ∃ c, s[i - 1]? = some c ∧ 128 ≤ c.toNat) → done.length ≤ i → (∀ m ∈ done, m < 268435456) →
    Q (oidT (oidX (oidD r n begun) done)) h → G_ref33_Oid.p1 (kRet h Q) s (oidTxt done) n begun i hx := by
  intro r
  induction r with
  | nil =>
    intro i n begun done hr hi hn hb hd hbd hq
    have hle := drop_end hr
    have hbf : begun = false := by
      cases hbg : begun with
      | false => rfl
      | true =>
        obtain ⟨h1, c, h2, h3⟩ := hb hbg
        have : i = s.length := by omega
        rw [this] at h2
        have := hlast c h2
        omega
    subst hbf
    refine G_ref33_Oid.i1 ?_
    simp only [G_ref33_Oid.t1]
    have : oidX (oidD [] n false) done = (oidTxt done, true) := by simp [oidD, oidX]
    rw [this] at hq
    exact bif_f (by simp; omega) (kRet_pure rfl E hq)
  | cons c r ih =>
    intro i n begun done hr hi hn hb hd hbd hq
    have hlt := drop_lt hr
    have hnx := drop_next hr
    have hci := at_of_drop hr
    have hc := c.toNat_lt
    have htb := oidTxt_bd hbd
    have hm := Nat.mod_lt c.toNat (show 0 < 128 by omega)
    have p4 : ∀ (o : List Nat) (n' : Nat) (b' : Bool), n' < 268435456 → (b' = true → 128 ≤ c.toNat) → o.length ≤ i + 1 → (∀ m ∈ o, m < 268435456) → Q (oidT (oidX (oidD r n' b') o)) h → G_ref33_Oid.p4 (kRet h Q) s (oidTxt o) n' b' i hx := by
      intro o n' b' hn' hb' ho hob hq
      refine G_ref33_Oid.i4 ?_
      simp only [G_ref33_Oid.t4, G_ref33_Oid.j1]
      exact inc (by omega) (ih (i + 1) n' b' o hnx (by omega) hn' (fun hh => ⟨by omega, c, by rw [Nat.add_sub_cancel]; exact hci, hb' hh⟩) ho hob hq)
    have p2 : ∀ b, b = decide (begun = false ∧ c.toNat = 128) → G_ref33_Oid.p2 (kRet h Q) s (oidTxt done) n i b hx := by
      intro b hbb
      unfold oidD at hq
      refine G_ref33_Oid.i2 ?_
      simp only [G_ref33_Oid.t2, G_ref33_Oid.j3, G_ref33_Oid.j4]
      refine bif_both (fun e => ?_) fun e => ?_
      · subst e
        rw [if_pos (of_decide_eq_true hbb.symm)] at hq
        exact kRet_pure rfl E hq
      · subst e
        rw [if_neg (of_decide_eq_false hbb.symm)] at hq
        refine withI_is (n := ((n * 128 : Nat) : Int)) (by rw [wrap_i64 (by omega) (by omega)]; omega) (st_at hr ?_)
        rw [wrap_i64 (by omega) (by omega)]
        refine rem_n (b := 128) (by omega) (withI_is (n := ((n * 128 + c.toNat % 128 : Nat) : Int)) (by rw [wrap_i64 (by omega) (by omega)]; omega) ?_)
        by_cases h28 : 268435456 ≤ n * 128 + c.toNat % 128
        · rw [if_pos h28] at hq
          exact bif_t (by simp; omega) (kRet_pure rfl E hq)
        rw [if_neg h28] at hq
        refine bif_f (by simp; omega) (st_at hr ?_)
        by_cases h128 : 128 ≤ c.toNat
        · rw [if_pos h128] at hq
          exact bif_t (by simp; omega) (p4 done _ true (by omega) (fun _ => h128) (by omega) hbd hq)
        rw [if_neg h128] at hq
        have p3 : Q (oidT (oidX (oidD r 0 false) (done ++ [n * 128 + c.toNat % 128]))) h → G_ref33_Oid.p3 (kRet h Q) s (oidTxt (done ++ [n * 128 + c.toNat % 128])) i hx := by
          intro hq
          refine G_ref33_Oid.i3 ?_
          simp only [G_ref33_Oid.t3, G_ref33_Oid.j4]
          refine p4 _ 0 false (by omega) (fun hh => by cases hh) (by simp; omega) ?_ hq
          intro m hm
          rcases List.mem_append.1 hm with h | h
          · exact hbd m h
          · simp at h; omega
        generalize n * 128 + c.toNat % 128 = z at *
        have hq : Q (oidT (oidX (oidD r 0 false) (done ++ [z]))) h := by
          have : oidX (match oidD r 0 false with | none => none | some l => some (z :: l)) done = oidX (oidD r 0 false) (done ++ [z]) := by
            cases oidD r 0 false <;> simp [oidX]
          rw [← this]; exact hq
        refine bif_f (by simp; omega) ?_
        cases hdn : done with
        | nil =>
          rw [hdn] at p3 hq
          have d1 := decDigits_len (n := min (z / 40) 2) (by omega)
          have d2 := decDigits_len (n := z - 40 * min (z / 40) 2) (by omega)
          refine bif_t rfl (quo_n (b := 40) (by omega) (by omega) ?_)
          rw [show mmI false ((z / 40 : Nat) : Int) 2 = ((min (z / 40) 2 : Nat) : Int) from mmI_min _ 2]
          refine number6_c (by omega) (st_asS ⟨by simp; omega, ?_⟩)
          refine withI_is (n := ((40 * min (z / 40) 2 : Nat) : Int)) (by rw [wrap_i64 (by omega) (by omega)]; omega) ?_
          refine withI_is (n := ((z - 40 * min (z / 40) 2 : Nat) : Int)) (by rw [wrap_i64 (by omega) (by omega)]; omega) ?_
          refine number6_c (by omega) (st_asS ⟨by simp; omega, ?_⟩)
          have := p3 hq
          rw [List.nil_append] at this
          simpa [oidTxt] using this
        | cons a dn =>
          rw [← hdn]
          have hne : done ≠ [] := by rw [hdn]; simp
          have d1 := decDigits_len (n := z) (by omega)
          refine bif_f (by simp [oidTxt_ne hne]) (number6_c (by omega) (st_asS ⟨by simp; omega, ⟨by simp; omega, ?_⟩⟩))
          have := p3 hq
          rw [oidTxt_app hne] at this
          exact this
    refine G_ref33_Oid.i1 ?_
    simp only [G_ref33_Oid.t1, G_ref33_Oid.j2]
    refine bif_t (by simp; omega) ?_
    cases begun with
    | false =>
      refine bif_t rfl (st_at hr (p2 _ ?_))
      rw [decide_eq_decide]; simp; omega
    | true => exact bif_f rfl (p2 _ (by simp))

theorem oidD_last : ∀ (s : List UInt8) (n : Nat) (b : Bool) (c : UInt8), s[s.length - 1]? = some c → s ≠ [] → 128 ≤ c.toNat → oidD s n b = none
  | [], n, b, c, h, hne, _ => absurd rfl hne
  | [a], n, b, c, h, hne, hc => by
    simp at h; subst h
    unfold oidD
    split
    · rfl
    split
    · rfl
    simp [oidD]
  | a :: a2 :: r, n, b, c, h, hne, hc => by
    have hr : (a2 :: r)[(a2 :: r).length - 1]? = some c := by
      simpa using h
    unfold oidD
    split
    · rfl
    split
    · rfl
    split
    · exact oidD_last (a2 :: r) _ _ c hr (by simp) hc
    · rw [oidD_last (a2 :: r) _ _ c hr (by simp) hc]

theorem Roid_c {d : Der} {cs : List AV} {F : Nat → Prop} {h : AHeap} (D : DV h F d cs) (hs : d.data.length ≤ 100000) (hq : Q (oidT (oidS d)) h) : C G_ref33_Oid.id [.ag cs] h Q := by
  refine G_ref33_Oid.call ?_
  simp only [G_ref33_Oid.t, G_ref33_Oid.j0]
  refine D.box fun h1 hl1 U1 B D1 => st_fld (st_load B D.len.symm D.dat (st_asS (st_loadN B D.len.symm (Rplain_c D1 (st_asB ?_)))))
  unfold oidS at hq
  generalize d.data = s at *
  have bad : oidS d = oidS d → (¬ (dPlain 6 d = true ∧ s ≠ []) ∨ oidD s 0 false = none) → G_ref33_Oid.p0 (kRet h Q) s true h1 := by
    intro _ hb
    refine G_ref33_Oid.i0 ?_
    simp only [G_ref33_Oid.t0]
    refine bif_t rfl (kRet_pure rfl U1.ext ?_)
    rcases hb with hb | hb
    · rw [if_neg hb] at hq; exact hq
    · rw [hb] at hq
      simp only at hq
      have : (if dPlain 6 d = true ∧ s ≠ [] then (([] : List UInt8), false) else ([], false)) = ([], false) := by split <;> rfl
      rw [this] at hq; exact hq
  refine bif_both (fun e => bad rfl (.inl fun hh => by rw [hh.1] at e; cases e)) fun e => ?_
  have hp : dPlain 6 d = true := by simpa using e
  by_cases hne : s = []
  · exact bif_t (by simp [hne]) (bad rfl (.inl fun hh => hh.2 hne))
  have hlp := List.length_pos_iff.2 hne
  obtain ⟨c, hc⟩ : ∃ c, s[s.length - 1]? = some c := ⟨_, List.getElem?_eq_getElem (by omega)⟩
  refine bif_f (by simp [hne]) (withI_is (n := ((s.length - 1 : Nat) : Int)) (by rw [wrap_i64 (by omega) (by omega)]; omega) (idxStr hc ?_))
  by_cases h128 : 128 ≤ c.toNat
  · rw [decide_eq_true (by omega)]
    exact bad rfl (.inr (oidD_last s 0 false c hc hne h128))
  · rw [decide_eq_false (by omega)]
    rw [if_pos ⟨hp, hne⟩] at hq
    refine G_ref33_Oid.i0 ?_
    simp only [G_ref33_Oid.t0, G_ref33_Oid.j1]
    refine bif_f rfl ?_
    refine Roid_loop (h := h) U1.ext hs (fun c' hc' => by rw [hc] at hc'; cases hc'; omega) s 0 0 false [] rfl (by omega) (by omega) (fun hh => by cases hh) (by simp) (by simp) ?_
    have : oidX (oidD s 0 false) [] = (match oidD s 0 false with | none => ([], false) | some l => (oidTxt l, true)) := by
      cases oidD s 0 false <;> rfl
    rw [this]; exact hq

/-! ### Split, Decimal, arc -/

theorem seg_p2 {s : List UInt8} {sp : UInt8} {v : AV} {f i : Nat} {h : AHeap} (hi : i ≤ 1000000) (hk : G_ref06_Split.p0 (kRet h0 Q) s (sp.toNat : Int) v f (i + 1 : Nat) h) : G_ref06_Split.p2 (kRet h0 Q) s (sp.toNat : Int) v f i h := by
  refine G_ref06_Split.i2 ?_
  simp only [G_ref06_Split.t2, G_ref06_Split.j0]
  exact inc (by omega) hk
theorem seg_push {s : List UInt8} {sp : UInt8} {v : AV} {f i : Nat} {done : List (List UInt8)} {h : AHeap} (hi : i ≤ s.length) (hs : s.length ≤ 100000) (hf : f ≤ i) (hd : done.length ≤ i) (S : NewS h0 h v (done.map .s))
    (hk : ∀ v' h', NewS h0 h' v' ((done ++ [(s.take i).drop f]).map .s) → G_ref06_Split.p0 (kRet h0 Q) s (sp.toNat : Int) v' (i + 1 : Nat) (i + 1 : Nat) h') : G_ref06_Split.p1 (kRet h0 Q) s (sp.toNat : Int) v f i true h := by
  refine G_ref06_Split.i1 ?_
  simp only [G_ref06_Split.t1, G_ref06_Split.j2]
  refine bif_t rfl (st_subs2 hf hi ?_)
  refine S.push rfl rfl (by simp; omega) (by simp; omega) fun v' h' S' _ _ => inc (by omega) (seg_p2 (by omega) (hk v' h' ?_))
  rw [List.map_append]; exact S'
theorem seg_p0 {s : List UInt8} {sp : UInt8} (hs : s.length ≤ 100000) : ∀ (r : List UInt8) (i f : Nat) (v : AV) (done : List (List UInt8)) (h : AHeap), s.drop i = r → i ≤ s.length → f ≤ i → done.length ≤ i → NewS h0 h v (done.map .s) →
    (∀ v h', NewS h0 h' v ((done ++ prep ((s.take i).drop f) (splitS sp r)).map .s) → Q v h') → G_ref06_Split.p0 (kRet h0 Q) s (sp.toNat : Int) v f i h := by
  intro r
  induction r with
  | nil =>
    intro i f v done h hr hi hf hd S hq
    have hl := drop_end hr
    have hi' : i = s.length := by omega
    refine G_ref06_Split.i0 ?_
    simp only [G_ref06_Split.t0, G_ref06_Split.j1]
    refine bif_t (by simp; omega) (bif_t (by simp; omega) ?_)
    refine seg_push hi hs hf hd S fun v' h' S' => ?_
    refine G_ref06_Split.i0 ?_
    simp only [G_ref06_Split.t0, G_ref06_Split.j1]
    refine bif_f (by simp; omega) (.inl (hq v' h' ?_))
    simpa [splitS, prep] using S'
  | cons c r ih =>
    intro i f v done h hr hi hf hd S hq
    have hlt := drop_lt hr
    have hn := drop_next hr
    have hci := at_of_drop hr
    refine G_ref06_Split.i0 ?_
    simp only [G_ref06_Split.t0, G_ref06_Split.j1]
    refine bif_t (by simp; omega) (bif_f (by simp; omega) (st_at hr ?_))
    rw [eq_byte]
    by_cases hc : c = sp
    · rw [decide_eq_true hc]
      refine seg_push hi hs hf hd S fun v' h' S' => ih (i + 1) (i + 1) v' _ h' hn (by omega) (by omega) (by simp; omega) S' ?_
      rw [splitS, if_pos hc] at hq
      rw [show (s.take (i + 1)).drop (i + 1) = [] from List.drop_eq_nil_of_le (by simp; omega), prep_nil (splitS_ne sp r)]
      simpa [prep] using hq
    · rw [decide_eq_false hc]
      refine G_ref06_Split.i1 ?_
      simp only [G_ref06_Split.t1, G_ref06_Split.j2]
      refine bif_f rfl (seg_p2 (by omega) (ih (i + 1) f v done h hn (by omega) (by omega) (by omega) S ?_))
      rw [splitS, if_neg hc, prep_prep] at hq
      rw [List.take_add_one, hci, List.drop_append_of_le_length (by simp; omega)]
      exact hq
theorem Rsplit_c {s : List UInt8} {sp : UInt8} {h : AHeap} (hs : s.length ≤ 100000) (hq : ∀ v h', NewS h h' v ((splitS sp s).map .s) → Q v h') : C G_ref06_Split.id [.s s, .i .u8 (sp.toNat : Int)] h Q := by
  refine G_ref06_Split.call ?_
  simp only [G_ref06_Split.t, G_ref06_Split.j0]
  refine seg_p0 hs s 0 0 _ [] h rfl (by omega) (by omega) (by simp) (NewS.start h) fun v h' S' => hq v h' ?_
  simpa [prep_nil (splitS_ne sp s)] using S'

def sat (most : Nat) (l : List UInt8) : Nat := l.foldl (fun n c => min (10 * n + (c.toNat - 48)) (most + 1)) 0
theorem sat_snoc (most : Nat) (l : List UInt8) (c : UInt8) : sat most (l ++ [c]) = min (10 * sat most l + (c.toNat - 48)) (most + 1) := by simp [sat]
theorem sat_eq (most : Nat) : ∀ n (l : List UInt8), l.length = n → sat most l = min (nat10 l) (most + 1) := by
  intro n
  induction n with
  | zero => intro l hl; rw [List.eq_nil_of_length_eq_zero hl]; simp [sat, nat10]
  | succ n ih =>
    intro l hl
    have hne : l ≠ [] := fun h => by rw [h] at hl; simp at hl
    have e := List.dropLast_concat_getLast hne
    have h1 := ih l.dropLast (by rw [List.length_dropLast]; omega)
    rw [← e, sat_snoc, nat10_snoc, h1]
    omega
def decI (s : List UInt8) (most : Nat) : Int := if s = [] ∨ lead0 s ∨ s.all digB = false then -1 else if most < nat10 s then -2 else (nat10 s : Nat)

theorem decimal_c {s : List UInt8} {most : Nat} {h : AHeap} (hs : s.length ≤ 100000) (hm : most < 1000000000) (hq : Q (.i .i64 (decI s most)) h) : C G_ref06_Decimal.id [.s s, .i .i64 (most : Int)] h Q := by
  refine G_ref06_Decimal.call ?_
  simp only [G_ref06_Decimal.t, G_ref06_Decimal.j0]
  unfold decI at hq
  have p0bad : (s = [] ∨ lead0 s ∨ s.all digB = false) → G_ref06_Decimal.p0 (kRet h Q) s most true h := by
    intro hb
    rw [if_pos hb] at hq
    refine G_ref06_Decimal.i0 ?_
    simp only [G_ref06_Decimal.t0]
    exact bif_t rfl (.inl hq)
  have p0ok : s ≠ [] → ¬ lead0 s → G_ref06_Decimal.p0 (kRet h Q) s most false h := by
    intro hne hl0
    have go : ∀ (r : List UInt8) (i : Nat), s.drop i = r → i ≤ s.length → (s.take i).all digB = true → G_ref06_Decimal.p1 (kRet h Q) s most (sat most (s.take i) : Nat) i h := by
      intro r
      induction r with
      | nil =>
        intro i hr hi ha
        have hle := drop_end hr
        rw [List.take_of_length_le hle] at ha ⊢
        have he := sat_eq most s.length s rfl
        rw [if_neg (fun hh => by rcases hh with h | h | h; exact hne h; exact hl0 h; rw [ha] at h; cases h)] at hq
        refine G_ref06_Decimal.i1 ?_
        simp only [G_ref06_Decimal.t1]
        refine bif_f (by simp; omega) ?_
        by_cases hlt : most < nat10 s
        · rw [if_pos hlt] at hq
          exact bif_t (by simp; omega) (.inl hq)
        · rw [if_neg hlt] at hq
          refine bif_f (by simp; omega) (.inl ?_)
          rw [he, Nat.min_eq_left (by omega)]; exact hq
      | cons c r ih =>
        intro i hr hi ha
        have hlt := drop_lt hr
        have hn := drop_next hr
        have hci := at_of_drop hr
        have hsb : sat most (s.take i) ≤ most + 1 := by
          have := sat_eq most _ (s.take i) rfl
          omega
        have p2 : ∀ b, b = !digB c → G_ref06_Decimal.p2 (kRet h Q) s most (sat most (s.take i) : Nat) i b h := by
          intro b hb2
          refine G_ref06_Decimal.i2 ?_
          simp only [G_ref06_Decimal.t2, G_ref06_Decimal.j1]
          cases hd : digB c with
          | false =>
            rw [hd] at hb2
            have : s.all digB = false := by
              rw [← List.take_append_drop i s, List.all_append, hr, List.all_cons, hd]; simp
            rw [if_pos (.inr (.inr this))] at hq
            exact bif_t hb2 (.inl hq)
          | true =>
            rw [hd] at hb2
            have hdb := digB_bd hd
            refine bif_f hb2 ?_
            refine withI_is (n := ((10 * sat most (s.take i) : Nat) : Int)) (by rw [wrap_i64 (by omega) (by omega)]; omega) (st_at hr ?_)
            refine withI_is (n := ((10 * sat most (s.take i) + c.toNat : Nat) : Int)) (by rw [wrap_i64 (n := (c.toNat : Int)) (by omega) (by omega), wrap_i64 (by omega) (by omega)]; omega) ?_
            refine withI_is (n := ((10 * sat most (s.take i) + (c.toNat - 48) : Nat) : Int)) (by rw [wrap_i64 (by omega) (by omega)]; omega) ?_
            refine withI_is (n := ((most + 1 : Nat) : Int)) (by rw [wrap_i64 (by omega) (by omega)]; omega) (inc (by omega) ?_)
            rw [mmI_min, ← sat_snoc, ← take_snoc hci]
            exact ih (i + 1) hn (by omega) (by rw [take_snoc hci, List.all_append, ha]; simp [hd])
        unfold digB at p2
        refine G_ref06_Decimal.i1 ?_
        simp only [G_ref06_Decimal.t1, G_ref06_Decimal.j2]
        refine bif_t (by simp; omega) (st_at hr ?_)
        refine bif_both (fun e => p2 _ ?_) fun e => st_at hr (p2 _ ?_)
        · simp only [decide_eq_true_eq] at e
          rw [decide_eq_false (by omega : ¬ 48 ≤ c.toNat)]; rfl
        · simp only [decide_eq_false_iff_not] at e
          rw [decide_eq_true (by omega : 48 ≤ c.toNat), Bool.true_and, ← decide_not, decide_eq_decide]; omega
    refine G_ref06_Decimal.i0 ?_
    simp only [G_ref06_Decimal.t0, G_ref06_Decimal.j1]
    exact bif_f rfl (go s 0 rfl (by omega) rfl)
  by_cases hne : s = []
  · exact bif_t (by simp [hne]) (p0bad (.inl hne))
  have hlp := List.length_pos_iff.2 hne
  refine bif_f (by simp; omega) ?_
  by_cases h1 : 1 < s.length
  · obtain ⟨c, hc⟩ : ∃ c, s[0]? = some c := ⟨_, List.getElem?_eq_getElem (by omega)⟩
    have hg : s.getD 0 0 = c := getD_some hc
    refine bif_t (by simp; omega) (idxStr (i := 0) hc ?_)
    rw [show (48 : Int) = (((48 : UInt8).toNat : Nat) : Int) from rfl, eq_byte]
    by_cases h48 : c = 48
    · rw [decide_eq_true h48]
      exact p0bad (.inr (.inl ⟨by rw [hg, h48], h1⟩))
    · rw [decide_eq_false h48]
      exact p0ok hne (fun hh => h48 (by rw [← hg]; exact hh.1))
  · exact bif_f (by simp; omega) (p0ok hne (fun hh => h1 hh.2))

def arcR : Nat → Nat → List UInt8 → List UInt8
  | 0, _, acc => acc
  | k + 1, n, acc => if n = 0 then acc else arcR k (n / 128) (UInt8.ofNat (128 + n % 128) :: acc)
theorem arcS_is {n : Nat} (h : n < 268435456) : arcR 4 (n / 128) [UInt8.ofNat (n % 128)] = arcS n := by
  unfold arcS arcN
  split
  · rename_i h1
    rw [show n / 128 = 0 by omega]; rfl
  split
  · rename_i h1 h2
    rw [arcR, if_neg (by omega), show n / 128 / 128 = 0 by omega]
    simp only [arcR, arcK, Nat.zero_add, Nat.mul_one, if_true]
    rw [show n / 2 ^ 7 % 128 + 128 = 128 + n / 128 % 128 by omega]
  split
  · rename_i h1 h2 h3
    rw [arcR, if_neg (by omega), arcR, if_neg (by omega), show n / 128 / 128 / 128 = 0 by omega]
    simp only [arcR, arcK, Nat.zero_add, Nat.mul_one, if_true]
    rw [show n / 2 ^ (7 * (1 + 1)) % 128 + 128 = 128 + n / 128 / 128 % 128 by omega, show n / 2 ^ 7 % 128 + 128 = 128 + n / 128 % 128 by omega]
  · rename_i h1 h2 h3
    rw [arcR, if_neg (by omega), arcR, if_neg (by omega), arcR, if_neg (by omega), show n / 128 / 128 / 128 / 128 = 0 by omega]
    simp only [arcR, arcK, Nat.zero_add, Nat.mul_one, if_true]
    rw [show n / 2 ^ (7 * (2 + 1)) % 128 + 128 = 128 + n / 128 / 128 / 128 % 128 by omega, show n / 2 ^ (7 * (1 + 1)) % 128 + 128 = 128 + n / 128 / 128 % 128 by omega, show n / 2 ^ 7 % 128 + 128 = 128 + n / 128 % 128 by omega]

theorem arc_c {n : Nat} {h : AHeap} (hn : n < 268435456) (hq : Q (.s (arcS n)) h) : C G_ref33_arc.id [.i .i64 (n : Int)] h Q := by
  refine G_ref33_arc.call ?_
  simp only [G_ref33_arc.t, G_ref33_arc.j0]
  have go : ∀ k n v acc hx, n < 128 ^ k → n < 268435456 → acc.length + k ≤ 10 → Tx h hx v acc → Q (.s (arcR k n acc)) h → G_ref33_arc.p0 (kRet h Q) n v hx := by
    intro k
    induction k with
    | zero =>
      intro n v acc hx hn _ hl T hq
      have : n = 0 := by simpa using hn
      subst this
      refine G_ref33_arc.i0 ?_
      simp only [G_ref33_arc.t0]
      exact bif_f rfl (T.ret hq)
    | succ k ih =>
      intro n v acc hx hn hn2 hl T hq
      refine G_ref33_arc.i0 ?_
      simp only [G_ref33_arc.t0, G_ref33_arc.j0]
      unfold arcR at hq
      by_cases h0 : n = 0
      · subst h0
        exact bif_f rfl (T.ret hq)
      · rw [if_neg h0] at hq
        have hm := Nat.mod_lt n (show 0 < 128 by omega)
        refine bif_t (by simp; omega) (rem_n (b := 128) (by omega) (withI_is (n := ((128 + n % 128 : Nat) : Int)) (by rw [wrap_i64 (by omega) (by omega)]; omega) ?_))
        rw [wrap_u8_nat, byte_mod]
        refine Tx.one T.upd fun v2 h2 T2 U2 => T2.app (T.ext U2).byt (by simp; omega) fun v3 h3 T3 _ => quo_n (b := 128) (by omega) (by omega) ?_
        exact ih (n / 128) v3 _ h3 (by rw [Nat.pow_succ] at hn; omega) (by omega) (by simp; omega) (by simpa using T3) hq
  have hm := Nat.mod_lt n (show 0 < 128 by omega)
  refine rem_n (b := 128) (by omega) ?_
  rw [wrap_u8_nat, Nat.mod_eq_of_lt (show n % 128 < 256 by omega)]
  have e : ((n % 128 : Nat) : Int) = ((UInt8.ofNat (n % 128)).toNat : Int) := by rw [UInt8.toNat_ofNat']; omega
  rw [e]
  refine Tx.one (Upd.refl _ _) fun v h1 T _ => quo_n (b := 128) (by omega) (by omega) ?_
  exact go 4 (n / 128) v _ h1 (by omega) (by omega) (by simp) T (by rw [arcS_is hn]; exact hq)

end
end Go.Proofs.YtffgchcidkapjaaDoor

/- OidOf, the reference's. -/
set_option linter.unusedVariables false
set_option linter.unusedSimpArgs false
set_option linter.unusedSectionVars false
set_option maxRecDepth 20000
namespace Go.Proofs.YtffgchcidkapjaaDoor
open Go.GAM Go.RowKit

theorem nat10_cons (c : UInt8) (l : List UInt8) : nat10 (c :: l) = (c.toNat - 48) * 10 ^ l.length + nat10 l := by
  have : ∀ (l : List UInt8) (n : Nat), l.foldl (fun n c => n * 10 + (c.toNat - 48)) n = n * 10 ^ l.length + nat10 l := by
    intro l
    induction l with
    | nil => intro n; simp [nat10]
    | cons a l ih =>
      intro n
      have h1 := ih (n * 10 + (a.toNat - 48))
      have h2 := ih (0 * 10 + (a.toNat - 48))
      have e : nat10 (a :: l) = (a :: l).foldl (fun n c => n * 10 + (c.toNat - 48)) 0 := rfl
      rw [e, List.foldl_cons, List.foldl_cons, h1, h2, List.length_cons, Nat.pow_succ]
      rw [Nat.add_mul, Nat.mul_assoc, Nat.zero_mul, Nat.zero_add, Nat.mul_comm 10, Nat.add_assoc]
  have h := this l (0 * 10 + (c.toNat - 48))
  have e : nat10 (c :: l) = (c :: l).foldl (fun n c => n * 10 + (c.toNat - 48)) 0 := rfl
  rw [e, List.foldl_cons, h, Nat.zero_mul, Nat.zero_add]
theorem nat10_lb {s : List UInt8} (hne : s ≠ []) (h0 : ¬ lead0 s) (hd : s.all digB = true) (h1 : 1 < s.length) : 10 ^ (s.length - 1) ≤ nat10 s := by
  cases s with
  | nil => exact absurd rfl hne
  | cons c l =>
    simp only [List.all_cons, Bool.and_eq_true] at hd
    have hc := digB_bd hd.1
    have : c ≠ 48 := fun e => h0 ⟨e, h1⟩
    have : c.toNat ≠ 48 := fun e => this (UInt8.toNat_inj.1 e)
    rw [nat10_cons, List.length_cons, Nat.add_sub_cancel]
    have : 1 * 10 ^ l.length ≤ (c.toNat - 48) * 10 ^ l.length := Nat.mul_le_mul_right _ (by omega)
    omega
theorem decI_none {s : List UInt8} {most : Nat} (hm : most < 268435456) (h : decN s = none) : decI s most < 0 := by
  unfold decI
  split
  · decide
  · rename_i hb
    split
    · decide
    · rename_i hlt
      exfalso
      have hne : s ≠ [] := fun e => hb (.inl e)
      have hl0 : ¬ lead0 s := fun e => hb (.inr (.inl e))
      have hd : s.all digB = true := by
        cases hd : s.all digB with
        | true => rfl
        | false => exact absurd (.inr (.inr hd)) hb
      unfold decN at h
      split at h
      · cases h
      · rename_i hc
        apply hc
        refine ⟨hne, ?_, hl0, hd, by omega⟩
        rcases Nat.lt_or_ge 9 s.length with h9 | h9
        · exfalso
          have h1 := nat10_lb hne hl0 hd (by omega)
          have h2 : 10 ^ 9 ≤ 10 ^ (s.length - 1) := Nat.pow_le_pow_right (by omega) (by omega)
          omega
        · exact h9
theorem decI_some {s : List UInt8} {most n : Nat} (h : decN s = some n) : decI s most = if most < n then -2 else (n : Int) := by
  unfold decN at h
  split at h
  · rename_i hc
    cases h
    unfold decI
    rw [if_neg]
    rintro (h | h | h)
    · exact hc.1 h
    · exact hc.2.2.1 h
    · rw [hc.2.2.2.1] at h; cases h
  · cases h

section
variable {h0 : AHeap} {Q : AV → AHeap → Prop}

def oidW : Option (List Nat) → Except Int (List UInt8)
  | none => .error 2
  | some l => oidL l
def oidA (o : List UInt8) : Option (List Nat) → Except Int (List UInt8)
  | none => .error 2
  | some l => .ok (o ++ l.flatMap arcS)
theorem oidOfS_W (s : List UInt8) : oidOfS s = if 256 < s.length then .error 3 else oidW (decAll (splitS 46 s)) := by
  unfold oidOfS
  split
  · rfl
  · cases decAll (splitS 46 s) <;> rfl

theorem RoidOf_c {s : List UInt8} {h : AHeap} (hq : ∀ h', Upd (fun _ => False) h h' → Q (oidR (oidOfS s)) h') : C G_ref33_OidOf.id [.s s] h Q := by
  refine G_ref33_OidOf.call ?_
  simp only [G_ref33_OidOf.t, G_ref33_OidOf.j0]
  refine st_alloc fun h1 hl1 U1 R => ?_
  rw [oidOfS_W] at hq
  by_cases hl : 256 < s.length
  · rw [if_pos hl] at hq
    exact bif_t (by simp; omega) (ret_tu (h1 := h1) rfl R (Nat.le_refl _) U1 hq)
  rw [if_neg hl] at hq
  refine bif_f (by simp; omega) (Rsplit_c (sp := 46) (by omega) fun w h2 S => ?_)
  have hsl := split_len (sp := 46) s
  have hcb : Lib.countByte s 46 ≤ s.length := List.count_le_length
  have hwl : ∀ x ∈ splitS 46 s, x.length ≤ s.length := by
    have : ∀ (s : List UInt8) (x : List UInt8), x ∈ splitS 46 s → x.length ≤ s.length := by
      intro s
      induction s with
      | nil => intro x hx; simp [splitS] at hx; subst hx; simp
      | cons c r ih =>
        intro x hx
        unfold splitS at hx
        split at hx
        · rcases List.mem_cons.1 hx with rfl | h
          · simp
          · have := ih x h; simp; omega
        · cases hsr : splitS 46 r with
          | nil => exact absurd hsr (splitS_ne 46 r)
          | cons a l =>
            rw [hsr] at hx ih
            simp only [prep, List.mem_cons] at hx
            rcases hx with rfl | hx
            · have := ih a (by simp); simp; omega
            · have := ih x (by simp [hx]); simp; omega
    exact this s
  have W := S.stk.rd
  rw [List.length_map] at W
  have R2 := R.upd S.upd fun h => h
  have U2 := U1.trans S.upd fun _ _ h => h
  generalize splitS 46 s = ws at *
  have bad : oidW (decAll ws) = .error 2 → pStore 5 (.p (some ⟨h.length, 5, 0⟩)) (.ag [.i .i64 0, .i .i64 0, .b false, .s [], .sl none 0 none]) h2 fun h5 => pLoadN 5 (.p (some ⟨h.length, 5, 0⟩)) h5 fun v7 => kRet h Q (.tu [v7, .i .i64 2]) h5 := by
    intro hd
    rw [hd] at hq
    exact ret_tu (h1 := h1) rfl R2 (Nat.le_refl _) U2 hq
  refine W.len ?_
  by_cases hl2 : ws.length < 2
  · refine bif_t (by simp; omega) (bad ?_)
    cases hd : decAll ws with
    | none => rfl
    | some l => exact oidL_short (by rw [(decAll_bd hd).2]; exact hl2)
  refine bif_f (by simp; omega) ?_
  obtain ⟨w0, w1, wr, hws⟩ : ∃ a b r, ws = a :: b :: r := by
    match ws, hl2 with
    | [], h => simp at h
    | [a], h => simp at h
    | a :: b :: r, _ => exact ⟨a, b, r, rfl⟩
  have hw0 : ws[0]? = some w0 := by rw [hws]; rfl
  have hw1 : ws[1]? = some w1 := by rw [hws]; rfl
  have hl0 := hwl w0 (by rw [hws]; simp)
  have hl1' := hwl w1 (by rw [hws]; simp)
  refine W.str (i := 0) hw0 (decimal_c (most := 2) (by omega) (by omega) (st_asI ?_))
  -- the further numbers
  have go : ∀ (r : List (List UInt8)) (i : Nat) (o : List UInt8) (first : Int), ws.drop i = r → 2 ≤ i → i ≤ ws.length → o.length ≤ 4 * i → 0 ≤ first → (oidW (decAll ws) = oidA o (decAll r)) → G_ref33_OidOf.p0 (kRet h Q) (.p (some ⟨h.length, 5, 0⟩)) w o first i h2 := by
    intro r
    induction r with
    | nil =>
      intro i o first hr hi hi2 hol hf he
      have hle := drop_end hr
      rw [he] at hq
      simp only [decAll, oidA, List.flatMap_nil, List.append_nil] at hq
      refine G_ref33_OidOf.i0 ?_
      simp only [G_ref33_OidOf.t0]
      exact W.len (bif_f (by simp; omega) (ret_tu (h1 := h1) rfl R2 (Nat.le_refl _) U2 hq))
    | cons x r ih =>
      intro i o first hr hi hi2 hol hf he
      have hlt := drop_lt hr
      have hn := drop_next hr
      have hxi := at_of_drop hr
      have hxl := hwl x (List.mem_of_getElem? hxi)
      rw [decAll_cons] at he
      refine G_ref33_OidOf.i0 ?_
      simp only [G_ref33_OidOf.t0, G_ref33_OidOf.j1]
      refine W.len (bif_t (by simp; omega) (bif_f (by simp; omega) ?_))
      refine G_ref33_OidOf.i1 ?_
      simp only [G_ref33_OidOf.t1, G_ref33_OidOf.j2]
      refine bif_f rfl ?_
      refine G_ref33_OidOf.i2 ?_
      simp only [G_ref33_OidOf.t2, G_ref33_OidOf.j3]
      refine W.str hxi (decimal_c (most := 268435455) (by omega) (by omega) (st_asI (bif_f (by simp; omega) ?_)))
      cases hx : decN x with
      | none =>
        rw [hx] at he
        have := decI_none (most := 268435455) (by omega) hx
        rw [decide_eq_true this]
        refine G_ref33_OidOf.i3 ?_
        simp only [G_ref33_OidOf.t3]
        exact bif_t rfl (bad he)
      | some n =>
        rw [hx] at he
        have hnb := decN_bd hx
        have hdI := decI_some (most := 268435455) hx
        rw [if_neg (by omega)] at hdI
        rw [hdI, decide_eq_false (by omega)]
        refine G_ref33_OidOf.i3 ?_
        simp only [G_ref33_OidOf.t3, G_ref33_OidOf.j4]
        refine bif_f rfl (bif_f (by simp; omega) ?_)
        refine G_ref33_OidOf.i4 ?_
        simp only [G_ref33_OidOf.t4, G_ref33_OidOf.j0]
        have hal : (arcS n).length ≤ 4 := by
          have : ∀ k n, (arcK k n).length = k + 1 := by
            intro k
            induction k with
            | zero => intro n; rfl
            | succ k ih => intro n; simp [arcK, ih]
          unfold arcS
          rw [this]
          unfold arcN
          repeat' split
          all_goals omega
        refine bif_f (by simp; omega) (arc_c hnb (st_asS ⟨by omega, inc (by omega) ?_⟩))
        refine ih (i + 1) _ first hn (by omega) (by omega) (by simp; omega) hf ?_
        rw [he]
        simp only
        cases decAll r with
        | none => rfl
        | some l => simp [oidA]
  -- the first two
  have first2 : ∀ f : Int, (f < 0 → oidW (decAll ws) = .error 2) → (0 ≤ f → ∃ a : Nat, f = a ∧ decN w0 = some a ∧ a ≤ 2) → G_ref33_OidOf.p0 (kRet h Q) (.p (some ⟨h.length, 5, 0⟩)) w [] f (1 : Nat) h2 := by
    intro f hf1 hf2
    refine G_ref33_OidOf.i0 ?_
    simp only [G_ref33_OidOf.t0, G_ref33_OidOf.j1]
    refine W.len (bif_t (by simp; omega) (bif_t rfl ?_))
    have p2 : ∀ most : Nat, (most = if f < 2 then 39 else 268435455) → G_ref33_OidOf.p2 (kRet h Q) (.p (some ⟨h.length, 5, 0⟩)) w [] f (1 : Nat) most h2 := by
      intro most hmost
      have hm28 : most < 268435456 := by rw [hmost]; split <;> omega
      refine G_ref33_OidOf.i2 ?_
      simp only [G_ref33_OidOf.t2, G_ref33_OidOf.j3]
      refine W.str (i := 1) hw1 (decimal_c (most := most) (by omega) (by omega) (st_asI ?_))
      have p3bad : ∀ n : Int, oidW (decAll ws) = .error 2 → G_ref33_OidOf.p3 (kRet h Q) (.p (some ⟨h.length, 5, 0⟩)) w [] f (1 : Nat) n true h2 := by
        intro n hb
        refine G_ref33_OidOf.i3 ?_
        simp only [G_ref33_OidOf.t3]
        exact bif_t rfl (bad hb)
      refine bif_both (fun e => p3bad _ (hf1 (by simpa using e))) fun e => ?_
      have hf0 : 0 ≤ f := by simp only [decide_eq_false_iff_not] at e; omega
      obtain ⟨a, rfl, ha, ha2⟩ := hf2 hf0
      have hda : decAll ws = match decN w1 with | none => none | some n => match decAll wr with | none => none | some l => some (a :: n :: l) := by
        rw [hws, decAll_cons, ha]
        simp only
        rw [decAll_cons]
        cases decN w1 with
        | none => rfl
        | some n => cases decAll wr <;> rfl
      cases hx : decN w1 with
      | none =>
        rw [hx] at hda
        have := decI_none hm28 hx
        rw [decide_eq_true this]
        exact p3bad _ (by rw [show decAll ws = none from hda]; rfl)
      | some n =>
        rw [hx] at hda
        have hnb := decN_bd hx
        have hdI := decI_some (most := most) hx
        by_cases hmn : most < n
        · rw [if_pos hmn] at hdI
          rw [hdI]
          refine p3bad _ ?_
          rw [hda]
          simp only
          cases decAll wr with
          | none => rfl
          | some l =>
            unfold oidW oidL
            simp only
            rw [if_pos]
            right; left
            rw [hmost] at hmn
            split at hmn <;> omega
        · rw [if_neg hmn] at hdI
          rw [hdI, decide_eq_false (by omega)]
          refine G_ref33_OidOf.i3 ?_
          simp only [G_ref33_OidOf.t3, G_ref33_OidOf.j4]
          refine bif_f rfl (bif_t rfl ?_)
          refine withI_is (n := ((40 * a : Nat) : Int)) (by rw [wrap_i64 (by omega) (by omega)]; omega) ?_
          refine withI_is (n := ((40 * a + n : Nat) : Int)) (by rw [wrap_i64 (by omega) (by omega)]; omega) ?_
          refine G_ref33_OidOf.i4 ?_
          simp only [G_ref33_OidOf.t4, G_ref33_OidOf.j0]
          have hn40 : a < 2 → n < 40 := by
            intro ha2
            rw [hmost, if_pos (by omega)] at hmn
            omega
          by_cases h28 : 268435456 ≤ 40 * a + n
          · refine bif_t (by simp; omega) (bad ?_)
            rw [hda]
            simp only
            cases decAll wr with
            | none => rfl
            | some l =>
              unfold oidW oidL
              simp only
              rw [if_pos (.inr (.inr h28))]
          · refine bif_f (by simp; omega) (arc_c (by omega) (st_asS ⟨?_, inc (by omega) ?_⟩))
            · have : (arcS (40 * a + n)).length ≤ 4 := by
                have : ∀ k n, (arcK k n).length = k + 1 := by
                  intro k
                  induction k with
                  | zero => intro n; rfl
                  | succ k ih => intro n; simp [arcK, ih]
                unfold arcS
                rw [this]
                unfold arcN
                repeat' split
                all_goals omega
              simp; omega
            · refine go wr 2 _ (a : Int) (by rw [hws]; rfl) (by omega) (by omega) ?_ (by omega) ?_
              · have : (arcS (40 * a + n)).length ≤ 4 := by
                  have : ∀ k n, (arcK k n).length = k + 1 := by
                    intro k
                    induction k with
                    | zero => intro n; rfl
                    | succ k ih => intro n; simp [arcK, ih]
                  unfold arcS
                  rw [this]
                  unfold arcN
                  repeat' split
                  all_goals omega
                simp; omega
              · rw [hda]
                simp only
                cases decAll wr with
                | none => rfl
                | some l =>
                  unfold oidW oidL
                  simp only
                  rw [if_neg (by omega), List.flatMap_cons]; rfl
    refine G_ref33_OidOf.i1 ?_
    simp only [G_ref33_OidOf.t1, G_ref33_OidOf.j2]
    refine bif_both (fun e => p2 39 ?_) fun e => p2 268435455 ?_
    · rw [if_pos (by simpa using e)]
    · rw [if_neg (by simpa using e)]
  refine first2 _ ?_ ?_
  · intro hneg
    cases hx : decN w0 with
    | none => rw [hws, decAll_cons, hx]; rfl
    | some a =>
      have hdI := decI_some (most := 2) hx
      rw [hdI] at hneg
      have ha : 2 < a := by
        rcases Nat.lt_or_ge 2 a with h | h
        · exact h
        · rw [if_neg (by omega)] at hneg; omega
      cases hd : decAll ws with
      | none => rfl
      | some l =>
        rw [hws, decAll_cons, hx] at hd
        simp only at hd
        cases hd2 : decAll (w1 :: wr) with
        | none => rw [hd2] at hd; cases hd
        | some l' =>
          rw [hd2] at hd
          cases hd
          cases l' with
          | nil => rfl
          | cons b l' => unfold oidW oidL; simp only; rw [if_pos (.inl ha)]
  · intro hpos
    cases hx : decN w0 with
    | none => have := decI_none (most := 2) (by omega) hx; omega
    | some a =>
      have hdI := decI_some (most := 2) hx
      rcases Nat.lt_or_ge 2 a with h | h
      · rw [if_pos h] at hdI; omega
      · rw [if_neg (by omega)] at hdI
        exact ⟨a, hdI, rfl, h⟩

end
end Go.Proofs.YtffgchcidkapjaaDoor

