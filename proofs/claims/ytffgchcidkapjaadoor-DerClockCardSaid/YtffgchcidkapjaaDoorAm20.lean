/- Arguments that are slices: what their reading says. -/
import Derived.Test.YtffgchcidkapjaaDoorAm19
import Derived.ChangeArms
import Derived.ChangeSlices
import Derived.DataElems
set_option linter.unusedVariables false
set_option linter.unusedSimpArgs false
namespace Go.GAM
open Go.RowKit Go.ChangeShapes

section
variable {H : Type} {enc : TypeId × Value → H} {P : Program} {w : World} {szOf : Nat → Nat}

theorem rows_cells {a : Addr} {sz : Nat} : ∀ (rows : List (List Value)) (k : Nat), (∀ i r, rows[i]? = some r → r.length = sz ∧ ∀ j, j < sz → w.cell? (a.add ((k + i) * sz + j)) = some (r.getD j undef)) →
    ∀ i, i < rows.flatten.length → w.cell? (a.add (k * sz + i)) = some (rows.flatten.getD i undef)
  | [], k, h, i, hi => by simp at hi
  | r :: rows, k, h, i, hi => by
    obtain ⟨h1, h2⟩ := h 0 r rfl
    rw [List.flatten_cons]
    by_cases hlt : i < sz
    · have := h2 i hlt
      rw [Nat.add_zero] at this
      rw [this, List.getD_eq_getElem?_getD, List.getD_eq_getElem?_getD, List.getElem?_append_left (by omega)]
    · have := rows_cells (a := a) (sz := sz) rows (k + 1) (fun j r hj => by
        have := h (j + 1) r (by simpa using hj)
        rw [show k + 1 + j = k + (j + 1) by omega]; exact this) (i - sz) (by simp at hi ⊢; omega)
      rw [show (k + 1) * sz + (i - sz) = k * sz + i by rw [Nat.add_mul]; omega] at this
      rw [this, List.getD_eq_getElem?_getD, List.getD_eq_getElem?_getD, List.getElem?_append_right (by omega), h1]

/-- A slice that is read, spare places and all: its rows. -/
theorem row_open {t e : TypeId} {fuel : Nat} {cs : List Value} {x : DataW H × List MemPlace} (ht : P.underlying t = some (.slice e)) (h : DataW.trod enc P w 0 (fun _ => true) true fuel t cs = some x) :
    cs = [.slice none 0 0] ∨ ∃ (a : Addr) (len cap : Nat) (rows : List (List Value)), cs = [.slice (some a) len cap] ∧ len ≤ cap ∧ rows.length = cap ∧
      (∀ r ∈ rows, r.length = P.cellsOf e ∧ ∃ n y, DataW.trod enc P w 0 (fun _ => true) true n e r = some y) ∧ ∀ i, i < rows.flatten.length → w.cell? (a.add i) = some (rows.flatten.getD i undef) := by
  rcases DataW.trod_slice ht h with ⟨h0, _⟩ | ⟨a, len, cap, elems, rest, n, _, rfl, _, hb, hl, hm, hlen, hel, hsp, hns⟩
  · exact .inl h0
  right
  have each : ∀ i, i < cap → ∃ r, w.cells? 0 (a.add (i * P.cellsOf e)) (P.cellsOf e) = some r ∧ ∃ y, DataW.trod enc P w 0 (fun _ => true) true n e r = some y := by
    intro i hi
    have hb' : ∃ y, (w.cells? 0 (a.add (i * P.cellsOf e)) (P.cellsOf e)).bind (DataW.trod enc P w 0 (fun _ => true) true n e) = some y := by
      by_cases h1 : i < len
      · rw [hel i h1]
        exact ⟨_, List.getElem?_eq_getElem (by omega)⟩
      · obtain ⟨h2, h3⟩ := hsp rfl
        have := h3 (i - len) (by omega)
        rw [show len + (i - len) = i by omega] at this
        rw [this]
        exact ⟨_, List.getElem?_eq_getElem (by omega)⟩
    obtain ⟨y, hy⟩ := hb'
    obtain ⟨r, h1, h2⟩ := Option.bind_eq_some_iff.1 hy
    exact ⟨r, h1, y, h2⟩
  refine ⟨a, len, cap, (List.range cap).map fun i => (w.cells? 0 (a.add (i * P.cellsOf e)) (P.cellsOf e)).getD [], rfl, hl, by simp, ?_, ?_⟩
  · intro r hr
    obtain ⟨i, hi, rfl⟩ := List.mem_map.1 hr
    obtain ⟨r, h1, y, h2⟩ := each i (by simpa using hi)
    rw [h1]
    exact ⟨(World.cells?_some h1).2.1, n, y, h2⟩
  · have := rows_cells (w := w) (a := a) (sz := P.cellsOf e) ((List.range cap).map fun i => (w.cells? 0 (a.add (i * P.cellsOf e)) (P.cellsOf e)).getD []) 0 (fun i r hi => by
      simp only [List.getElem?_map, Option.map_eq_some_iff] at hi
      obtain ⟨i', hi', rfl⟩ := hi
      obtain ⟨hlt, rfl⟩ := List.getElem?_eq_some_iff.1 hi'
      rw [List.getElem_range]
      obtain ⟨r, h1, _⟩ := each i (by simpa using hlt)
      rw [h1]
      have hs := World.cells?_some h1
      refine ⟨hs.2.1, fun j hj => ?_⟩
      have := hs.2.2 j hj
      rw [Addr.add_add] at this
      rw [Nat.zero_add, this]
      simp [hs.2.1, hj])
    simpa using this

/-- What a law is told of a slice that came in. -/
def SArg (sz : Nat) (h : AHeap) (v : AV) (cs : List AV) (len : Nat) : Prop := Rd sz h v cs len ∨ (len = 0 ∧ cs = [] ∧ ∃ a c, v = .sl (some a) 0 c)

theorem SArg.len {sz : Nat} {h : AHeap} {v : AV} {cs : List AV} {len : Nat} (R : SArg sz h v cs len) {K : Int → Prop} (hk : K len) : pLenSl v K := by
  rcases R with R | ⟨rfl, _, a, c, rfl⟩
  · exact R.len hk
  · exact hk

theorem rows_list {α : Type} (f : α → List AV) (g : Value → AV) : ∀ rows : List (List Value), (∀ r ∈ rows, ∃ x : α, r.map g = f x) → ∃ l : List α, l.length = rows.length ∧ rows.flatten.map g = l.flatMap f
  | [], _ => ⟨[], rfl, rfl⟩
  | r :: rows, h => by
    obtain ⟨x, hx⟩ := h r (by simp)
    obtain ⟨l, h1, h2⟩ := rows_list f g rows fun r hr => h r (by simp [hr])
    exact ⟨x :: l, by simp [h1], by simp [hx, h2]⟩

theorem rows_len {sz : Nat} : ∀ rows : List (List Value), (∀ r ∈ rows, r.length = sz) → rows.flatten.length = rows.length * sz
  | [], _ => by simp
  | r :: rows, h => by
    rw [List.flatten_cons, List.length_append, rows_len rows fun r hr => h r (by simp [hr]), h r (by simp), List.length_cons, Nat.add_mul]; omega

theorem rows_take {sz : Nat} : ∀ (rows : List (List Value)) (n : Nat), (∀ r ∈ rows, r.length = sz) → rows.flatten.take (n * sz) = (rows.take n).flatten
  | [], n, _ => by simp
  | r :: rows, 0, _ => by simp
  | r :: rows, n + 1, h => by
    have h1 := h r (by simp)
    rw [List.take_succ_cons, List.flatten_cons, List.flatten_cons, ← rows_take rows n fun r hr => h r (by simp [hr]), List.take_append, h1]
    rw [List.take_of_length_le (by rw [h1, Nat.add_mul]; omega), show (n + 1) * sz - sz = n * sz by rw [Nat.add_mul]; omega]

theorem row_arg {α : Type} (f : α → List AV) {t e : TypeId} {b : Option Addr} {len cap : Nat} {d : DataW H} {p : List MemPlace} {sz : Nat} (ht : P.underlying t = some (.slice e)) (hc : P.cellsOf e = sz) (hz : 0 < sz) (hs : ∀ B, szOf B = sz)
    (hrow : ∀ r n y, DataW.trod enc P w 0 (fun _ => true) true n e r = some y → ∃ x : α, r.map (absV w szOf) = f x) (h : DataW.Trod enc P w 0 (fun _ => true) true t (.slice b len cap) d p) :
    ∃ (av : AV) (l : List α), VRel (muC w szOf) av (.slice b len cap) ∧ SArg sz (heapC w szOf) av (l.flatMap f) l.length := by
  obtain ⟨fuel, h⟩ := h
  rcases row_open ht h with h0 | ⟨a, len', cap', rows, h0, hl, hrl, hr, hcell⟩
  · simp [Value.cells] at h0
    obtain ⟨rfl, rfl, rfl⟩ := h0
    exact ⟨_, [], .sn, .inl (.inl ⟨rfl, rfl, rfl⟩)⟩
  · simp [Value.cells] at h0
    obtain ⟨rfl, rfl, rfl⟩ := h0
    have hlen := rows_len rows fun r hr' => (hr r hr').1.trans hc
    by_cases hc0 : cap = 0
    · subst hc0
      have hl0 : len = 0 := by omega
      subst hl0
      exact ⟨_, [], absV_rel _, .inr ⟨rfl, rfl, ⟨w.heap.size, 0, 0⟩, some 0, by simp [absV, absV1]⟩⟩
    · obtain ⟨ver, b, h1, h2, h3⟩ := canon_slice (szOf := szOf) hl hc0 hz (hs a.block) (by rw [hlen, hrl]) hcell
      rw [rows_take rows len fun r hr' => (hr r hr').1.trans hc] at h2
      obtain ⟨l, h4, h5⟩ := rows_list f (absV w szOf) (rows.take len) fun r hr' => by
        obtain ⟨_, n, y, hy⟩ := hr r (List.mem_of_mem_take hr')
        exact hrow r n y hy
      have h6 : l.length = len := by rw [h4, List.length_take, hrl]; omega
      refine ⟨_, l, absV_rel _, .inl ?_⟩
      rw [h1, ← h5, h6]
      exact h2.rd _

theorem row_int {e : TypeId} {k : IntKind} (he : P.underlying e = some (.int k)) (r : List Value) (n : Nat) (y : DataW H × List MemPlace) (h : DataW.trod enc P w 0 (fun _ => true) true n e r = some y) :
    ∃ x : { n : Int // (Lit.int k n).wf = true }, r.map (absV w szOf) = [.i k x.1] := by
  obtain ⟨m, rfl, _, hw⟩ := DataW.trod_int he h
  exact ⟨⟨m, hw⟩, rfl⟩
theorem row_string {e : TypeId} (he : P.underlying e = some .string) (r : List Value) (n : Nat) (y : DataW H × List MemPlace) (h : DataW.trod enc P w 0 (fun _ => true) true n e r = some y) :
    ∃ x : { l : List UInt8 // l.length ≤ maxLen }, r.map (absV w szOf) = [.s x.1] := by
  obtain ⟨s, rfl, _, hw⟩ := DataW.trod_string he h
  exact ⟨⟨s.data.toList, by simpa using hw⟩, rfl⟩

end
end Go.GAM
