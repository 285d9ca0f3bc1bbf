/- How the relation goes on: a block made, cells written, a block grown. -/
import Derived.Test.YtffgchcidkapjaaDoorAm5
import Derived.Laws.IdiomCopy
set_option linter.unusedVariables false
set_option linter.unusedSimpArgs false
namespace Go.GAM

section
variable {P : Program} {w0 : World} {Fz : Nat → Prop} {μ : Mu} {own : Nat → Option Nat} {h : AHeap} {w : World}

theorem BlkOK.keep {μ' : Mu} {own' : Nat → Option Nat} {w' : World} {id : Nat} {b : ABlk} {l : Loc} (hb : BlkOK w Fz μ own id b l)
    (hown : ∀ B, own B = some id → own' B = some id ∧ w'.heap[B]? = w.heap[B]?) (hsub : Sub μ μ') (hid : ∀ ver, μ' id ver = μ id ver) : BlkOK w' Fz μ' own' id b l := by
  obtain ⟨c1, c2⟩ := hown _ hb.owned
  refine { cur := by rw [hid]; exact hb.cur, owned := c1, sz := hb.sz, len := hb.len, ex := hb.ex, ro := hb.ro, gl := hb.gl, row := by rw [c2]; exact hb.row, free := fun hr j hj => ?_, vers := fun ver h1 h2 l' hl' => ?_ }
  · have := hb.free hr j hj
    simp only [World.frozen?] at this ⊢
    rw [c2]; exact this
  · rw [hid] at hl'
    have hv := hb.vers ver h1 h2 l' hl'
    obtain ⟨d1, d2⟩ := hown _ hv.own
    refine { own := d1, sz := hv.sz, le := hv.le, base := hv.base, cells := fun j hj => ?_ }
    obtain ⟨cv, e1, e2⟩ := hv.cells j hj
    refine ⟨cv, ?_, e2.mono hsub⟩
    simp only [World.cell?] at e1 ⊢
    rw [d2]; exact e1

/-- One step of the relation. -/
theorem Rel.step (R : Rel w0 Fz μ own h w) {μ' : Mu} {own' : Nat → Option Nat} {h' : AHeap} {w' : World}
    (hos : w'.os = w.os) (htape : w'.tape = w.tape) (hout : w'.output = w.output) (hsz : w.heap.size ≤ w'.heap.size)
    (hfz : ∀ B, Fz B → w'.heap[B]? = w.heap[B]?)
    (hownlt : ∀ B id, own' B = some id → B < w'.heap.size) (hsub : Sub μ μ')
    (hmulen : ∀ id ver l, μ' id ver = some l → ∃ b, h'[id]? = some b ∧ (b.floor ≤ b.cells.length → ver ≤ b.cells.length))
    (hblk : ∀ id b, h'[id]? = some b → b.floor ≤ b.cells.length →
      (h[id]? = some b ∧ (∀ ver, μ' id ver = μ id ver) ∧ (∀ B, own B = some id → own' B = some id ∧ w'.heap[B]? = w.heap[B]?)) ∨ ∃ l, BlkOK w' Fz μ' own' id b l) :
    Rel w0 Fz μ' own' h' w' where
  os := hos.trans R.os
  tape := htape.trans R.tape
  output := hout.trans R.output
  size0 := Nat.le_trans R.size0 hsz
  fz := fun B hB => ⟨(R.fz B hB).1, (hfz B hB).trans (R.fz B hB).2⟩
  ownlt := hownlt
  mulen := hmulen
  blk := fun id b hb hl => by
    rcases hblk id b hb hl with ⟨h1, h2, h3⟩ | h1
    · obtain ⟨l, hk⟩ := R.blk id b h1 hl
      exact ⟨l, hk.keep h3 hsub h2⟩
    · exact h1

theorem Rel.drew (R : Rel w0 Fz μ own h w) : Rel w0 Fz μ own h w.drew := by
  refine R.step rfl rfl rfl (Nat.le_refl _) (fun _ _ => rfl) R.ownlt (Sub.refl _) R.mulen fun id b hb hl => .inl ⟨hb, fun _ => rfl, fun B hB => ⟨hB, rfl⟩⟩

theorem heap_alloc_old (w : World) (o : Obj) {B : Nat} (hB : B < w.heap.size) : (w.alloc o).heap[B]? = w.heap[B]? := by
  show (w.heap.push o)[B]? = _
  simp [Array.getElem?_push, Nat.ne_of_lt hB]
theorem heap_alloc_new (w : World) (o : Obj) : (w.alloc o).heap[w.heap.size]? = some o := by
  show (w.heap.push o)[w.heap.size]? = _
  simp

def muAdd (μ : Mu) (id ver : Nat) (l : Loc) : Mu := fun i v => if i = id ∧ v = ver then some l else μ i v
def ownAdd (own : Nat → Option Nat) (B id : Nat) : Nat → Option Nat := fun b => if b = B then some id else own b

theorem sub_muAdd {id ver : Nat} {l : Loc} (hn : μ id ver = none) : Sub μ (muAdd μ id ver l) := by
  intro i v l' hl
  unfold muAdd
  by_cases hc : i = id ∧ v = ver
  · obtain ⟨rfl, rfl⟩ := hc; rw [hn] at hl; cases hl
  · rw [if_neg hc]; exact hl

theorem cell_of_row {c : Array Value} {el : TypeId} {fr : Nat × Nat} {B j : Nat} {w : World} (h : w.heap[B]? = some (.cells c el fr)) : w.cell? ⟨B, j, none⟩ = c[j]? := by simp [World.cell?, h]

/-- A new block. -/
theorem Rel.alloc (R : Rel w0 Fz μ own h w) {cells : List AV} {sz cap : Nat} {ex : Bool} {c : Array Value} {el : TypeId} {fr : Nat × Nat}
    (hc : VRels μ cells (c.toList.take cells.length)) (hcap : cells.length ≤ cap) (hcc : cap ≤ c.size) (hex : ex = true → cap = cells.length) (hfr : ∀ j, j < cap → (decide (fr.1 ≤ j) && decide (j < fr.2)) = false) :
    Rel w0 Fz (muAdd μ h.length cells.length ⟨w.heap.size, 0, cap, sz⟩) (ownAdd own w.heap.size h.length) (h ++ [newBlk cells sz ex]) (w.alloc (.cells c el fr)) ∧
    Sub μ (muAdd μ h.length cells.length ⟨w.heap.size, 0, cap, sz⟩) ∧ muAdd μ h.length cells.length ⟨w.heap.size, 0, cap, sz⟩ h.length cells.length = some ⟨w.heap.size, 0, cap, sz⟩ := by
  have hnone : ∀ ver, μ h.length ver = none := fun ver => by
    cases hm : μ h.length ver with
    | none => rfl
    | some l => obtain ⟨b, hb, _⟩ := R.mulen _ _ _ hm; simp at hb
  have hs : Sub μ (muAdd μ h.length cells.length ⟨w.heap.size, 0, cap, sz⟩) := sub_muAdd (hnone _)
  have hat : muAdd μ h.length cells.length ⟨w.heap.size, 0, cap, sz⟩ h.length cells.length = some ⟨w.heap.size, 0, cap, sz⟩ := by simp [muAdd]
  refine ⟨?_, hs, hat⟩
  refine R.step rfl rfl rfl (by simp) (fun B hB => heap_alloc_old w _ (Nat.lt_of_lt_of_le (R.fz B hB).1 R.size0)) ?_ hs ?_ ?_
  · intro B id hB
    unfold ownAdd at hB
    split at hB
    · subst_vars; simp
    · have := R.ownlt B id hB; simp; omega
  · intro id ver l hl
    unfold muAdd at hl
    split at hl
    · rename_i hc'
      obtain ⟨rfl, rfl⟩ := hc'
      exact ⟨newBlk cells sz ex, by simp, fun _ => Nat.le_refl _⟩
    · obtain ⟨b, hb, hl2⟩ := R.mulen _ _ _ hl
      have : id < h.length := (List.getElem?_eq_some_iff.1 hb).1
      exact ⟨b, by rw [List.getElem?_append_left this]; exact hb, hl2⟩
  · intro id b hb hlv
    by_cases hid : id < h.length
    · rw [List.getElem?_append_left hid] at hb
      refine .inl ⟨hb, fun ver => by unfold muAdd; rw [if_neg (by omega)], fun B hB => ?_⟩
      have hlt := R.ownlt B id hB
      exact ⟨by unfold ownAdd; rw [if_neg (by omega)]; exact hB, heap_alloc_old w _ hlt⟩
    · rw [List.getElem?_append_right (by omega)] at hb
      have hid' : id = h.length := by
        obtain ⟨hlt, _⟩ := List.getElem?_eq_some_iff.1 hb
        simp at hlt; omega
      subst hid'
      simp at hb
      subst hb
      have hnew := heap_alloc_new w (.cells c el fr)
      refine .inr ⟨⟨w.heap.size, 0, cap, sz⟩, { cur := hat, owned := by simp [ownAdd], sz := rfl, len := hcap, ex := hex, ro := fun _ hF => ?_, gl := fun hg => by simp [newBlk] at hg, row := ⟨c, el, fr, hnew, by simpa using hcc⟩, free := fun _ j hj => ?_, vers := fun ver h1 h2 l' hl' => ?_ }⟩
      · have h1 : w.heap.size < w0.heap.size := (R.fz _ hF).1
        have := R.size0; omega
      · simp only [World.frozen?, hnew]; simpa using hfr j hj
      · have hver : ver = cells.length := Nat.le_antisymm h2 h1
        subst hver
        rw [hat] at hl'
        cases hl'
        refine { own := by simp [ownAdd], sz := rfl, le := hcap, base := fun _ => rfl, cells := fun j hj => ?_ }
        obtain ⟨v, hv1, hv2⟩ := hc.get? hj
        have hv3 : c[j]? = some v := by
          rw [List.getElem?_take_of_lt hj] at hv1
          simpa using hv1
        exact ⟨v, by rw [cell_of_row hnew]; simpa using hv3, hv2.mono hs⟩

/-! ### writing -/

theorem wr_length : ∀ (xs : List AV) (cs : List AV) (o : Nat), (wr cs o xs).length = cs.length
  | [], _, _ => rfl
  | x :: xs, cs, o => by rw [wr, wr_length xs]; simp

theorem wr_getD : ∀ (xs : List AV) (cs : List AV) (o j : Nat), o + xs.length ≤ cs.length → (wr cs o xs).getD j .u = if o ≤ j ∧ j < o + xs.length then xs.getD (j - o) .u else cs.getD j .u
  | [], cs, o, j, _ => by simp only [wr, List.length_nil, Nat.add_zero]; rw [if_neg (by omega)]
  | x :: xs, cs, o, j, hl => by
    simp only [List.length_cons] at hl
    rw [wr, wr_getD xs _ (o + 1) j (by simp; omega)]
    by_cases h1 : o + 1 ≤ j ∧ j < o + 1 + xs.length
    · rw [if_pos h1, if_pos (by simp; omega)]
      rw [show j - o = (j - (o + 1)) + 1 by omega]
      simp
    · rw [if_neg h1]
      by_cases h2 : j = o
      · subst h2
        rw [if_pos (by simp)]
        have : j < cs.length := by omega
        simp [List.getD_eq_getElem?_getD, this]
      · rw [if_neg (by simp only [List.length_cons]; omega)]
        simp [List.getD_eq_getElem?_getD, List.getElem?_set, Ne.symm h2]

theorem setCells_other (b : Nat) : ∀ (vs : List Value) (o : Nat) (w : World) (B : Nat), B ≠ b → (w.setCells b o vs).heap[B]? = w.heap[B]?
  | [], _, _, _, _ => rfl
  | v :: r, o, w, B, hB => by
    rw [World.setCells, setCells_other b r (o + 1) _ B hB]
    simp [World.setCell, Array.getElem?_modify, Ne.symm hB]
theorem setCells_size (b : Nat) : ∀ (vs : List Value) (o : Nat) (w : World), (w.setCells b o vs).heap.size = w.heap.size
  | [], _, _ => rfl
  | v :: r, o, w => by rw [World.setCells, setCells_size b r]; simp
theorem setCells_os (b : Nat) : ∀ (vs : List Value) (o : Nat) (w : World), (w.setCells b o vs).os = w.os ∧ (w.setCells b o vs).tape = w.tape ∧ (w.setCells b o vs).output = w.output
  | [], _, _ => ⟨rfl, rfl, rfl⟩
  | v :: r, o, w => by rw [World.setCells]; exact setCells_os b r (o + 1) (w.setCell _ v)
theorem setCells_row (b : Nat) : ∀ (vs : List Value) (o : Nat) (w : World) (c : Array Value) (el : TypeId) (fr : Nat × Nat), w.heap[b]? = some (.cells c el fr) → ∃ c', (w.setCells b o vs).heap[b]? = some (.cells c' el fr) ∧ c'.size = c.size
  | [], _, w, c, el, fr, h => ⟨c, h, rfl⟩
  | v :: r, o, w, c, el, fr, h => by
    rw [World.setCells]
    obtain ⟨c', h1, h2⟩ := setCells_row b r (o + 1) (w.setCell ⟨b, o, none⟩ v) (c.setIfInBounds o v) el fr (by simp [World.setCell, Array.getElem?_modify, h])
    exact ⟨c', h1, by simpa using h2⟩

theorem cellOK_one {v : AV} {cv : Value} (h : VRel μ v cv) (hc : v.cellOK = true) : cv.oneCell' = true := by
  cases h <;> first | rfl | (simp [AV.cellOK] at hc)

theorem cellsOK_one : ∀ {vs : List AV} {cvs : List Value}, VRels μ vs cvs → vs.all AV.cellOK = true → ∀ v ∈ cvs, v.oneCell' = true
  | _, _, .nil, _, v, hv => by cases hv
  | _, _, .cons a x as xs h t, hc, v, hv => by
    simp only [List.all_cons, Bool.and_eq_true] at hc
    rcases List.mem_cons.1 hv with rfl | hv
    · exact cellOK_one h hc.1
    · exact cellsOK_one t hc.2 v hv

/-- The cells of the current version lie there and are free. -/
theorem Rel.room (R : Rel w0 Fz μ own h w) {id : Nat} {b : ABlk} {l : Loc} (hk : BlkOK w Fz μ own id b l) (hro : b.ro = false) {off n : Nat} (hn : off + n ≤ l.cap) :
    (∀ j, j < n → (w.cell? ⟨l.B, l.base + off + j, none⟩).isSome = true) ∧ (∀ j, j < n → w.frozen? ⟨l.B, l.base + off + j, none⟩ = false) := by
  obtain ⟨c, el, fr, h1, h2⟩ := hk.row
  refine ⟨fun j hj => ?_, fun j hj => ?_⟩
  · rw [cell_of_row h1]
    have : l.base + off + j < c.size := by omega
    simp [this]
  · have := hk.free hro (off + j) (by omega)
    rwa [← Nat.add_assoc] at this

/-- Cells of a block written; its older versions are given up. -/
theorem Rel.write (R : Rel w0 Fz μ own h w) {id : Nat} {b : ABlk} {l : Loc} (hb : h[id]? = some b) (hlv : b.floor ≤ b.cells.length) (hk : BlkOK w Fz μ own id b l) (hro : b.ro = false)
    {off : Nat} {xs : List AV} {vs : List Value} (hx : VRels μ xs vs) (hoff : off + xs.length ≤ b.cells.length) :
    Rel w0 Fz μ own (h.set id { b with cells := wr b.cells off xs, floor := b.cells.length }) (w.setCells l.B (l.base + off) vs) := by
  have hid : id < h.length := (List.getElem?_eq_some_iff.1 hb).1
  obtain ⟨hos, htp, hot⟩ := setCells_os l.B vs (l.base + off) w
  have hxl := hx.length
  have hroom := (R.room hk hro (off := off) (n := xs.length) (by have := hk.len; omega)).1
  refine R.step hos htp hot (by rw [setCells_size]; exact Nat.le_refl _) (fun B hB => setCells_other _ _ _ _ _ (fun e => hk.ro hro (e ▸ hB))) (fun B id' hB => by rw [setCells_size]; exact R.ownlt B id' hB) (Sub.refl _) ?_ ?_
  · intro i ver l' hl'
    obtain ⟨b', hb', hle⟩ := R.mulen _ _ _ hl'
    by_cases hi : i = id
    · subst hi
      rw [hb] at hb'; cases hb'
      exact ⟨_, List.getElem?_set_self hid, fun _ => by simpa [wr_length] using hle hlv⟩
    · exact ⟨b', by rw [List.getElem?_set_ne (Ne.symm hi)]; exact hb', hle⟩
  · intro i b' hb' hlv'
    by_cases hi : i = id
    · subst hi
      simp [hid] at hb'
      subst hb'
      obtain ⟨c, el, fr, hrow, hcs⟩ := hk.row
      obtain ⟨c', hrow', hcs'⟩ := setCells_row l.B vs (l.base + off) w c el fr hrow
      refine .inr ⟨l, { cur := by simpa [wr_length] using hk.cur, owned := hk.owned, sz := hk.sz, len := by simpa [wr_length] using hk.len, ex := by simpa [wr_length] using hk.ex, ro := hk.ro, gl := hk.gl, row := ⟨c', el, fr, hrow', by omega⟩, free := fun hr j hj => by rw [World.frozen?_setCells]; exact hk.free hr j hj, vers := fun ver h1 h2 l' hl' => ?_ }⟩
      simp only [wr_length] at h1 h2
      have hver : ver = b.cells.length := Nat.le_antisymm h2 h1
      subst hver
      rw [hk.cur] at hl'; cases hl'
      have hv := hk.vers _ hlv (Nat.le_refl _) _ hk.cur
      refine { own := hv.own, sz := hv.sz, le := hv.le, base := fun _ => rfl, cells := fun j hj => ?_ }
      show ∃ cv, _ ∧ VRel μ ((wr b.cells off xs).getD j .u) cv
      rw [wr_getD xs b.cells off j hoff]
      by_cases hin : off ≤ j ∧ j < off + xs.length
      · rw [if_pos hin]
        obtain ⟨v, hv1, hv2⟩ := hx.get? (i := j - off) (by omega)
        have hjv : j - off < vs.length := by omega
        refine ⟨v, ?_, hv2⟩
        have := World.cell?_setCells_in l.B vs (l.base + off) w (fun j hj => hroom j (by omega)) (j - off) hjv
        rw [show l.base + off + (j - off) = l.base + j by omega] at this
        rw [this]
        rw [List.getElem?_eq_getElem hjv] at hv1
        exact hv1
      · rw [if_neg hin]
        obtain ⟨cv, e1, e2⟩ := hv.cells j hj
        refine ⟨cv, ?_, e2⟩
        rw [World.cell?_setCells_out l.B vs (l.base + off) w _ (fun _ _ => by simp only; omega)]
        exact e1
    · rw [List.getElem?_set_ne (Ne.symm hi)] at hb'
      refine .inl ⟨hb', fun _ => rfl, fun B hB => ⟨hB, setCells_other _ _ _ _ _ (fun e => ?_)⟩⟩
      subst e
      have := hk.owned.symm.trans hB
      exact hi (Option.some.inj this).symm

/-- A block grows within its array. -/
theorem Rel.growIn (R : Rel w0 Fz μ own h w) {id : Nat} {b : ABlk} {l : Loc} (hb : h[id]? = some b) (hlv : b.floor ≤ b.cells.length) (hk : BlkOK w Fz μ own id b l) (hro : b.ro = false) (hex : b.ex = false)
    {xs : List AV} {vs : List Value} (hx : VRels μ xs vs) (hpos : 0 < xs.length) (hcap : b.cells.length + xs.length ≤ l.cap) :
    Rel w0 Fz (muAdd μ id (b.cells ++ xs).length l) own (h.set id { b with cells := b.cells ++ xs }) (w.setCells l.B (l.base + b.cells.length) vs) ∧ Sub μ (muAdd μ id (b.cells ++ xs).length l) := by
  have hid : id < h.length := (List.getElem?_eq_some_iff.1 hb).1
  obtain ⟨hos, htp, hot⟩ := setCells_os l.B vs (l.base + b.cells.length) w
  have hxl := hx.length
  have hroom := (R.room hk hro (off := b.cells.length) (n := xs.length) hcap).1
  have hn : μ id (b.cells ++ xs).length = none := by
    cases hm : μ id (b.cells ++ xs).length with
    | none => rfl
    | some l' =>
      obtain ⟨b', hb', hle⟩ := R.mulen _ _ _ hm
      rw [hb] at hb'; cases hb'
      have := hle hlv
      simp at this; omega
  have hs : Sub μ (muAdd μ id (b.cells ++ xs).length l) := sub_muAdd hn
  refine ⟨?_, hs⟩
  refine R.step hos htp hot (by rw [setCells_size]; exact Nat.le_refl _) (fun B hB => setCells_other _ _ _ _ _ (fun e => hk.ro hro (e ▸ hB))) (fun B id' hB => by rw [setCells_size]; exact R.ownlt B id' hB) hs ?_ ?_
  · intro i ver l' hl'
    unfold muAdd at hl'
    split at hl'
    · rename_i hc
      obtain ⟨rfl, rfl⟩ := hc
      exact ⟨_, List.getElem?_set_self hid, fun _ => Nat.le_refl _⟩
    · obtain ⟨b', hb', hle⟩ := R.mulen _ _ _ hl'
      by_cases hi : i = id
      · subst hi
        rw [hb] at hb'; cases hb'
        exact ⟨_, List.getElem?_set_self hid, fun _ => by have := hle hlv; simp; omega⟩
      · exact ⟨b', by rw [List.getElem?_set_ne (Ne.symm hi)]; exact hb', hle⟩
  · intro i b' hb' hlv'
    by_cases hi : i = id
    · subst hi
      simp [hid] at hb'
      subst hb'
      obtain ⟨c, el, fr, hrow, hcs⟩ := hk.row
      obtain ⟨c', hrow', hcs'⟩ := setCells_row l.B vs (l.base + b.cells.length) w c el fr hrow
      refine .inr ⟨l, { cur := by simp [muAdd], owned := hk.owned, sz := hk.sz, len := by simpa using hcap, ex := fun he => by simp [hex] at he, ro := hk.ro, gl := hk.gl, row := ⟨c', el, fr, hrow', by omega⟩, free := fun hr j hj => by rw [World.frozen?_setCells]; exact hk.free hr j hj, vers := fun ver h1 h2 l' hl' => ?_ }⟩
      have hvc := hk.vers _ hlv (Nat.le_refl _) _ hk.cur
      simp only at h1 h2
      unfold muAdd at hl'
      split at hl'
      · rename_i hc
        obtain ⟨_, rfl⟩ := hc
        cases hl'
        refine { own := hvc.own, sz := hvc.sz, le := by simpa using hcap, base := fun _ => rfl, cells := fun j hj => ?_ }
        show ∃ cv, _ ∧ VRel _ ((b.cells ++ xs).getD j .u) cv
        by_cases hin : j < b.cells.length
        · obtain ⟨cv, e1, e2⟩ := hvc.cells j hin
          refine ⟨cv, ?_, ?_⟩
          · rw [World.cell?_setCells_out l.B vs _ w _ (fun _ _ => by simp only; omega)]
            exact e1
          · rw [List.getD_eq_getElem?_getD, List.getElem?_append_left hin, ← List.getD_eq_getElem?_getD]
            exact e2.mono hs
        · have hjx : j - b.cells.length < xs.length := by simp at hj; omega
          obtain ⟨v, hv1, hv2⟩ := hx.get? hjx
          have hjv : j - b.cells.length < vs.length := by omega
          refine ⟨v, ?_, ?_⟩
          · have := World.cell?_setCells_in l.B vs (l.base + b.cells.length) w (fun j hj => hroom j (by omega)) (j - b.cells.length) hjv
            rw [show l.base + b.cells.length + (j - b.cells.length) = l.base + j by omega] at this
            rw [this]
            rw [List.getElem?_eq_getElem hjv] at hv1
            exact hv1
          · rw [List.getD_eq_getElem?_getD, List.getElem?_append_right (by omega), ← List.getD_eq_getElem?_getD]
            exact hv2.mono hs
      · rename_i hc
        have hverle : ver ≤ b.cells.length := by
          obtain ⟨b', hb', hle⟩ := R.mulen _ _ _ hl'
          rw [hb] at hb'; cases hb'
          exact hle hlv
        have hv := hk.vers ver h1 hverle l' hl'
        refine { own := hv.own, sz := hv.sz, le := hv.le, base := hv.base, cells := fun j hj => ?_ }
        obtain ⟨cv, e1, e2⟩ := hv.cells j hj
        refine ⟨cv, ?_, ?_⟩
        · rw [World.cell?_setCells_out l.B vs _ w _ (fun hB _ => by
            have := hv.base hB
            simp only at hB ⊢
            omega)]
          exact e1
        · rw [List.getD_eq_getElem?_getD, List.getElem?_append_left (by omega), ← List.getD_eq_getElem?_getD]
          exact e2.mono hs
    · rw [List.getElem?_set_ne (Ne.symm hi)] at hb'
      refine .inl ⟨hb', fun ver => by unfold muAdd; rw [if_neg (by omega)], fun B hB => ⟨hB, setCells_other _ _ _ _ _ (fun e => ?_)⟩⟩
      subst e
      have := hk.owned.symm.trans hB
      exact hi (Option.some.inj this).symm

/-- A block grows into a new array. -/
theorem Rel.growNew (R : Rel w0 Fz μ own h w) {id : Nat} {b : ABlk} {l : Loc} (hb : h[id]? = some b) (hlv : b.floor ≤ b.cells.length) (hk : BlkOK w Fz μ own id b l) (hro : b.ro = false) (hex : b.ex = false) (hgl : b.gl = false)
    {xs : List AV} {c : Array Value} {el : TypeId} (hx : VRels μ (b.cells ++ xs) (c.toList.take (b.cells ++ xs).length)) (hpos : 0 < xs.length) {cap : Nat} (hcap : (b.cells ++ xs).length ≤ cap) (hcc : cap ≤ c.size) :
    Rel w0 Fz (muAdd μ id (b.cells ++ xs).length ⟨w.heap.size, 0, cap, b.sz⟩) (ownAdd own w.heap.size id) (h.set id { b with cells := b.cells ++ xs }) (w.alloc (.cells c el)) ∧ Sub μ (muAdd μ id (b.cells ++ xs).length ⟨w.heap.size, 0, cap, b.sz⟩) := by
  have hid : id < h.length := (List.getElem?_eq_some_iff.1 hb).1
  have hn : μ id (b.cells ++ xs).length = none := by
    cases hm : μ id (b.cells ++ xs).length with
    | none => rfl
    | some l' =>
      obtain ⟨b', hb', hle⟩ := R.mulen _ _ _ hm
      rw [hb] at hb'; cases hb'
      have := hle hlv
      simp at this; omega
  have hs : Sub μ (muAdd μ id (b.cells ++ xs).length ⟨w.heap.size, 0, cap, b.sz⟩) := sub_muAdd hn
  refine ⟨?_, hs⟩
  have hnew := heap_alloc_new w (.cells c el)
  refine R.step rfl rfl rfl (by simp) (fun B hB => heap_alloc_old w _ (Nat.lt_of_lt_of_le (R.fz B hB).1 R.size0)) ?_ hs ?_ ?_
  · intro B id' hB
    unfold ownAdd at hB
    split at hB
    · subst_vars; simp
    · have := R.ownlt B id' hB; simp; omega
  · intro i ver l' hl'
    unfold muAdd at hl'
    split at hl'
    · rename_i hc
      obtain ⟨rfl, rfl⟩ := hc
      exact ⟨_, List.getElem?_set_self hid, fun _ => Nat.le_refl _⟩
    · obtain ⟨b', hb', hle⟩ := R.mulen _ _ _ hl'
      by_cases hi : i = id
      · subst hi
        rw [hb] at hb'; cases hb'
        exact ⟨_, List.getElem?_set_self hid, fun _ => by have := hle hlv; simp; omega⟩
      · exact ⟨b', by rw [List.getElem?_set_ne (Ne.symm hi)]; exact hb', hle⟩
  · intro i b' hb' hlv'
    by_cases hi : i = id
    · subst hi
      simp [hid] at hb'
      subst hb'
      refine .inr ⟨⟨w.heap.size, 0, cap, b.sz⟩, { cur := by simp [muAdd], owned := by simp [ownAdd], sz := rfl, len := hcap, ex := fun he => by simp [hex] at he, ro := fun _ hF => ?_, gl := fun hg => by simp [hgl] at hg, row := ⟨c, el, _, hnew, by simpa using hcc⟩, free := fun _ j hj => ?_, vers := fun ver h1 h2 l' hl' => ?_ }⟩
      · have h1 : w.heap.size < w0.heap.size := (R.fz _ hF).1
        have := R.size0; omega
      · simp only [World.frozen?, hnew]; simp
      · simp only at h1 h2
        unfold muAdd at hl'
        split at hl'
        · rename_i hc
          obtain ⟨_, rfl⟩ := hc
          cases hl'
          refine { own := by simp [ownAdd], sz := rfl, le := hcap, base := fun _ => rfl, cells := fun j hj => ?_ }
          obtain ⟨v, hv1, hv2⟩ := hx.get? hj
          have hv3 : c[j]? = some v := by
            rw [List.getElem?_take_of_lt hj] at hv1
            simpa using hv1
          exact ⟨v, by rw [cell_of_row hnew]; simpa using hv3, hv2.mono hs⟩
        · rename_i hc
          have hverle : ver ≤ b.cells.length := by
            obtain ⟨b', hb', hle⟩ := R.mulen _ _ _ hl'
            rw [hb] at hb'; cases hb'
            exact hle hlv
          have hv := hk.vers ver h1 hverle l' hl'
          have hlt := R.ownlt _ _ hv.own
          refine { own := by unfold ownAdd; rw [if_neg (by omega)]; exact hv.own, sz := hv.sz, le := hv.le, base := fun hB => ?_, cells := fun j hj => ?_ }
          · simp only at hB; omega
          · obtain ⟨cv, e1, e2⟩ := hv.cells j hj
            refine ⟨cv, ?_, ?_⟩
            · rw [World.cell?_alloc_lt _ _ _ hlt]; exact e1
            · rw [List.getD_eq_getElem?_getD, List.getElem?_append_left (by omega), ← List.getD_eq_getElem?_getD]
              exact e2.mono hs
    · rw [List.getElem?_set_ne (Ne.symm hi)] at hb'
      refine .inl ⟨hb', fun ver => by unfold muAdd; rw [if_neg (by omega)], fun B hB => ?_⟩
      have hlt := R.ownlt B i hB
      exact ⟨by unfold ownAdd; rw [if_neg (by omega)]; exact hB, heap_alloc_old w _ hlt⟩

end
end Go.GAM
