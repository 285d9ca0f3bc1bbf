/- Functions and calls. -/
import Derived.Test.YtffgchcidkapjaaDoorAm11
set_option linter.unusedVariables false
set_option linter.unusedSimpArgs false
namespace Go.GAM

section
variable {P : Program} {w0 : World} {Fz : Nat → Prop} {μ : Mu} {own : Nat → Option Nat} {h : AHeap} {w : World}

/-! ### renaming -/

def MuLt (μ : Mu) (n : Nat) : Prop := ∀ id ver l, μ id ver = some l → id < n
def Agree (μ μ' : Mu) (n : Nat) : Prop := ∀ id ver, id < n → μ' id ver = μ id ver

mutual
/-- A value that was there before keeps its reading. -/
theorem VRel.old {μ0 μ μ' : Mu} {n : Nat} (hlt : MuLt μ0 n) (hag : Agree μ μ' n) : ∀ {v : AV} {c0 c : Value}, VRel μ0 v c0 → VRel μ v c → VRel μ' v c
  | _, _, _, .u _, _ => .u _
  | _, _, _, .b _, .b _ => .b _
  | _, _, _, .i _ _, .i _ _ => .i _ _
  | _, _, _, .s _ _ _, .s _ _ h => .s _ _ h
  | _, _, _, .pn, .pn => .pn
  | _, _, _, .p a l o h ho, .p _ l' o' h' ho' => .p a l' o' ((hag _ _ (hlt _ _ _ h)).trans h') ho'
  | _, _, _, .sn, .sn => .sn
  | _, _, _, .sl a len capo c addr l h _ _ _ _ _, .sl _ _ _ c' addr' l' h' g1 g2 g3 g4 g5 => .sl a len capo c' addr' l' ((hag _ _ (hlt _ _ _ h)).trans h') g1 g2 g3 g4 g5
  | _, _, _, .ag _ _ h, .ag _ _ h' => .ag _ _ (VRels.old hlt hag h h')
  | _, _, _, .tu _ _ h, .tu _ _ h' => .tu _ _ (VRels.old hlt hag h h')
  | _, _, _, .fn _ _ _ _ _ h k, .fn _ _ _ _ _ h' k' => .fn _ _ _ _ _ (VRels.old hlt hag h h') (VRels.old hlt hag k k')
  | _, _, _, .nf, .nf => .nf
  | _, _, _, .ifc _ _ _ h, .ifc _ _ _ h' => .ifc _ _ _ (VRel.old hlt hag h h')
  | _, _, _, .ni, .ni => .ni
  | _, _, _, .mpn, .mpn => .mpn
theorem VRels.old {μ0 μ μ' : Mu} {n : Nat} (hlt : MuLt μ0 n) (hag : Agree μ μ' n) : ∀ {v : List AV} {c0 c : List Value}, VRels μ0 v c0 → VRels μ v c → VRels μ' v c
  | _, _, _, .nil, .nil => .nil
  | _, _, _, .cons _ _ _ _ h t, .cons _ _ _ _ h' t' => .cons _ _ _ _ (VRel.old hlt hag h h') (VRels.old hlt hag t t')
end

def muRen (μ : Mu) (n : Nat) (keep : List Nat) : Mu := fun id ver => if id < n then μ id ver else match keep[id - n]? with
  | some k => μ k ver
  | none => none
def ownRen (own : Nat → Option Nat) (n : Nat) (keep : List Nat) : Nat → Option Nat := fun B => match own B with
  | some id => if okId n keep id then some (renId n keep id) else none
  | none => none

theorem muRen_ren {n : Nat} {keep : List Nat} {id ver : Nat} {l : Loc} (hk : ∀ k ∈ keep, n ≤ k) (hok : okId n keep id = true) (hm : μ id ver = some l) : muRen μ n keep (renId n keep id) ver = some l := by
  unfold muRen renId
  by_cases h : id < n
  · simp [h, hm]
  · simp only [okId, h, decide_false, Bool.false_or, List.contains_iff_mem] at hok
    have : keep[keep.idxOf id]? = some id := by
      have hl := List.idxOf_lt_length_iff.2 hok
      rw [List.getElem?_eq_getElem hl]
      simp
    rw [if_neg h, if_neg (by omega), show n + keep.idxOf id - n = keep.idxOf id by omega, this]
    exact hm

theorem ren1_rel {n : Nat} {keep : List Nat} (hk : ∀ k ∈ keep, n ≤ k) {v : AV} {c : Value} (h : VRel μ v c) (hok : ok1 n keep v = true) : VRel (muRen μ n keep) (ren1 n keep v) c := by
  cases h <;> first | (simp [ok1] at hok; done) | skip
  case u => exact .u _
  case b => exact .b _
  case i => exact .i _ _
  case s l x h => exact .s _ _ h
  case pn => exact .pn
  case p a l o h ho => exact .p (renA n keep a) l o (muRen_ren hk hok h) ho
  case sn => exact .sn
  case sl a len capo c addr l h g1 g2 g3 g4 g5 => exact .sl (renA n keep a) len capo c addr l (muRen_ren hk hok h) g1 g2 g3 g4 g5
  case nf => exact .nf
  case ni => exact .ni

theorem rens_rel {n : Nat} {keep : List Nat} (hk : ∀ k ∈ keep, n ≤ k) : ∀ {v : List AV} {c : List Value}, VRels μ v c → v.all (ok1 n keep) = true → VRels (muRen μ n keep) (v.map (ren1 n keep)) c
  | _, _, .nil, _ => .nil
  | _, _, .cons _ _ _ _ h t, hok => by
    simp only [List.all_cons, Bool.and_eq_true] at hok
    exact .cons _ _ _ _ (ren1_rel hk h hok.1) (rens_rel hk t hok.2)

theorem ren_rel {n : Nat} {keep : List Nat} (hk : ∀ k ∈ keep, n ≤ k) {v : AV} {c : Value} (h : VRel μ v c) (hok : okR n keep v = true) : VRel (muRen μ n keep) (ren n keep v) c := by
  cases h with
  | ag cs vs h => exact .ag _ _ (rens_rel hk h hok)
  | tu cs vs h => exact .tu _ _ (rens_rel hk h hok)
  | u => exact .u _
  | b => exact .b _
  | i => exact .i _ _
  | s l x h => exact .s _ _ h
  | pn => exact .pn
  | p a l o h ho => exact ren1_rel hk (.p a l o h ho) hok
  | sn => exact .sn
  | sl a len capo c addr l h g1 g2 g3 g4 g5 => exact ren1_rel hk (.sl a len capo c addr l h g1 g2 g3 g4 g5) hok
  | nf => exact .nf
  | ni => exact .ni
  | fn => simp [okR, ok1] at hok
  | ifc => simp [okR, ok1] at hok
  | mpn => simp [okR, ok1] at hok

theorem ren1_nil_id {n : Nat} {v : AV} (h : ok1 n [] v = true) : ren1 n [] v = v := by
  cases v <;> simp [ren1]
  case p a => cases a with
    | none => rfl
    | some a =>
      simp [ok1, okId] at h
      simp [renA, renId, h]
  case sl a l c => cases a with
    | none => rfl
    | some a =>
      simp [ok1, okId] at h
      simp [renA, renId, h]

theorem keep_get {h : AHeap} {n : Nat} {keep : List Nat} (hk : ∀ k ∈ keep, ∃ b, h[k]? = some b) (j : Nat) (hj : j < keep.length) :
    (keep.filterMap fun id => (h[id]?).map (renB n keep))[j]? = (h[keep[j]]?).map (renB n keep) ∧ (keep.filterMap fun id => (h[id]?).map (renB n keep)).length = keep.length := by
  have e : keep.filterMap (fun id => (h[id]?).map (renB n keep)) = keep.map (fun id => renB n keep ((h[id]?).getD dead)) := by
    have : ∀ l : List Nat, (∀ k ∈ l, ∃ b, h[k]? = some b) → l.filterMap (fun id => (h[id]?).map (renB n keep)) = l.map (fun id => renB n keep ((h[id]?).getD dead)) := by
      intro l
      induction l with
      | nil => intro _; rfl
      | cons x l ih =>
        intro hl
        obtain ⟨b, hb⟩ := hl x (by simp)
        rw [List.filterMap_cons, hb]
        simp only [Option.map_some, List.map_cons, hb, Option.getD_some]
        rw [ih (fun k hk => hl k (by simp [hk]))]
    exact this keep hk
  rw [e]
  obtain ⟨b, hb⟩ := hk keep[j] (List.getElem_mem hj)
  simp [hj, hb]

theorem Rel.trim {h0 : AHeap} {μ0 : Mu} {own0 : Nat → Option Nat} {wa : World} (R0 : Rel w0 Fz μ0 own0 h0 wa) (R : Rel w0 Fz μ own h w) (hsub : Sub μ0 μ) {keep : List Nat} (hnd : keep.Nodup)
    (hkeep : ∀ id ∈ keep, h0.length ≤ id ∧ ∃ b, h[id]? = some b ∧ b.cells.all (ok1 h0.length keep) = true)
    (hold : ∀ id, id < h0.length → h[id]? = h0[id]? ∨ ∃ b, h[id]? = some b ∧ b.cells.all (ok1 h0.length []) = true) (hlen : h0.length ≤ h.length) :
    Rel w0 Fz (muRen μ h0.length keep) (ownRen own h0.length keep) (h.take h0.length ++ keep.filterMap fun id => (h[id]?).map (renB h0.length keep)) w ∧ Sub μ0 (muRen μ h0.length keep) := by
  have hmu0 : MuLt μ0 h0.length := fun id ver l hl => by
    obtain ⟨b, hb, _⟩ := R0.mulen _ _ _ hl
    exact (List.getElem?_eq_some_iff.1 hb).1
  have hge : ∀ k ∈ keep, h0.length ≤ k := fun k hk => (hkeep k hk).1
  have hex : ∀ k ∈ keep, ∃ b, h[k]? = some b := fun k hk => let ⟨_, b, hb, _⟩ := hkeep k hk; ⟨b, hb⟩
  generalize hn : h0.length = n at *
  have hagree : Agree μ (muRen μ n keep) n := fun id ver hid => by simp [muRen, hid]
  have htl : (h.take n).length = n := by simp; omega
  have hget : ∀ id, id < n → (h.take n ++ keep.filterMap fun id => (h[id]?).map (renB n keep))[id]? = h[id]? := fun id hid => by
    rw [List.getElem?_append_left (by omega), List.getElem?_take_of_lt hid]
  have hgetk : ∀ j (hj : j < keep.length), (h.take n ++ keep.filterMap fun id => (h[id]?).map (renB n keep))[n + j]? = (h[keep[j]]?).map (renB n keep) := fun j hj => by
    rw [List.getElem?_append_right (by omega), htl, show n + j - n = j by omega]
    exact (keep_get hex j hj).1
  refine ⟨{ os := R.os, tape := R.tape, output := R.output, size0 := R.size0, fz := R.fz, ownlt := fun B id hB => ?_, mulen := fun id ver l hl => ?_, blk := fun id b hb hlv => ?_ }, fun id ver l hl => ?_⟩
  · unfold ownRen at hB
    split at hB
    · rename_i i hi; exact R.ownlt B i hi
    · cases hB
  · unfold muRen at hl
    split at hl
    · rename_i hid
      obtain ⟨b, hb, hle⟩ := R.mulen _ _ _ hl
      exact ⟨b, by rw [hget id hid]; exact hb, hle⟩
    · rename_i hid
      split at hl
      · rename_i k hk
        obtain ⟨b, hb, hle⟩ := R.mulen _ _ _ hl
        obtain ⟨hj, hjk⟩ := List.getElem?_eq_some_iff.1 hk
        refine ⟨renB n keep b, ?_, ?_⟩
        · have := hgetk (id - n) hj
          rw [show n + (id - n) = id by omega, hjk, hb] at this
          exact this
        · simpa [renB] using hle
      · cases hl
  · by_cases hid : id < n
    · rw [hget id hid] at hb
      obtain ⟨l, hk⟩ := R.blk id b hb hlv
      have hokid : okId n keep id = true := by simp [okId, hid]
      have hren : renId n keep id = id := by simp [renId, hid]
      -- the cells keep their reading
      have hcell : ∀ (j : Nat) (cv : Value), VRel μ (b.cells.getD j .u) cv → VRel (muRen μ n keep) (b.cells.getD j .u) cv := fun j cv hv => by
        rcases hold id hid with heq | ⟨b', hb', hok⟩
        · rw [hb] at heq
          obtain ⟨l0, hk0⟩ := R0.blk id b heq.symm hlv
          have hv0 := hk0.vers _ hlv (Nat.le_refl _) _ hk0.cur
          by_cases hj : j < b.cells.length
          · obtain ⟨c0, _, hr0⟩ := hv0.cells j hj
            exact VRel.old hmu0 hagree hr0 hv
          · have : b.cells.getD j .u = .u := by simp [List.getD_eq_getElem?_getD, List.getElem?_eq_none (Nat.le_of_not_lt hj)]
            rw [this]; exact .u _
        · rw [hb] at hb'; cases hb'
          have h1 : ok1 n [] (b.cells.getD j .u) = true := by
            by_cases hj : j < b.cells.length
            · have := List.all_eq_true.1 hok (b.cells[j]) (List.getElem_mem hj)
              rw [List.getD_eq_getElem?_getD, List.getElem?_eq_getElem hj]; exact this
            · have : b.cells.getD j .u = .u := by simp [List.getD_eq_getElem?_getD, List.getElem?_eq_none (Nat.le_of_not_lt hj)]
              rw [this]; rfl
          have h2 : ok1 n keep (b.cells.getD j .u) = true := by
            revert h1
            generalize b.cells.getD j .u = x
            intro h1
            cases x <;> simp_all [ok1]
            case p a => cases a <;> simp_all [okId]
            case sl a l c => cases a <;> simp_all [okId]
          have h3 := ren1_rel hge hv h2
          have h4 : ren1 n keep (b.cells.getD j .u) = b.cells.getD j .u := by
            revert h1
            generalize b.cells.getD j .u = x
            intro h1
            cases x <;> simp [ren1]
            case p a => cases a with
              | none => rfl
              | some a => simp [ok1, okId] at h1; simp [renA, renId, h1]
            case sl a l c => cases a with
              | none => rfl
              | some a => simp [ok1, okId] at h1; simp [renA, renId, h1]
          rwa [h4] at h3
      refine ⟨l, { cur := by rw [hagree _ _ hid]; exact hk.cur, owned := by simp [ownRen, hk.owned, hokid, hren], sz := hk.sz, len := hk.len, ex := hk.ex, ro := hk.ro, gl := hk.gl, row := hk.row, free := hk.free, vers := fun ver h1 h2 l' hl' => ?_ }⟩
      rw [hagree _ _ hid] at hl'
      have hv := hk.vers ver h1 h2 l' hl'
      exact { own := by simp [ownRen, hv.own, hokid, hren], sz := hv.sz, le := hv.le, base := hv.base, cells := fun j hj => let ⟨cv, e1, e2⟩ := hv.cells j hj; ⟨cv, e1, hcell j cv e2⟩ }
    · have hidl := (List.getElem?_eq_some_iff.1 hb).1
      have hj : id - n < keep.length := by
        rcases keep with _ | ⟨x, xs⟩
        · simp at hidl; omega
        · have := (keep_get (n := n) hex 0 (by simp)).2
          rw [List.length_append, htl, this] at hidl
          omega
      have h1 := hgetk (id - n) hj
      rw [show n + (id - n) = id by omega, hb] at h1
      obtain ⟨hkge, b0, hb0, hok⟩ := hkeep keep[id - n] (List.getElem_mem hj)
      rw [hb0] at h1
      simp only [Option.map_some, Option.some.injEq] at h1
      subst h1
      simp only [renB, List.length_map] at hlv
      obtain ⟨l, hk⟩ := R.blk _ b0 hb0 hlv
      have hmu : ∀ ver, muRen μ n keep id ver = μ keep[id - n] ver := fun ver => by simp [muRen, hid, hj]
      have hown : ∀ B, own B = some keep[id - n] → ownRen own n keep B = some id := fun B hB => by
        have hm : keep[id - n] ∈ keep := List.getElem_mem hj
        have hx : okId n keep keep[id - n] = true := by simp [okId, hm]
        have hi : keep.idxOf keep[id - n] = id - n := List.Nodup.idxOf_getElem hnd _ hj
        have hr : renId n keep keep[id - n] = id := by
          simp only [renId, if_neg (show ¬ keep[id - n] < n by omega), hi]; omega
        simp [ownRen, hB, hx, hr]
      refine ⟨l, { cur := by rw [hmu]; simpa [renB] using hk.cur, owned := hown _ hk.owned, sz := hk.sz, len := by simpa [renB] using hk.len, ex := by simpa [renB] using hk.ex, ro := hk.ro, gl := fun hg => by simp [renB] at hg, row := hk.row, free := hk.free, vers := fun ver g1 g2 l' hl' => ?_ }⟩
      rw [hmu] at hl'
      have hv := hk.vers ver g1 (by simpa [renB] using g2) l' hl'
      refine { own := hown _ hv.own, sz := hv.sz, le := hv.le, base := hv.base, cells := fun j hj' => ?_ }
      obtain ⟨cv, e1, e2⟩ := hv.cells j hj'
      refine ⟨cv, e1, ?_⟩
      have hjl : j < b0.cells.length := by have : ver ≤ b0.cells.length := by simpa [renB] using g2
                                           omega
      have h2 : (renB n keep b0).cells.getD j .u = ren1 n keep (b0.cells.getD j .u) := by
        simp [renB, List.getD_eq_getElem?_getD, hjl]
      rw [h2]
      refine ren1_rel hge e2 ?_
      have := List.all_eq_true.1 hok (b0.cells[j]) (List.getElem_mem hjl)
      rw [List.getD_eq_getElem?_getD, List.getElem?_eq_getElem hjl]; exact this
  · have := hsub _ _ _ hl
    rw [hagree _ _ (hmu0 _ _ _ hl)]; exact this

end
end Go.GAM
