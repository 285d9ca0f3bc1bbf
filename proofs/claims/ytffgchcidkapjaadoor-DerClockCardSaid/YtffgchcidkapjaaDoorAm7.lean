/- Operations that make or write memory. -/
import Derived.Test.YtffgchcidkapjaaDoorAm6
import Derived.Laws.Append
import Derived.Laws.MakeOwn
set_option linter.unusedVariables false
set_option linter.unusedSimpArgs false
namespace Go.GAM

section
variable {P : Program} {w0 : World} {Fz : Nat → Prop} {μ : Mu} {own : Nat → Option Nat} {h : AHeap} {w : World}

/-- A block given up. -/
theorem Rel.kill (R : Rel w0 Fz μ own h w) {id : Nat} : Rel w0 Fz μ own (h.set id dead) w := by
  refine R.step rfl rfl rfl (Nat.le_refl _) (fun _ _ => rfl) R.ownlt (Sub.refl _) ?_ ?_
  · intro i ver l hl
    obtain ⟨b, hb, hle⟩ := R.mulen _ _ _ hl
    by_cases hi : i = id
    · subst hi
      have : i < h.length := (List.getElem?_eq_some_iff.1 hb).1
      exact ⟨dead, List.getElem?_set_self this, fun hf => by simp [dead] at hf⟩
    · exact ⟨b, by rw [List.getElem?_set_ne (Ne.symm hi)]; exact hb, hle⟩
  · intro i b hb hlv
    by_cases hi : i = id
    · subst hi
      have : i < (h.set i dead).length := (List.getElem?_eq_some_iff.1 hb).1
      rw [List.getElem?_set_self (by simpa using this)] at hb
      cases hb
      simp [dead] at hlv
    · rw [List.getElem?_set_ne (Ne.symm hi)] at hb
      exact .inl ⟨hb, fun _ => rfl, fun B hB => ⟨hB, rfl⟩⟩

theorem set_append_lt {α : Type} {l : List α} {i : Nat} {x : α} (r : List α) (hi : i < l.length) : (l ++ r).set i x = l.set i x ++ r := by
  rw [List.set_append_left _ _ hi]

/-- A new block takes over the end of a block's array. -/
theorem Rel.takeOver (R : Rel w0 Fz μ own h w) {id off : Nat} {b : ABlk} {l : Loc} (hb : h[id]? = some b) (hlv : b.floor ≤ b.cells.length) (hk : BlkOK w Fz μ own id b l) (hro : b.ro = false)
    {xs : List AV} {vs : List Value} (hx : VRels μ xs vs) (hoff : off ≤ b.cells.length) (hcap : b.cells.length + xs.length ≤ l.cap) :
    let l' : Loc := ⟨l.B, l.base + off, l.cap - off, l.sz⟩
    let ns := b.cells.drop off ++ xs
    Rel w0 Fz (muAdd μ h.length ns.length l') (ownAdd own l.B h.length) (h.set id dead ++ [newBlk ns l.sz false]) (w.setCells l.B (l.base + b.cells.length) vs) ∧ Sub μ (muAdd μ h.length ns.length l') := by
  intro l' ns
  have hid : id < h.length := (List.getElem?_eq_some_iff.1 hb).1
  obtain ⟨hos, htp, hot⟩ := setCells_os l.B vs (l.base + b.cells.length) w
  have hxl := hx.length
  have hroom := (R.room hk hro (off := b.cells.length) (n := xs.length) hcap).1
  have hnone : ∀ ver, μ h.length ver = none := fun ver => by
    cases hm : μ h.length ver with
    | none => rfl
    | some l => obtain ⟨b, hb, _⟩ := R.mulen _ _ _ hm; simp at hb
  have hs : Sub μ (muAdd μ h.length ns.length l') := sub_muAdd (hnone _)
  have hnl : ns.length = b.cells.length - off + xs.length := by simp [ns]
  refine ⟨?_, hs⟩
  refine R.step hos htp hot (by rw [setCells_size]; exact Nat.le_refl _) (fun B hB => setCells_other _ _ _ _ _ (fun e => hk.ro hro (e ▸ hB))) ?_ hs ?_ ?_
  · intro B i hB
    rw [setCells_size]
    unfold ownAdd at hB
    split at hB
    · rename_i hBB; subst hBB; exact R.ownlt _ _ hk.owned
    · exact R.ownlt B i hB
  · intro i ver lx hlx
    unfold muAdd at hlx
    split at hlx
    · rename_i hc
      obtain ⟨rfl, rfl⟩ := hc
      exact ⟨newBlk ns l.sz false, by simp, fun _ => Nat.le_refl _⟩
    · obtain ⟨b', hb', hle⟩ := R.mulen _ _ _ hlx
      have hil : i < h.length := (List.getElem?_eq_some_iff.1 hb').1
      rw [List.getElem?_append_left (by simpa using hil)]
      by_cases hi : i = id
      · subst hi
        exact ⟨dead, List.getElem?_set_self hil, fun hf => by simp [dead] at hf⟩
      · exact ⟨b', by rw [List.getElem?_set_ne (Ne.symm hi)]; exact hb', hle⟩
  · intro i b' hb' hlv'
    by_cases hil : i < h.length
    · rw [List.getElem?_append_left (by simpa using hil)] at hb'
      by_cases hi : i = id
      · subst hi
        rw [List.getElem?_set_self hil] at hb'
        cases hb'
        simp [dead] at hlv'
      · rw [List.getElem?_set_ne (Ne.symm hi)] at hb'
        refine .inl ⟨hb', fun ver => by unfold muAdd; rw [if_neg (by omega)], fun B hB => ?_⟩
        have hBne : B ≠ l.B := fun e => by
          subst e
          have := hk.owned.symm.trans hB
          exact hi (Option.some.inj this).symm
        exact ⟨by unfold ownAdd; rw [if_neg hBne]; exact hB, setCells_other _ _ _ _ _ hBne⟩
    · rw [List.getElem?_append_right (by simpa using hil)] at hb'
      have hid' : i = h.length := by
        obtain ⟨hlt, _⟩ := List.getElem?_eq_some_iff.1 hb'
        simp at hlt; omega
      subst hid'
      simp at hb'
      subst hb'
      obtain ⟨c, el, fr, hrow, hcs⟩ := hk.row
      obtain ⟨c', hrow', hcs'⟩ := setCells_row l.B vs (l.base + b.cells.length) w c el fr hrow
      refine .inr ⟨l', { cur := by simp [muAdd, newBlk], owned := by simp [ownAdd, l'], sz := rfl, len := ?_, ex := fun he => by simp [newBlk] at he, ro := fun _ => hk.ro hro, gl := fun hg => by simp [newBlk] at hg, row := ⟨c', el, fr, hrow', ?_⟩, free := fun hr j hj => ?_, vers := fun ver h1 h2 lx hlx => ?_ }⟩
      · show ns.length ≤ l.cap - off
        omega
      · show l.base + off + (l.cap - off) ≤ c'.size
        have := hk.len
        omega
      · rw [World.frozen?_setCells]
        have hj' : j < l.cap - off := hj
        have := hk.free hro (off + j) (by omega)
        show w.frozen? ⟨l.B, l.base + off + j, none⟩ = false
        rwa [← Nat.add_assoc] at this
      · have hver : ver = ns.length := Nat.le_antisymm h2 h1
        subst hver
        have hlx' : lx = l' := by
          unfold muAdd at hlx
          rw [if_pos ⟨rfl, rfl⟩] at hlx
          exact (Option.some.inj hlx).symm
        subst hlx'
        have hvc := hk.vers _ hlv (Nat.le_refl _) _ hk.cur
        refine { own := by simp [ownAdd, l'], sz := rfl, le := ?_, base := fun _ => rfl, cells := fun j hj => ?_ }
        · show ns.length ≤ l.cap - off
          omega
        · show ∃ cv, (w.setCells l.B (l.base + b.cells.length) vs).cell? ⟨l.B, l.base + off + j, none⟩ = some cv ∧ VRel _ (ns.getD j .u) cv
          by_cases hin : j < b.cells.length - off
          · obtain ⟨cv, e1, e2⟩ := hvc.cells (off + j) (by omega)
            refine ⟨cv, ?_, ?_⟩
            · rw [World.cell?_setCells_out l.B vs _ w _ (fun _ _ => by simp only; omega), Nat.add_assoc]
              exact e1
            · have : ns.getD j .u = b.cells.getD (off + j) .u := by
                simp only [ns]
                rw [List.getD_eq_getElem?_getD, List.getElem?_append_left (by simpa using hin), List.getElem?_drop, ← List.getD_eq_getElem?_getD]
              rw [this]; exact e2.mono hs
          · obtain ⟨v, hv1, hv2⟩ := hx.get? (i := j - (b.cells.length - off)) (by omega)
            have hjv : j - (b.cells.length - off) < vs.length := by omega
            refine ⟨v, ?_, ?_⟩
            · have := World.cell?_setCells_in l.B vs (l.base + b.cells.length) w (fun j hj => hroom j (by omega)) (j - (b.cells.length - off)) hjv
              rw [show l.base + b.cells.length + (j - (b.cells.length - off)) = l.base + off + j by omega] at this
              rw [this]
              rw [List.getElem?_eq_getElem hjv] at hv1
              exact hv1
            · have : ns.getD j .u = xs.getD (j - (b.cells.length - off)) .u := by
                simp only [ns]
                rw [List.getD_eq_getElem?_getD, List.getElem?_append_right (by simp; omega), ← List.getD_eq_getElem?_getD]
                simp
              rw [this]; exact hv2.mono hs

/-- The elements that are appended, read. -/
theorem newsOf_sound (R : Rel w0 Fz μ own h w) {x : AV} {cx : Value} {K : List AV → Nat → Prop} {sz : Nat} (hx : VRel μ x cx) (hk : newsOf sz x h K) :
    ∃ news k vs, K news k ∧ VRels μ news vs ∧ news.length = k * sz ∧ (∀ w', (Builtin.lenOf cx).run P w' = .ok k w') ∧
      ∀ n, n ≤ k → ∀ w', Same w w' → (Builtin.firstCells sz n cx).run P w' = .ok (vs.take (n * sz)).toArray w' := by
  cases hx <;> first | exact hk.elim | skip
  case sn => exact ⟨[], 0, [], hk, .nil, by simp, fun w' => by simp [Builtin.lenOf], fun n hn w' hs => by simp [Builtin.firstCells]⟩
  case sl a len capo c addr l h1 h2 h3 h4 h5 h6 =>
    have hk' : slCells sz (.sl (some a) len capo) h (fun cs => K cs len) := hk
    obtain ⟨cs, vs, hK, hr, a', len', c', he, hn, hlen, hrd⟩ := slCells_sound R (VRel.sl a len capo c addr l h1 h2 h3 h4 h5 h6) hk'
    cases he
    refine ⟨cs, _, vs, hK, hr, hlen, fun w' => by simp [Builtin.lenOf], fun n hn' w' hs => ?_⟩
    have hvl : vs.length = len * sz := by rw [← hr.length]; exact hlen
    have hle : n * sz ≤ len * sz := Nat.mul_le_mul_right _ hn'
    refine run_firstCells_some w' sz n addr len c _ (by simp; omega) fun j v hj => ?_
    have hjl : j < n * sz := by
      have := (List.getElem?_eq_some_iff.1 hj).1
      simp at this; omega
    rw [List.getElem?_take_of_lt hjl] at hj
    exact hrd addr rfl (by omega) w' hs j v hj
  case s l s hs =>
    obtain ⟨rfl, hK⟩ := hk
    refine ⟨_, _, s.data.toList.map (fun b => Value.int .u8 b.toNat), hK, ?_, by simp, fun w' => by simp [Builtin.lenOf, str_len hs], fun n hn w' hsm => ?_⟩
    · subst hs
      have : ∀ l : List UInt8, VRels μ (l.map byteAV) (l.map (fun b => Value.int .u8 b.toNat)) := fun l => by
        induction l with
        | nil => exact .nil
        | cons c l ih => exact .cons _ _ _ _ (.i _ _) ih
      exact this _
    · simp only [Builtin.firstCells, Sem.run_pure, Nat.mul_one]
      congr 1
      apply Array.ext'
      simp only [Array.toList_map]
      rw [extract_toList]
      simp [List.map_take]

/-- The types of an append: a slice, and a slice or a string behind it. -/
structure AppT (P : Program) (t tx el : TypeId) (i : TypeInfo) (z : Value) : Prop where
  ht : P.underlying t = some (.slice el)
  htx : (∃ e, P.underlying tx = some (.slice e)) ∨ P.underlying tx = some .string
  hi : P.info? el = some i
  hz : i.zero = some z

theorem run_app_fits {t tx ty el : TypeId} {i : TypeInfo} {z : Value} (T : AppT P t tx el i z) {a : Addr} {sLen sCap k : Nat} {cx : Value} {new : Array Value} {w w2 : World}
    (hlo : ∀ w', (Builtin.lenOf cx).run P w' = .ok k w') (hn : sLen + k ≤ sCap) (hfc : (Builtin.firstCells i.size k cx).run P w = .ok new w) (hst : (storeCells (a.add (sLen * i.size)) new.toList).run P w = .ok () w2) :
    (Builtin.append_ #[t, tx] ty #[.slice (some a) sLen sCap, cx]).run P w = .ok (.slice (some a) (sLen + k) sCap) w2 := by
  rcases T.htx with ⟨e, he⟩ | he <;>
  simp [Builtin.append_, run_und T.ht, run_und he, sizeOf, typeInfo, T.hi, hlo, hn, hfc, hst]

theorem run_app_nothing {t tx ty el : TypeId} {i : TypeInfo} {z : Value} (T : AppT P t tx el i z) {sLen sCap : Nat} {cx : Value} {w : World} {a : Option Addr} (hsc : sLen ≤ sCap)
    (hlo : ∀ w', (Builtin.lenOf cx).run P w' = .ok 0 w') (hfc : (Builtin.firstCells i.size 0 cx).run P w = .ok #[] w) :
    (Builtin.append_ #[t, tx] ty #[.slice a sLen sCap, cx]).run P w = .ok (.slice a sLen sCap) w := by
  rcases T.htx with ⟨e, he⟩ | he <;> cases a <;>
  simp [Builtin.append_, run_und T.ht, run_und he, sizeOf, typeInfo, T.hi, hlo, hsc, hfc, storeCells]

theorem run_app_grow {t tx ty el : TypeId} {i : TypeInfo} {z : Value} (T : AppT P t tx el i z) {a : Option Addr} {sLen sCap k : Nat} {cx : Value} {new old : Array Value} {w : World}
    (hlo : ∀ w', (Builtin.lenOf cx).run P w' = .ok k w') (hn : sCap < sLen + k) (h63 : ((sLen + k : Nat) : Int) ≤ 9223372036854775807) (hb : (sLen + k) * i.bytes ≤ 140737488355328)
    (hfc : (Builtin.firstCells i.size k cx).run P w.drew = .ok new w.drew) (hfo : (Builtin.firstCells i.size sLen (.slice a sLen sCap)).run P w.drew = .ok old w.drew) :
    (Builtin.append_ #[t, tx] ty #[.slice a sLen sCap, cx]).run P w = .ok (.slice (some ⟨w.heap.size, 0, none⟩) (sLen + k) (grownCap w (sLen + k) sCap el))
      (w.drew.alloc (.cells (old ++ new ++ Builtin.zeroCells z.cells (grownCap w (sLen + k) sCap el - (sLen + k))) el)) := by
  have hn' : ¬ (sLen + k ≤ sCap) := by omega
  have h63' : ¬ (9223372036854775807 < ((sLen : Int) + (k : Int))) := by omega
  have h48 := growslice_fits hn hb
  have h48' : ¬ (281474976710656 < Builtin.nextslicecap (sLen + k) sCap * i.bytes) := by omega
  rcases T.htx with ⟨e, he⟩ | he <;>
  simp [Builtin.append_, run_und T.ht, run_und he, sizeOf, typeInfo, zeroValue, T.hi, T.hz, hlo, hn', h63', h48', Question.forced, hfc, hfo, newRow, grownCap, -Array.append_assoc, -Array.toList_append]

theorem size_zeroCells (zero : Array Value) (n : Nat) : (Builtin.zeroCells zero n).size = n * zero.size := by simp [Builtin.zeroCells]

theorem le_grownCap (w : World) (need old : Nat) (e : TypeId) : need ≤ grownCap w need old e := by simp [grownCap, Question.cut]

end
end Go.GAM
