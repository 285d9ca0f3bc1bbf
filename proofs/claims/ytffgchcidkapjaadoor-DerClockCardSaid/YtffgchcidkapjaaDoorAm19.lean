/- The start: a world as it comes in, as blocks that are only read; a law's call. -/
import Derived.Test.YtffgchcidkapjaaDoorAm18
import Derived.Below
set_option linter.unusedVariables false
set_option linter.unusedSimpArgs false
namespace Go.GAM
open Go.RowKit

def absV1 (w : World) (szOf : Nat → Nat) : Value → AV
  | .bool x => .b x
  | .int k n => .i k n
  | .string s => .s s.data.toList
  | .pointer none => .p none
  | .pointer (some a) => match w.shape? a.block, a.spot with
    | some (_, n), none => .p (some ⟨a.block, n, a.off⟩)
    | _, _ => .u
  | .slice none 0 0 => .sl none 0 none
  | .slice (some a) len cap => if cap = 0 then (if len = 0 then .sl (some ⟨w.heap.size, 0, 0⟩) 0 (some 0) else .u) else
    match w.shape? a.block, a.spot with
    | some (_, n), none => if len ≤ cap ∧ a.off + cap * szOf a.block ≤ n then .sl (some ⟨a.block, n, a.off⟩) len (some cap) else .u
    | _, _ => .u
  | .nilFunc => .nf
  | .nilIface => .ni
  | .map none => .mp none
  | _ => .u

def absV (w : World) (szOf : Nat → Nat) : Value → AV
  | .agg cs => .ag (cs.toList.map (absV1 w szOf))
  | .iface t v => .ifc t (absV1 w szOf v)
  | v => absV1 w szOf v

def blkC (w : World) (szOf : Nat → Nat) (B : Nat) : ABlk := match w.heap[B]? with
  | some (.cells c _ _) => ⟨c.toList.map (absV w szOf), szOf B, c.size, false, true, true⟩
  | _ => dead
def heapC (w : World) (szOf : Nat → Nat) : AHeap := (List.range w.heap.size).map (blkC w szOf) ++ [dead]
def muC (w : World) (szOf : Nat → Nat) : Mu := fun id ver =>
  if id = w.heap.size then (if ver = 0 then some ⟨0, 0, 0, 1⟩ else none) else
  match w.shape? id with
  | some (_, n) => if ver = n then some ⟨id, 0, n, szOf id⟩ else none
  | none => none
def ownC (w : World) : Nat → Option Nat := fun B => if (w.shape? B).isSome then some B else none

section
variable {w : World} {szOf : Nat → Nat}

theorem shape_some {B : Nat} {t : TypeId} {n : Nat} (h : w.shape? B = some (t, n)) : ∃ c fr, w.heap[B]? = some (.cells c t fr) ∧ c.size = n := by
  unfold World.shape? at h
  split at h
  · rename_i c el fr hh
    simp only [Option.some.injEq, Prod.mk.injEq] at h
    obtain ⟨rfl, rfl⟩ := h
    exact ⟨c, fr, hh, rfl⟩
  · cases h
theorem shape_lt {B : Nat} {x : TypeId × Nat} (h : w.shape? B = some x) : B < w.heap.size := by
  obtain ⟨c, fr, hh, _⟩ := shape_some (t := x.1) (n := x.2) h
  exact (Array.getElem?_eq_some_iff.1 hh).1
theorem muC_is {B : Nat} {t : TypeId} {n : Nat} (h : w.shape? B = some (t, n)) : muC w szOf B n = some ⟨B, 0, n, szOf B⟩ := by
  have := shape_lt h
  unfold muC
  rw [if_neg (by omega), h]
  simp

theorem absV1_rel (v : Value) : VRel (muC w szOf) (absV1 w szOf v) v := by
  cases v <;> first | exact .u _ | exact .b _ | exact .i _ _ | exact .s _ _ rfl | exact .nf | exact .ni | skip
  case pointer a =>
    cases a with
    | none => exact .pn
    | some a =>
      obtain ⟨B, off, spot⟩ := a
      simp only [absV1]
      split
      · rename_i t n hs
        exact .p _ _ _ (muC_is hs) (by simp)
      · exact .u _
  case slice a len cap =>
    cases a with
    | none =>
      cases len with
      | succ l => exact .u _
      | zero => cases cap with
        | succ c => exact .u _
        | zero => exact .sn
    | some a =>
      obtain ⟨B, off, spot⟩ := a
      simp only [absV1]
      split
      · rename_i hc
        subst hc
        split
        · rename_i hl
          subst hl
          exact .sl _ _ _ 0 _ ⟨0, 0, 0, 1⟩ (by unfold muC; simp) (Nat.le_refl _) (by simp) (by simp) (by simp) (by simp)
        · exact .u _
      · split
        · rename_i t n hs
          split
          · rename_i hl
            exact .sl _ _ _ cap _ _ (muC_is hs) hl.1 hl.2 (by simp) (by simp) (by simp)
          · exact .u _
        · exact .u _
  case map r => cases r <;> first | exact .mpn | exact .u _

theorem absV1s_rel : ∀ vs : List Value, VRels (muC w szOf) (vs.map (absV1 w szOf)) vs
  | [] => .nil
  | v :: vs => .cons _ _ _ _ (absV1_rel v) (absV1s_rel vs)
theorem absV_rel (v : Value) : VRel (muC w szOf) (absV w szOf v) v := by
  cases v <;> simp only [absV] <;> first | exact absV1_rel _ | exact .ag _ _ (absV1s_rel _) | exact .ifc _ _ _ (absV1_rel _)
theorem absVs_rel : ∀ vs : List Value, VRels (muC w szOf) (vs.map (absV w szOf)) vs
  | [] => .nil
  | v :: vs => .cons _ _ _ _ (absV_rel v) (absVs_rel vs)

theorem heapC_at {B : Nat} (h : B < w.heap.size) : (heapC w szOf)[B]? = some (blkC w szOf B) := by
  unfold heapC
  rw [List.getElem?_append_left (by simpa using h)]
  simp [h]
theorem heapC_len : (heapC w szOf).length = w.heap.size + 1 := by simp [heapC]

theorem canon_rel (w : World) (szOf : Nat → Nat) : Rel w (fun B => B < w.heap.size) (muC w szOf) (ownC w) (heapC w szOf) w where
  os := rfl
  tape := rfl
  output := rfl
  size0 := Nat.le_refl _
  fz := fun B hB => ⟨hB, rfl⟩
  ownlt := fun B id h => by
    unfold ownC at h
    split at h
    · rename_i hs
      obtain ⟨x, hx⟩ := Option.isSome_iff_exists.1 hs
      exact shape_lt hx
    · cases h
  mulen := fun id ver l h => by
    unfold muC at h
    split at h
    · rename_i he
      subst he
      exact ⟨dead, by simp [heapC], by simp [dead]⟩
    · split at h
      · rename_i t n hs
        obtain ⟨c, fr, hh, hc⟩ := shape_some hs
        refine ⟨blkC w szOf id, heapC_at (shape_lt hs), fun _ => ?_⟩
        split at h
        · rename_i hv
          unfold blkC
          rw [hh]
          simp [hv, hc]
        · cases h
      · cases h
  blk := fun id b hb hl => by
    rcases Nat.lt_or_ge id w.heap.size with hi | hi
    · rw [heapC_at hi] at hb
      cases hb
      unfold blkC at hl ⊢
      split at hl
      · rename_i c el fr hh
        have hs : w.shape? id = some (el, c.size) := by unfold World.shape?; rw [hh]
        refine ⟨⟨id, 0, c.size, szOf id⟩, ?_⟩
        have hlen : (c.toList.map (absV w szOf)).length = c.size := by simp
        refine { cur := by simp only [hlen]; exact muC_is hs, owned := by simp [ownC, hs], sz := rfl, len := by simp, ex := by simp, ro := by simp, gl := by simp, row := ⟨c, el, fr, hh, by simp⟩, free := by simp, vers := fun ver h1 h2 l' hl' => ?_ }
        have hv : ver = c.size := by simp only [hlen] at h2; simp only at h1; omega
        subst hv
        rw [muC_is hs] at hl'
        cases hl'
        refine { own := by simp [ownC, hs], sz := rfl, le := Nat.le_refl _, base := fun _ => rfl, cells := fun j hj => ?_ }
        refine ⟨c[j], by simp [World.cell?, hh, hj], ?_⟩
        have e : (c.toList.map (absV w szOf)).getD j .u = absV w szOf c[j] := by simp [List.getD, hj]
        simp only [e]
        exact absV_rel _
      · exact absurd hl (by simp [dead])
    · exfalso
      rcases Nat.lt_or_ge id (w.heap.size + 1) with h2 | h2
      · have : id = w.heap.size := by omega
        subst this
        simp [heapC] at hb
        subst hb
        simp [dead] at hl
      · rw [List.getElem?_eq_none (by rw [heapC_len]; omega)] at hb; cases hb

/-- A slice that came in, its cells known. -/
theorem canon_slice {x : Addr} {len cap sz : Nat} {vs : List Value} (hl : len ≤ cap) (hc0 : cap ≠ 0) (hz : 0 < sz) (hs : szOf x.block = sz) (hlen : vs.length = cap * sz) (hv : ∀ i, i < vs.length → w.cell? (x.add i) = some (vs.getD i undef)) :
    ∃ ver b, absV w szOf (.slice (some x) len cap) = .sl (some ⟨x.block, ver, x.off⟩) len (some cap) ∧ RdAt sz (heapC w szOf) x.block ver x.off b ((vs.take (len * sz)).map (absV w szOf)) len ∧ b.ro = true := by
  obtain ⟨B, off, spot⟩ := x
  simp only at hs ⊢
  have hpos : 0 < vs.length := by rw [hlen]; exact Nat.mul_pos (by omega) hz
  have cellAdd : ∀ i v, spot = none → w.cell? ((⟨B, off, spot⟩ : Addr).add i) = some v → ∃ c el fr, w.heap[B]? = some (.cells c el fr) ∧ c[off + i]? = some v := by
    intro i v hs h
    subst hs
    have e : (⟨B, off, none⟩ : Addr).add i = ⟨B, off + i, none⟩ := by
      unfold Addr.add
      by_cases hi : i = 0
      · subst hi; simp
      · simp [hi]
    rw [e] at h
    unfold World.cell? at h
    split at h
    · rename_i c el fr hh
      exact ⟨c, el, fr, hh, by simpa using h⟩
    · cases h
  have hsp : spot = none := by
    have h0 := hv 0 hpos
    unfold World.cell? at h0
    split at h0
    · cases spot with
      | none => rfl
      | some s => simp [Addr.add] at h0
    · cases h0
  subst hsp
  obtain ⟨c, el, fr, hh, _⟩ := cellAdd 0 _ rfl (hv 0 hpos)
  · have hcell : ∀ i, i < vs.length → c[off + i]? = some (vs.getD i undef) := fun i hi => by
      obtain ⟨c', el', fr', h1, h2⟩ := cellAdd i _ rfl (hv i hi)
      rw [hh] at h1; cases h1; exact h2
    have hsize : off + cap * sz ≤ c.size := by
      have := hcell (vs.length - 1) (by omega)
      have := (Array.getElem?_eq_some_iff.1 this).1
      omega
    have hshape : w.shape? B = some (el, c.size) := by unfold World.shape?; rw [hh]
    have hlc : len * sz ≤ cap * sz := Nat.mul_le_mul_right _ hl
    refine ⟨c.size, blkC w szOf B, ?_, ⟨heapC_at (shape_lt hshape), ?_, ?_, ?_, by omega, ?_⟩, ?_⟩
    · simp only [absV, absV1]
      rw [if_neg hc0, hshape]
      simp only
      rw [if_pos ⟨hl, by rw [hs]; exact hsize⟩]
    · unfold blkC; rw [hh]; exact hs
    · unfold blkC; rw [hh]; exact Nat.le_refl _
    · unfold blkC; rw [hh]; simp
    · unfold blkC; rw [hh]
      simp only
      apply List.ext_getElem?
      intro i
      by_cases hi : i < len * sz
      · rw [List.getElem?_take_of_lt hi, List.getElem?_drop, List.getElem?_map, Array.getElem?_toList, hcell i (by omega), List.getElem?_map, List.getElem?_take_of_lt hi]
        rw [List.getD_eq_getElem?_getD, List.getElem?_eq_getElem (by omega : i < vs.length)]
        rfl
      · rw [List.getElem?_eq_none (by simp; omega), List.getElem?_eq_none (by simp; omega)]
    · unfold blkC; rw [hh]

end

def Yes : AV → AHeap → Prop := fun v _ => v = .b true
theorem kRet_yes {h0 h : AHeap} : kRet h0 Yes (.b true) h := .inl rfl

/-- A law that returns true, in the abstract machine and so in the model. -/
theorem law_calls {P : Program} {X : CallR} (hm : P.follows .mixedOrders = true) (hsz : P.funcs.size ≤ yid0) (hX : Sound P X) {f : FuncId} (hb : bodyOK P f = true) {w : World} {szOf : Nat → Nat} {as : List AV} {args : Array Value}
    (hv : VRels (muC w szOf) as args.toList) (hk : acall P X f as (heapC w szOf) Yes) : Calls P f args w fun e w' => e = .returned (.bool true) ∧ Below w.heap.size w w' := by
  have hlt : f < yid0 := by
    unfold bodyOK at hb
    split at hb
    · rename_i fn hf; exact Nat.lt_of_lt_of_le (Array.getElem?_eq_some_iff.1 hf).1 hsz
    · cases hb
  have hs := acall_sound hm hsz hX w (fun B => B < w.heap.size) (fun _ _ => none) f as _ _ hk (muC w szOf) (ownC w) w args.toList (fun _ _ _ h => by cases h) (canon_rel w szOf) hv
  rw [if_pos hlt] at hs
  have hrun := bodyOK_run hb args w
  rcases hs with ⟨g, as', h1, h2⟩ | ⟨v, h1, h2⟩
  · rw [Array.toArray_toList, hrun] at h1
    cases h1
    refine h2.mono fun e w' ⟨v, he, v', μ', own', h', g1, g2, g3, g4⟩ => ?_
    subst he
    have g1 : v' = .b true := g1
    subst g1
    cases g2
    exact ⟨rfl, g3.os, g3.tape, g3.output, g3.size0, fun k hk => (g3.fz k hk).2⟩
  · rw [Array.toArray_toList, hrun] at h1; cases h1

end Go.GAM
