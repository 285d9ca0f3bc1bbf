/- All operations that make or write memory; calls; one operation. -/
import Derived.Test.YtffgchcidkapjaaDoorAm8
import Derived.TacticsIn
import Derived.OrdersIn
import Derived.RangeFuncLeaves
import Derived.RangeFuncRecord
set_option linter.unusedVariables false
set_option linter.unusedSimpArgs false
namespace Go.GAM

section
variable {P : Program} {w0 : World} {Fz : Nat → Prop} {μ : Mu} {own : Nat → Option Nat} {h : AHeap} {w : World}

/-- A call, at the model: it comes to a value and a world of which 'post' holds. -/
def CallOK (P : Program) (f : FuncId) (cargs : List Value) (w : World) (post : Value → World → Prop) : Prop :=
  (∃ g as, (callFunc f cargs.toArray).run P w = .ok (.enter g as) w ∧ Calls P g as w fun e w' => ∃ v, e = .returned v ∧ post v w') ∨
  (∃ v, (callFunc f cargs.toArray).run P w = .ok (.value v) w ∧ post v w)

def PostOf (w0 : World) (Fz : Nat → Prop) (μ : Mu) (K : AV → AHeap → Prop) (cv : Value) (w' : World) : Prop :=
  ∃ v μ' own' h', K v h' ∧ VRel μ' v cv ∧ Rel w0 Fz μ' own' h' w' ∧ Sub μ μ'

/-- The fence about nothing, in a frame or in a round. -/
abbrev FR (r : Option Nat) : Fence := { fn := fun _ => True, depth := none, alive := false, round := r }

/-- A call of yield: one round. -/
def YieldOK (P : Program) (l : Nat) (cargs : List Value) (w : World) (post : Value → World → Prop) : Prop :=
  ∃ f tmps assign body, (Instr.yield l cargs.toArray).run P w = .ok (.round l f tmps assign body) w ∧ RoundIn (FR none) 0 P l f tmps assign body w fun e w' => ∃ v, e = .returned v ∧ post v w'

def SimAt (P : Program) (w0 : World) (Fz : Nat → Prop) (μb : Mu) (f : FuncId) (args : List AV) (h : AHeap) (K : AV → AHeap → Prop) : Prop :=
  ∀ (μ : Mu) (own : Nat → Option Nat) (w : World) (cargs : List Value), Sub μb μ → Rel w0 Fz μ own h w → VRels μ args cargs →
    if f < yid0 then CallOK P f cargs w (PostOf w0 Fz μ K) else YieldOK P (f - yid0) cargs w (PostOf w0 Fz μ K)
def SimC (P : Program) (f : FuncId) (args : List AV) (h : AHeap) (K : AV → AHeap → Prop) : Prop := ∀ (w0 : World) (Fz : Nat → Prop) (μb : Mu), SimAt P w0 Fz μb f args h K

theorem flatten_getD (zs : List AV) : ∀ (n j : Nat), j < n * zs.length → (List.replicate n zs).flatten.getD j .u = zs.getD (j % zs.length) .u
  | 0, j, h => by simp at h
  | n + 1, j, h => by
    rw [List.replicate_succ, List.flatten_cons]
    by_cases hj : j < zs.length
    · rw [List.getD_eq_getElem?_getD, List.getElem?_append_left hj, Nat.mod_eq_of_lt hj, List.getD_eq_getElem?_getD]
    · rw [List.getD_eq_getElem?_getD, List.getElem?_append_right (by omega), ← List.getD_eq_getElem?_getD, flatten_getD zs n (j - zs.length) (by rw [Nat.add_mul] at h; omega)]
      congr 1
      conv => rhs; rw [Nat.mod_eq_sub_mod (by omega)]

theorem made_rel {zs : List AV} {z : Array Value} (hz : VRels μ zs z.toList) (n : Nat) (hs : 0 < zs.length) : VRels μ (List.replicate n zs).flatten ((Array.range (n * zs.length)).map (z[· % z.size]!)).toList := by
  have hl := hz.length
  refine VRels.of_get (by simp) fun j hj => ?_
  have hj' : j < n * zs.length := by simpa using hj
  have hm : j % zs.length < zs.length := Nat.mod_lt _ hs
  obtain ⟨v, h1, h2⟩ := hz.get? hm
  refine ⟨v, ?_, by rw [flatten_getD zs n j hj']; exact h2⟩
  have hzs : z.size = zs.length := by simpa using hl.symm
  have hg : z[j % z.size]! = v := by
    rw [hzs]
    have hlt : j % zs.length < z.size := by omega
    rw [getElem!_pos z _ hlt]
    have : z.toList[j % zs.length]? = some z[j % zs.length] := by simp [hlt]
    exact Option.some.inj (this.symm.trans h1)
  simp [hj', hg]

theorem alloc_sound (R : Rel w0 Fz μ own h w) {t : TypeId} {zs : List AV} {K : AV → AHeap → Prop} (hz : zeroO P t = some zs) (hk : pAlloc zs h K) : After P w0 Fz μ w K (Instr.alloc t true (.tuple #[])) := by
  obtain ⟨i, z, hi, hzz, hzr⟩ := zero_rel hz μ
  have hl := hzr.length
  obtain ⟨A1, A2, A3⟩ := R.alloc (cells := zs) (sz := 1) (cap := zs.length) (ex := true) (c := z.cells) (el := t) (fr := (0, 0)) (by rw [List.take_of_length_le (by omega)]; exact hzr) (Nat.le_refl _) (by simp at hl; omega) (fun _ => rfl) (by simp)
  refine ⟨_, .pointer (some ⟨w.heap.size, 0, none⟩), _, _, _, _, hk, .p ⟨h.length, zs.length, 0⟩ ⟨w.heap.size, 0, zs.length, 1⟩ 0 A3 rfl, A1, A2, ?_⟩
  simp [Instr.alloc, run_zero hi hzz, newVar, newRow]

theorem box_sound (R : Rel w0 Fz μ own h w) {t : TypeId} {x : AV} {cx : Value} {K : AV → AHeap → Prop} (hx : VRel μ x cx) (hk : pBox x h K) : After P w0 Fz μ w K (Instr.box t cx) := by
  obtain ⟨hs, hk⟩ := hk
  have hp := parts_rel hx hs
  have hl := hp.length
  obtain ⟨A1, A2, A3⟩ := R.alloc (cells := x.parts) (sz := 1) (cap := x.parts.length) (ex := true) (c := cx.cells) (el := t) (fr := (0, 0)) (by rw [List.take_of_length_le (by omega)]; exact hp) (Nat.le_refl _) (by simp at hl; omega) (fun _ => rfl) (by simp)
  refine ⟨_, .pointer (some ⟨w.heap.size, 0, none⟩), _, _, _, _, hk, .p ⟨h.length, x.parts.length, 0⟩ ⟨w.heap.size, 0, x.parts.length, 1⟩ 0 A3 rfl, A1, A2, ?_⟩
  simp [Instr.box, newVar, newRow]

theorem store_sound (R : Rel w0 Fz μ own h w) {t : TypeId} {r : Bool} {x v : AV} {cx cv : Value} {K : AHeap → Prop} (ht : isAggT P t = some r) (hx : VRel μ x cx) (hv : VRel μ v cv) (hk : pStore (P.cellsOf t) x v h K) :
    ∃ h' w', K h' ∧ Rel w0 Fz μ own h' w' ∧ (Instr.storeAt t cx cv).run P w = .ok () w' := by
  obtain ⟨d, hd⟩ := (isAggT_some ht default).2
  cases hx <;> first | exact hk.elim | skip
  rename_i a l o hl ho
  subst ho
  obtain ⟨b, hb, hro, hfv, hver, hoff, hso, hlen, hok, hk⟩ := hk
  have hlv : b.floor ≤ b.cells.length := by omega
  rw [hver] at hl
  have hk0 := R.cur hb hlv hl
  have hp := parts_rel hv hso
  have hpl := hp.length
  have hroom := R.room hk0 hro (off := a.off) (n := v.parts.length) (by have := hk0.len; omega)
  have hst := run_storeCells_cells (P := P) l.B (l.base + a.off) cv.cells.toList 0 w (by rw [← hpl]; simpa using hroom.1) (by rw [← hpl]; simpa using hroom.2) (cellsOK_one hp hok)
  have hsz : cv.cells.size = P.cellsOf t := by simp at hpl; omega
  refine ⟨_, _, hk, R.write hb hlv hk0 hro hp (off := a.off) (by omega), ?_⟩
  simp [Instr.storeAt, Instr.sureAddr, storeVar, run_sizeOf hd, hsz, hst]

theorem make_sound (R : Rel w0 Fz μ own h w) {t el : TypeId} {zs : List AV} {l c : AV} {cl cc : Value} {K : AV → AHeap → Prop} (ht : P.underlying t = some (.slice el)) (hz : zeroO P el = some zs) (hl : VRel μ l cl) (hc : VRel μ c cc)
    (hk : pMake (P.cellsOf el) (P.bytesOf el) zs l c h K) : After P w0 Fz μ w K (Instr.makeSlice t cl cc) := by
  obtain ⟨i, z, hi, hzz, hzr⟩ := zero_rel hz μ
  have hcs : P.cellsOf el = i.size := by simp [Program.cellsOf, hi]
  have hbs : P.bytesOf el = i.bytes := by simp [Program.bytesOf, hi]
  rw [hcs, hbs] at hk
  cases hl <;> first | exact hk.elim | skip
  cases hc <;> first | exact hk.elim | skip
  rename_i kl nl kc nc
  obtain ⟨h0, h1, h2, h3, h4, h5, hk⟩ := hk
  have hrun := run_make (P := P) w t el i z ht hi hzz kl kc nl nc h0 h1 h2 h3
  have hr := made_rel hzr nc.toNat (by omega)
  rw [h4] at hr
  have hlen : (List.replicate nc.toNat zs).flatten.length = nc.toNat * i.size := by simp [h4]
  obtain ⟨A1, A2, A3⟩ := R.alloc (cells := (List.replicate nc.toNat zs).flatten) (sz := i.size) (cap := nc.toNat * i.size) (ex := true) (c := madeCells z.cells (nc.toNat * i.size)) (el := el) (fr := (0, 0))
    (by rw [List.take_of_length_le (by rw [hlen]; simp [size_madeCells])]; exact hr) (by omega) (by rw [size_madeCells]; omega) (fun _ => hlen.symm) (by simp)
  rw [hlen] at A1 A2 A3
  refine ⟨_, _, _, _, _, _, hk, ?_, A1, A2, hrun⟩
  exact .sl _ _ none nc.toNat _ _ A3 (by omega) (by simp) (fun _ => by simp) (fun _ h => by cases h) (fun _ => rfl)

theorem strBytes_sound (R : Rel w0 Fz μ own h w) {src dst el : TypeId} {x : AV} {cx : Value} {K : AV → AHeap → Prop} (h1 : P.underlying src = some .string) (h2 : P.underlying dst = some (.slice el)) (h3 : P.underlying el = some (.int .u8))
    (hx : VRel μ x cx) (hk : pStrBytes x h K) : After P w0 Fz μ w K (convert src dst cx) := by
  cases hx <;> first | exact hk.elim | skip
  rename_i l s hs
  have hrun := run_bytes_of_string w src dst el s h1 h2 h3
  have hcap := le_grownCap w s.size 0 el
  generalize grownCap w s.size 0 el = gc at *
  have hsl := str_len hs
  have hsize : (bytesRow s gc).size = gc := by
    have : s.data.size = s.size := rfl
    simp [bytesRow, this]; omega
  rw [hsize] at hrun
  have hrel : VRels μ (l.map byteAV) ((bytesRow s gc).toList.take (l.map byteAV).length) := by
    have e : (bytesRow s gc).toList.take (l.map byteAV).length = l.map (fun b => Value.int .u8 b.toNat) := by
      subst hs
      simp [bytesRow, List.take_append_of_le_length]
    rw [e]
    have : ∀ l : List UInt8, VRels μ (l.map byteAV) (l.map (fun b => Value.int .u8 b.toNat)) := fun l => by
      induction l with
      | nil => exact .nil
      | cons c l ih => exact .cons _ _ _ _ (.i _ _) ih
    exact this _
  obtain ⟨A1, A2, A3⟩ := R.drew.alloc (cells := l.map byteAV) (sz := 1) (cap := gc) (ex := false) (c := bytesRow s gc) (el := el) (fr := (gc, gc + 1)) hrel (by simp; omega) (by omega) (by simp) (by intro j hj; simp; omega)
  have hlm : (l.map byteAV).length = l.length := by simp
  rw [hlm] at A1 A2 A3
  refine ⟨_, _, _, _, _, _, hk, ?_, A1, A2, hrun⟩
  rw [hsl]
  exact .sl _ _ none gc _ _ A3 (by omega) (by simp) (fun _ => by simp) (fun _ h => by cases h) (fun _ => rfl)

theorem buildSl_sound (R : Rel w0 Fz μ own h w) {t el : TypeId} {len : Nat} {zs : List AV} {parts : List (Nat × AV)} {cparts : Array (Nat × Value)} {K : AV → AHeap → Prop} (ht : P.underlying t = some (.slice el)) (hz : zeroO P el = some zs)
    (h0 : 0 < P.cellsOf el) (hlim : len * P.cellsOf el ≤ 16777216) (hzl : zs.length = P.cellsOf el)
    (hlen : parts.length = cparts.toList.length) (hrel : ∀ (i : Nat) (x : Nat × AV) (y : Nat × Value), parts[i]? = some x → cparts.toList[i]? = some y → x.1 = y.1 ∧ VRel μ x.2 y.2)
    (hk : pBuildSl (P.cellsOf el) len (List.replicate len zs).flatten (parts.map fun (i, x) => (i * P.cellsOf el, P.cellsOf el, x)) h K) : After P w0 Fz μ w K (Instr.buildSlice t len cparts) := by
  obtain ⟨i, z, hi, hzz, hzr⟩ := zero_rel hz μ
  have hcs : P.cellsOf el = i.size := by simp [Program.cellsOf, hi]
  rw [hcs] at hk h0 hlim hzl
  have hpr : ∀ (pl : List (Nat × AV)) (cl : List (Nat × Value)), pl.length = cl.length → (∀ (i : Nat) (x : Nat × AV) (y : Nat × Value), pl[i]? = some x → cl[i]? = some y → x.1 = y.1 ∧ VRel μ x.2 y.2) →
      PartsRel μ (fun j => some (j * i.size, i.size)) (pl.map fun (j, x) => (j * i.size, i.size, x)) cl := by
    intro pl
    induction pl with
    | nil => intro cl h1 _; cases cl <;> first | exact .nil | simp at h1
    | cons x pl ih =>
      intro cl h1 h2
      cases cl with
      | nil => simp at h1
      | cons y cl =>
        obtain ⟨e1, e2⟩ := h2 0 x y rfl rfl
        obtain ⟨xi, xv⟩ := x
        obtain ⟨yi, yv⟩ := y
        simp only at e1 e2
        subst e1
        exact .cons _ _ _ _ _ _ _ rfl e2 (ih cl (by simpa using h1) (fun i x y hx hy => h2 (i + 1) x y hx hy))
  unfold pBuildSl at hk
  cases hf : fillA (List.replicate len zs).flatten (parts.map fun (j, x) => (j * i.size, i.size, x)) with
  | none => rw [hf] at hk; exact hk.elim
  | some out =>
    rw [hf] at hk
    obtain ⟨ho, hk⟩ := hk
    have hmr := made_rel hzr len (by omega)
    rw [hzl] at hmr
    obtain ⟨res, hr1, hr2⟩ := fill_sound (hpr parts cparts.toList hlen hrel) _ ((Array.range (len * i.size)).map (z.cells[· % z.cells.size]!)) out hmr hf
    have hrl : out.length = res.size := by have := hr2.length; simpa using this
    obtain ⟨A1, A2, A3⟩ := R.alloc (cells := out) (sz := i.size) (cap := out.length) (ex := true) (c := res) (el := el) (fr := (0, 0)) (by rw [List.take_of_length_le (by simp; omega)]; exact hr2) (Nat.le_refl _) (by omega) (fun _ => rfl) (by simp)
    refine ⟨_, .slice (some ⟨w.heap.size, 0, none⟩) len len, _, _, _, _, hk, ?_, A1, A2, ?_⟩
    · exact .sl _ _ none len _ _ A3 (Nat.le_refl _) (by simp [ho]) (fun _ => by simp [ho]) (fun _ h => by cases h) (fun _ => rfl)
    · have hlim' : ¬ (2 ^ 24 < len * i.size) := by omega
      simp only [Instr.buildSlice, Sem.run_bind, run_und ht, Result.andThen_ok, sizeOf, typeInfo, run_program, hi, Sem.run_pure, gt_iff_lt, if_neg hlim']
      by_cases hl0 : len * i.size = 0
      · have he : ∀ f : Nat → Value, (Array.range (len * i.size)).map f = #[] := fun f => Array.eq_empty_of_size_eq_zero (by simp only [Array.size_map, Array.size_range]; exact hl0)
        rw [he] at hr1
        rw [if_pos hl0]
        simp only [he, Sem.run_pure, Result.andThen_ok, hr1]
        simp [newRow]
      · simp only [if_neg hl0, Sem.run_bind, run_zero hi hzz, Sem.run_pure, Result.andThen_ok, hr1]
        simp [newRow]

end
end Go.GAM
