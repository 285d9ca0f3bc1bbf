/- append and copy. -/
import Derived.Test.YtffgchcidkapjaaDoorAm7
set_option linter.unusedVariables false
set_option linter.unusedSimpArgs false
namespace Go.GAM

section
variable {P : Program} {w0 : World} {Fz : Nat → Prop} {μ : Mu} {own : Nat → Option Nat} {h : AHeap} {w : World}

def After (P : Program) (w0 : World) (Fz : Nat → Prop) (μ : Mu) (w : World) (K : AV → AHeap → Prop) (s : Sem Value) : Prop :=
  ∃ v cv μ' own' h' w', K v h' ∧ VRel μ' v cv ∧ Rel w0 Fz μ' own' h' w' ∧ Sub μ μ' ∧ s.run P w = .ok cv w'

theorem Same.drew (w : World) : Same w w.drew := fun _ _ => rfl

/-- A new array for what was there and what is appended. -/
theorem grow_alloc (R : Rel w0 Fz μ own h w) {t tx ty el : TypeId} {i : TypeInfo} {z : Value} (T : AppT P t tx el i z) {sz : Nat} (hsz : i.size = sz) (h0 : 0 < sz) (hzl : z.cells.size = sz)
    {ao : Option Addr} {sLen sCap k : Nat} {cx : Value} {olds news : List AV} {vo vs : List Value} (ho : VRels μ olds vo) (hr : VRels μ news vs) (hol : olds.length = sLen * sz) (hnl : news.length = k * sz)
    (hlo : ∀ w', (Builtin.lenOf cx).run P w' = .ok k w') (hn : sCap < sLen + k) (h63 : ((sLen + k : Nat) : Int) ≤ 9223372036854775807) (hb : (sLen + k) * i.bytes ≤ 140737488355328)
    (hfc : (Builtin.firstCells sz k cx).run P w.drew = .ok vs.toArray w.drew) (hfo : (Builtin.firstCells sz sLen (.slice ao sLen sCap)).run P w.drew = .ok vo.toArray w.drew) :
    ∃ μ' own' w' cv, Rel w0 Fz μ' own' (h ++ [newBlk (olds ++ news) sz false]) w' ∧ Sub μ μ' ∧ VRel μ' (.sl (some ⟨h.length, (olds ++ news).length, 0⟩) (sLen + k) none) cv ∧
      (Builtin.append_ #[t, tx] ty #[.slice ao sLen sCap, cx]).run P w = .ok cv w' := by
  subst hsz
  have hrun := run_app_grow (ty := ty) T hlo hn h63 hb hfc hfo
  have hcap := le_grownCap w (sLen + k) sCap el
  generalize grownCap w (sLen + k) sCap el = gc at *
  have hvo := ho.length
  have hvs := hr.length
  have hall : VRels μ (olds ++ news) ((vo.toArray ++ vs.toArray ++ Builtin.zeroCells z.cells (gc - (sLen + k))).toList.take (olds ++ news).length) := by
    have e : (vo.toArray ++ vs.toArray ++ Builtin.zeroCells z.cells (gc - (sLen + k))).toList.take (olds ++ news).length = vo ++ vs := by
      simp only [Array.toList_append]
      rw [List.take_append_of_le_length (by simp; omega), List.take_of_length_le (by simp; omega)]
    rw [e]; exact ho.append hr
  have hsize : (vo.toArray ++ vs.toArray ++ Builtin.zeroCells z.cells (gc - (sLen + k))).size = gc * i.size := by
    simp only [Array.size_append, size_zeroCells, hzl, List.size_toArray, ← hvo, ← hvs, hol, hnl]
    rw [← Nat.add_mul, ← Nat.add_mul]
    congr 1; omega
  have hle : (olds ++ news).length ≤ gc * i.size := by
    simp only [List.length_append, hol, hnl, ← Nat.add_mul]
    exact Nat.mul_le_mul_right _ hcap
  obtain ⟨A1, A2, A3⟩ := R.drew.alloc (cells := olds ++ news) (sz := i.size) (cap := gc * i.size) (ex := false) (el := el) (fr := (0, 0)) hall hle (by omega) (by simp) (by simp)
  refine ⟨_, _, _, _, A1, A2, .sl _ _ _ gc _ _ A3 hcap (by simp) (fun _ => by simp) (fun _ h => by cases h) (fun _ => rfl), ?_⟩
  exact hrun

theorem app_sound (R : Rel w0 Fz μ own h w) {t tx ty el : TypeId} {s x : AV} {cs cx : Value} {K : AV → AHeap → Prop}
    (ht : P.underlying t = some (.slice el)) (htx : (∃ e, P.underlying tx = some (.slice e)) ∨ P.underlying tx = some .string) (hz : zeroOK P el = true)
    (hs : VRel μ s cs) (hx : VRel μ x cx) (hk : pAppend (P.cellsOf el) (P.bytesOf el) s x h K) : After P w0 Fz μ w K (Builtin.append_ #[t, tx] ty #[cs, cx]) := by
  unfold zeroOK at hz
  cases hz0 : zeroO P el with
  | none => rw [hz0] at hz; cases hz
  | some zs =>
  rw [hz0] at hz
  obtain ⟨i, z, hi, hzz, hzr⟩ := zero_rel hz0 μ
  have hcs : P.cellsOf el = i.size := by simp [Program.cellsOf, hi]
  have hbs : P.bytesOf el = i.bytes := by simp [Program.bytesOf, hi]
  have hzl : z.cells.size = i.size := by
    have h1 := hzr.length
    have h2 := Nat.eq_of_beq_eq_true hz
    simp at h1
    omega
  rw [hcs, hbs] at hk
  have T : AppT P t tx el i z := ⟨ht, htx, hi, hzz⟩
  obtain ⟨hsz, hk⟩ := hk
  have hk' := newsOf_sound (P := P) R hx hk
  clear hk
  obtain ⟨news, k, vs, hk, hr, hnl, hlo, hfc⟩ := hk'
  have hvl : vs.length = k * i.size := by rw [← hr.length]; exact hnl
  have hfck : ∀ w', Same w w' → (Builtin.firstCells i.size k cx).run P w' = .ok vs.toArray w' := fun w' hs => by
    have := hfc k (Nat.le_refl _) w' hs
    rwa [List.take_of_length_le (by omega)] at this
  cases hs <;> first | exact hk.elim | skip
  case sn =>
    obtain ⟨hb, h63, hk⟩ := hk
    by_cases h0 : k = 0
    · subst h0
      rw [if_pos rfl] at hk
      have hf0 := hfc 0 (Nat.le_refl _) w (Same.refl w)
      simp only [Nat.zero_mul, List.take_zero] at hf0
      exact ⟨_, _, μ, own, h, w, hk, .sn, R, Sub.refl _, run_app_nothing T (Nat.le_refl _) hlo hf0⟩
    · rw [if_neg h0] at hk
      obtain ⟨μ', own', w', cv, h1, h2, h3, h4⟩ := grow_alloc (ty := ty) R T rfl hsz hzl (ao := none) (sLen := 0) (sCap := 0) (olds := []) (vo := []) .nil hr (by simp) hnl hlo (by omega) (by simpa using h63) (by simpa using hb) (hfck _ (Same.drew w)) (by simp [Builtin.firstCells])
      simp only [List.nil_append, Nat.zero_add] at h1 h3
      exact ⟨_, cv, μ', own', _, w', hk, h3, h1, h2, h4⟩
  case sl a len capo c addr l hl hle hf hc hcs' ha =>
    obtain ⟨hb, h63, b, hbl, hbsz, hrd, hk⟩ := hk
    have hlv : b.floor ≤ b.cells.length := Nat.le_trans hrd.1 hrd.2.1
    obtain ⟨l0, hl0⟩ := R.blk _ _ hbl hlv
    have hv := hl0.vers _ hrd.1 hrd.2.1 _ hl
    have hlsz : l.sz = i.size := by rw [hv.sz]; exact hbsz
    rw [hlsz] at hf hc
    -- the old cells, read
    obtain ⟨olds, vo, hoe, hor, a', len', c', he, _, hol, hrdo⟩ := slCells_sound (K := fun cs => cs = (b.cells.drop a.off).take (len * i.size)) R (VRel.sl a len capo c addr l hl hle (by rw [hlsz]; exact hf) (by rw [hlsz]; exact hc) hcs' ha) (sz := i.size) ⟨b, hbl, hbsz, hrd, rfl⟩
    cases he
    have hvol : vo.length = len * i.size := by rw [← hor.length]; exact hol
    have hfo : ∀ w', Same w w' → (Builtin.firstCells i.size len (.slice (some addr) len c)).run P w' = .ok vo.toArray w' := fun w' hsm =>
      run_firstCells_some w' i.size len addr len c vo (by omega) fun j v hj => by
        have hjl : j < vo.length := (List.getElem?_eq_some_iff.1 hj).1
        exact hrdo addr rfl (by omega) w' hsm j v hj
    subst hoe
    rcases hk with ⟨h0, hk⟩ | ⟨hpos, hfull, hk⟩ | ⟨hpos, hro, hver, hfit, hcp, hok, hk⟩ | ⟨hpos, hro, hver, hoff, hend, hcp, hex, hgl, hok, hk⟩ | ⟨hpos, hro, hver, hend, hcp, hok, hk⟩
    · subst h0
      have hf0 := hfc 0 (Nat.le_refl _) w (Same.refl w)
      simp only [Nat.zero_mul, List.take_zero] at hf0
      exact ⟨_, _, μ, own, h, w, hk, .sl a len capo c addr l hl hle (by rw [hlsz]; exact hf) (by rw [hlsz]; exact hc) hcs' ha, R, Sub.refl _, run_app_nothing T hle hlo hf0⟩
    · have hgrow : c < len + k := by
        rcases hfull with ⟨c', h1, h2⟩ | ⟨h1, h2, h3, h4⟩
        · rw [hcs' _ h1]; exact h2
        · rw [h2] at hl
          have hk0 := R.cur hbl hlv hl
          have e1 := hk0.ex h1
          have e2 := hc h3
          have : c * i.size < (len + k) * i.size := by omega
          exact Nat.lt_of_mul_lt_mul_right this
      obtain ⟨μ', own', w', cv, h1, h2, h3, h4⟩ := grow_alloc (ty := ty) R T rfl hsz hzl (ao := some addr) (sLen := len) (sCap := c) hor hr hol hnl hlo hgrow h63 hb (hfck _ (Same.drew w)) (hfo _ (Same.drew w))
      exact ⟨_, cv, μ', own', _, w', hk, h3, h1, h2, h4⟩
    · -- in place
      rw [hver] at hl
      have hk0 := R.cur hbl hlv hl
      have hcl := hk0.len
      have hfits : len + k ≤ c := by
        rcases hcp with h1 | ⟨c', h1, h2⟩
        · have e2 := hc h1
          have : (len + k) * i.size ≤ c * i.size := by omega
          exact Nat.le_of_mul_le_mul_right this hsz
        · rw [hcs' _ h1]; exact h2
      have hadr := ha (by omega)
      subst hadr
      have emul : (len + k) * i.size = len * i.size + k * i.size := Nat.add_mul _ _ _
      have hroom := R.room hk0 hro (off := a.off + len * i.size) (n := vs.length) (by omega)
      have hst := run_storeCells_cells (P := P) l.B (l.base + (a.off + len * i.size)) vs 0 w (by simpa using hroom.1) (by simpa using hroom.2) (cellsOK_one hr hok)
      simp only [Nat.add_zero] at hst
      have hrun := run_app_fits (ty := ty) T hlo hfits (hfck w (Same.refl w)) (a := ⟨l.B, l.base + a.off, none⟩) (w2 := w.setCells l.B (l.base + (a.off + len * i.size)) vs) (by rw [addr_add]; exact hst)
      refine ⟨_, _, μ, own, _, _, hk, ?_, R.write hbl hlv hk0 hro hr (by omega), Sub.refl _, hrun⟩
      exact .sl a (len + k) capo c _ l (by rw [hver]; exact hl) hfits (by rw [hlsz]; exact hf) (by rw [hlsz]; exact hc) hcs' (fun _ => rfl)
    · -- the block grows
      rw [hver] at hl
      have hk0 := R.cur hbl hlv hl
      have e2 := hc hcp
      have emul : (len + k) * i.size = len * i.size + k * i.size := Nat.add_mul _ _ _
      have holds : (b.cells.drop a.off).take (len * i.size) = b.cells := by rw [hoff, List.drop_zero, List.take_of_length_le (by omega)]
      rw [holds] at hor hol
      by_cases hfits : len + k ≤ c
      · have hadr := ha (by omega)
        subst hadr
        have hmul : (len + k) * i.size ≤ c * i.size := Nat.mul_le_mul_right _ hfits
        have hroom := R.room hk0 hro (off := b.cells.length) (n := vs.length) (by omega)
        have hst := run_storeCells_cells (P := P) l.B (l.base + b.cells.length) vs 0 w (by simpa using hroom.1) (by simpa using hroom.2) (cellsOK_one hr hok)
        simp only [Nat.add_zero] at hst
        have hrun := run_app_fits (ty := ty) T hlo hfits (hfck w (Same.refl w)) (a := ⟨l.B, l.base + a.off, none⟩) (w2 := w.setCells l.B (l.base + b.cells.length) vs) (by rw [addr_add, show a.off + len * i.size = b.cells.length by omega]; exact hst)
        have hnp : 0 < news.length := by rw [hnl]; exact Nat.mul_pos hpos hsz
        obtain ⟨g1, g2⟩ := R.growIn hbl hlv hk0 hro hex hr hnp (by omega)
        refine ⟨_, _, _, own, _, _, hk, ?_, g1, g2, hrun⟩
        exact .sl _ (len + k) none c _ l (by simp [muAdd]) hfits (by rw [hlsz]; simp only; omega) (fun _ => by rw [hlsz]; simp only; omega) (fun _ h => by cases h) (fun _ => by rw [hoff])
      · have hrun := run_app_grow (ty := ty) T hlo (by omega : c < len + k) h63 hb (hfck _ (Same.drew w)) (hfo _ (Same.drew w))
        have hcap := le_grownCap w (len + k) c el
        generalize grownCap w (len + k) c el = gc at *
        have hvs := hr.length
        have hall : VRels μ (b.cells ++ news) ((vo.toArray ++ vs.toArray ++ Builtin.zeroCells z.cells (gc - (len + k))).toList.take (b.cells ++ news).length) := by
          have e : (vo.toArray ++ vs.toArray ++ Builtin.zeroCells z.cells (gc - (len + k))).toList.take (b.cells ++ news).length = vo ++ vs := by
            simp only [Array.toList_append]
            rw [List.take_append_of_le_length (by simp; omega), List.take_of_length_le (by simp; omega)]
          rw [e]; exact hor.append hr
        have hsize : (vo.toArray ++ vs.toArray ++ Builtin.zeroCells z.cells (gc - (len + k))).size = gc * i.size := by
          simp only [Array.size_append, size_zeroCells, hzl, List.size_toArray, hvol, hvl]
          rw [← Nat.add_mul, ← Nat.add_mul]
          congr 1; omega
        have hle2 : (b.cells ++ news).length ≤ gc * i.size := by
          simp only [List.length_append, hol, hnl, ← Nat.add_mul]
          exact Nat.mul_le_mul_right _ hcap
        have hnp : 0 < news.length := by rw [hnl]; exact Nat.mul_pos hpos hsz
        obtain ⟨g1, g2⟩ := R.drew.growNew (el := el) hbl hlv (R.drew.cur hbl hlv hl) hro hex hgl hall hnp hle2 (by omega)
        refine ⟨_, _, _, _, _, _, hk, ?_, g1, g2, hrun⟩
        rw [hbsz]
        exact .sl _ (len + k) none gc _ ⟨w.heap.size, 0, gc * i.size, i.size⟩ (by simp [muAdd]) hcap (by simp) (fun _ => by simp) (fun _ h => by cases h) (fun _ => rfl)
    · -- it is given up for a new one
      rw [hver] at hl
      have hk0 := R.cur hbl hlv hl
      have e2 := hc hcp
      have emul : (len + k) * i.size = len * i.size + k * i.size := Nat.add_mul _ _ _
      have hidl : a.id < h.length := (List.getElem?_eq_some_iff.1 hbl).1
      by_cases hfits : len + k ≤ c
      · have hadr := ha (by omega)
        subst hadr
        have hmul : (len + k) * i.size ≤ c * i.size := Nat.mul_le_mul_right _ hfits
        have hroom := R.room hk0 hro (off := b.cells.length) (n := vs.length) (by omega)
        have hst := run_storeCells_cells (P := P) l.B (l.base + b.cells.length) vs 0 w (by simpa using hroom.1) (by simpa using hroom.2) (cellsOK_one hr hok)
        simp only [Nat.add_zero] at hst
        have hrun := run_app_fits (ty := ty) T hlo hfits (hfck w (Same.refl w)) (a := ⟨l.B, l.base + a.off, none⟩) (w2 := w.setCells l.B (l.base + b.cells.length) vs) (by rw [addr_add, show a.off + len * i.size = b.cells.length by omega]; exact hst)
        obtain ⟨g1, g2⟩ := R.takeOver hbl hlv hk0 hro hr (off := a.off) (by omega) (by omega)
        have holds : (b.cells.drop a.off).take (len * i.size) = b.cells.drop a.off := List.take_of_length_le (by simp; omega)
        rw [holds] at hk
        rw [hlsz] at g1 g2
        refine ⟨_, _, _, _, _, _, hk, ?_, g1, g2, hrun⟩
        refine .sl _ (len + k) none c _ ⟨l.B, l.base + a.off, l.cap - a.off, i.size⟩ (by simp [muAdd]) hfits (by simp only; omega) (fun _ => by simp only; omega) (fun _ h => by cases h) (fun _ => by simp)
      · obtain ⟨μ', own', w', cv, h1, h2, h3, h4⟩ := grow_alloc (ty := ty) R T rfl hsz hzl (ao := some addr) (sLen := len) (sCap := c) hor hr hol hnl hlo (by omega) h63 hb (hfck _ (Same.drew w)) (hfo _ (Same.drew w))
        have h1' := h1.kill (id := a.id)
        rw [set_append_lt _ hidl] at h1'
        exact ⟨_, cv, μ', own', _, w', hk, h3, h1', h2, h4⟩

theorem copy_sound (R : Rel w0 Fz μ own h w) {ts : Array TypeId} {t ty el : TypeId} {d x : AV} {cd cx : Value} {K : AV → AHeap → Prop} (h0 : ts[0]? = some t) (ht : P.underlying t = some (.slice el)) (hinf : (P.info? el).isSome = true)
    (hd : VRel μ d cd) (hx : VRel μ x cx) (hk : pCopy (P.cellsOf el) d x h K) : After P w0 Fz μ w K (Builtin.copy_ ts ty #[cd, cx]) := by
  obtain ⟨i, hi⟩ := Option.isSome_iff_exists.1 hinf
  have hcs : P.cellsOf el = i.size := by simp [Program.cellsOf, hi]
  rw [hcs] at hk
  obtain ⟨hsz, hk⟩ := hk
  have hk' := newsOf_sound (P := P) R hx hk
  clear hk
  obtain ⟨news, k, vs, hk, hr, hnl, hlo, hfc⟩ := hk'
  have hvl : vs.length = k * i.size := by rw [← hr.length]; exact hnl
  cases hd <;> first | exact hk.elim | skip
  case sn =>
    refine ⟨_, _, μ, own, h, w, hk, .i _ _, R, Sub.refl _, ?_⟩
    have hf0 := hfc 0 (Nat.zero_le _) w (Same.refl w)
    simp only [Nat.zero_mul, List.take_zero] at hf0
    simp [Builtin.copy_, h0, run_und ht, hlo, sizeOf, typeInfo, hi, hf0, goInt]
  case sl a len capo c addr l hl hle hf hc hcs' ha =>
    obtain ⟨b, hbl, hbsz, hrd, hro, hver, hok, hk⟩ := hk
    have hlv : b.floor ≤ b.cells.length := Nat.le_trans hrd.1 hrd.2.1
    rw [hver] at hl
    have hk0 := R.cur hbl hlv hl
    have hfm := hfc (min k len) (Nat.min_le_left _ _) w (Same.refl w)
    have hml : (min k len) * i.size ≤ len * i.size := Nat.mul_le_mul_right _ (Nat.min_le_right _ _)
    have hmk : (min k len) * i.size ≤ k * i.size := Nat.mul_le_mul_right _ (Nat.min_le_left _ _)
    have hrt := hr.take (min k len * i.size)
    have hlt : (vs.take (min k len * i.size)).length = min k len * i.size := by simp; omega
    have hlt2 : (news.take (min k len * i.size)).length = min k len * i.size := by simp; omega
    have hrd3 := hrd.2.2
    have hlen := hk0.len
    have hst : ∃ w2, (storeCells addr (vs.take (min k len * i.size))).run P w = .ok () w2 ∧ Rel w0 Fz μ own (h.set a.id { b with cells := wr b.cells a.off (news.take (min k len * i.size)), floor := b.cells.length }) w2 := by
      have hW := R.write hbl hlv hk0 hro hrt (off := a.off) (by omega)
      by_cases hm0 : min k len * i.size = 0
      · rw [hm0] at hW ⊢
        simp only [List.take_zero] at hW ⊢
        exact ⟨w, rfl, hW⟩
      · have hc0 : c ≠ 0 := by
          intro h0
          have : len = 0 := by omega
          subst this
          simp at hm0
        have hadr := ha hc0
        subst hadr
        have hroom := R.room hk0 hro (off := a.off) (n := min k len * i.size) (by omega)
        have hst := run_storeCells_cells (P := P) l.B (l.base + a.off) (vs.take (min k len * i.size)) 0 w (by rw [hlt]; simpa using hroom.1) (by rw [hlt]; simpa using hroom.2) (cellsOK_one hrt hok)
        exact ⟨_, hst, by simpa using hW⟩
    obtain ⟨w2, hst, hW⟩ := hst
    refine ⟨_, _, μ, own, _, w2, hk, .i _ _, hW, Sub.refl _, ?_⟩
    have hnm : Nat.min k len = min k len := rfl
    simp [Builtin.copy_, h0, run_und ht, hlo, sizeOf, typeInfo, hi, hnm, hfm, hst, goInt]

end
end Go.GAM
