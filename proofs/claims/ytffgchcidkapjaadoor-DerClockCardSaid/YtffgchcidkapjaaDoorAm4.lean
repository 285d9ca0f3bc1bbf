/- Slices, fields, indexes, literals; all operations that leave the heap alone. -/
import Derived.Test.YtffgchcidkapjaaDoorAm3
set_option linter.unusedVariables false
set_option linter.unusedSimpArgs false
namespace Go.GAM

section
variable {ds : List Deferred} {rd : Option Nat} {P : Program} {w0 : World} {Fz : Nat → Prop} {μ : Mu} {own : Nat → Option Nat} {h : AHeap} {w : World}

inductive VRelO (μ : Mu) : Option AV → Option Value → Prop
  | none : VRelO μ none none
  | some (a v) (h : VRel μ a v) : VRelO μ (some a) (some v)

theorem Rel.evo (R : Rel w0 Fz μ own h w) {nt : Nat} {e : Env} {a : Act} (hE : EnvRel ds μ nt e a) : ∀ x : Option Operand, VRelO μ (x.map (GAM.ev e h)) (x.map a.eval)
  | none => .none
  | some x => .some _ _ (R.ev hE x)

def BoundIs (cx : Option Value) (d n : Nat) : Prop := (cx = none ∧ n = d) ∨ ∃ k z, cx = some (.int k z) ∧ 0 ≤ z ∧ n = z.toNat

theorem bound_sound {x : Option AV} {cx : Option Value} {d : Nat} {K : Nat → Prop} (hx : VRelO μ x cx) (hk : bound x d K) : ∃ n, K n ∧ BoundIs cx d n ∧ (x.isSome = cx.isSome) := by
  cases hx with
  | none => exact ⟨d, hk, .inl ⟨rfl, rfl⟩, rfl⟩
  | some a v h =>
    cases h <;> first | exact hk.elim | skip
    obtain ⟨h0, hK⟩ := hk
    exact ⟨_, hK, .inr ⟨_, _, rfl, h0, rfl⟩, rfl⟩

theorem run_bnd (k : IntKind) (z : Int) (y n : Nat) (code : BoundsCode) (h0 : 0 ≤ z) (hn : n = z.toNat) (hy : n ≤ y) (w' : World) : (Instr.sliceBound (.int k z) y code).run P w' = .ok n w' := by
  have : z ≤ y := by omega
  simp [Instr.sliceBound, asIntOf, h0, this, hn]

theorem bounds_run {isSlice : Bool} {len cap L H M : Nat} {clo chi cmx : Option Value} (hm : BoundIs cmx cap M) (hh : BoundIs chi len H) (hl : BoundIs clo 0 L)
    (h1 : M ≤ cap) (h2 : H ≤ M) (h3 : L ≤ H) (hmh : cmx.isSome = true → chi.isSome = true) (w' : World) : (Instr.sliceBounds isSlice len cap clo chi cmx).run P w' = .ok (L, H, M) w' := by
  rcases hm with ⟨rfl, rfl⟩ | ⟨km, zm, rfl, hm0, hm1⟩ <;> rcases hh with ⟨rfl, rfl⟩ | ⟨kh, zh, rfl, hh0, hh1⟩ <;> rcases hl with ⟨rfl, rfl⟩ | ⟨kl, zl, rfl, hl0, hl1⟩
  all_goals first
    | (simp at hmh; done)
    | (simp [Instr.sliceBounds]; done)
    | (simp [Instr.sliceBounds, run_bnd _ _ _ _ _ hl0 hl1 h3]; done)
    | (simp [Instr.sliceBounds, run_bnd _ _ _ _ _ hh0 hh1 h2]; done)
    | (simp [Instr.sliceBounds, run_bnd _ _ _ _ _ hh0 hh1 h2, run_bnd _ _ _ _ _ hl0 hl1 h3]; done)
    | (simp [Instr.sliceBounds, run_bnd _ _ _ _ _ hm0 hm1 h1, run_bnd _ _ _ _ _ hh0 hh1 h2]; done)
    | simp [Instr.sliceBounds, run_bnd _ _ _ _ _ hm0 hm1 h1, run_bnd _ _ _ _ _ hh0 hh1 h2, run_bnd _ _ _ _ _ hl0 hl1 h3]

theorem extract_toList (x : ByteArray) (a b : Nat) : (x.extract a b).data.toList = (x.data.toList.take b).drop a := by
  rw [ByteArray.data_extract, Array.toList_extract]
  show (x.data.toList.drop a).take (b - a) = _
  rw [List.drop_take]

theorem sliceStr_sound {t : TypeId} {x : AV} {cx : Value} {lo hi : Option AV} {clo chi : Option Value} {K : AV → Prop} (ht : P.underlying t = some .string) (hx : VRel μ x cx) (hlo : VRelO μ lo clo) (hhi : VRelO μ hi chi)
    (hk : pSliceStr x lo hi fun l => K (.s l)) : ∃ v cv, K v ∧ VRel μ v cv ∧ ∀ w', (Instr.sliceAt t cx clo chi none).run P w' = .ok cv w' := by
  cases hx <;> first | exact hk.elim | skip
  rename_i l s hs
  simp only [pSliceStr] at hk
  obtain ⟨m, hk, hm, _⟩ := bound_sound hhi hk
  obtain ⟨n, ⟨h1, h2, hK⟩, hn, _⟩ := bound_sound hlo hk
  have hsz := str_len hs
  rw [← hsz] at h2 hm
  refine ⟨_, .string (s.extract n m), hK, .s _ _ (by rw [extract_toList, hs]), fun w' => ?_⟩
  have hb := bounds_run (P := P) (isSlice := false) (.inl ⟨rfl, rfl⟩) hm hn (Nat.le_refl _) h2 h1 (by simp) w'
  simp [Instr.sliceAt, Instr.slice, run_und ht, hb]

theorem sliceSl_sound (R : Rel w0 Fz μ own h w) {t el : TypeId} {x : AV} {cx : Value} {lo hi mx : Option AV} {clo chi cmx : Option Value} {K : AV → Prop} (ht : P.underlying t = some (.slice el)) (hel : (P.info? el).isSome = true)
    (hx : VRel μ x cx) (hlo : VRelO μ lo clo) (hhi : VRelO μ hi chi) (hmx : VRelO μ mx cmx)
    (hk : pSliceSl (P.cellsOf el) x lo hi mx h K) : ∃ v cv, K v ∧ VRel μ v cv ∧ ∀ w', (Instr.sliceAt t cx clo chi cmx).run P w' = .ok cv w' := by
  obtain ⟨i, hi0⟩ := Option.isSome_iff_exists.1 hel
  have hsize : ∀ w', (sizeOf el).run P w' = .ok (P.cellsOf el) w' := fun w' => by simp [sizeOf, typeInfo, hi0, Program.cellsOf]
  generalize P.cellsOf el = sz at *
  cases hx <;> first | exact hk.elim | skip
  · -- nil
    simp only [pSliceSl] at hk
    obtain ⟨m, hk, hm, hms⟩ := bound_sound hmx hk
    obtain ⟨j, hk, hj, hjs⟩ := bound_sound hhi hk
    obtain ⟨i, ⟨rfl, rfl, rfl, hmh, hK⟩, hi, _⟩ := bound_sound hlo hk
    refine ⟨_, _, hK, .sn, fun w' => ?_⟩
    have hb := bounds_run (P := P) (isSlice := true) hm hj hi (Nat.le_refl _) (Nat.le_refl _) (Nat.le_refl _) (by rw [← hms, ← hjs]; exact hmh) w'
    simp [Instr.sliceAt, Instr.slice, run_und ht, hb, hsize]
  · rename_i a len capo c addr l hl hle hf hc hs ha
    obtain ⟨hsz, hmh, hk⟩ := hk
    obtain ⟨j, hk, hj, hjs⟩ := bound_sound hhi hk
    obtain ⟨i, ⟨hij, b, hb, hfl, hfv, hbs, hk⟩, hi, _⟩ := bound_sound hlo hk
    obtain ⟨b', hb', hver⟩ := R.mulen _ _ _ hl
    rw [hb] at hb'; cases hb'
    have hver := hver hfl
    obtain ⟨l0, hl0⟩ := R.blk _ _ hb hfl
    have hv := hl0.vers _ hfv hver _ hl
    have hlsz : l.sz = sz := by rw [hv.sz]; exact hbs
    have hvc := hv.le
    rw [hlsz] at hf hc
    have hle' : ∀ j, (j ≤ len ∨ (capo = none ∧ a.off + j * sz ≤ a.ver) ∨ (∃ c, capo = some c ∧ j ≤ c)) → j ≤ c := by
      rintro j (h | ⟨h1, h2⟩ | ⟨k, h1, h2⟩)
      · omega
      · have h3 := hc h1
        have : j * sz ≤ c * sz := by omega
        exact Nat.le_of_mul_le_mul_right this hsz
      · rw [hs _ h1]; exact h2
    have fin : ∀ (M : Nat) (capo' : Option Nat), M ≤ c → i ≤ M → j ≤ M → (capo' = none → capo = none ∧ M = c) → (∀ k, capo' = some k → M - i = k) →
        VRel μ (.sl (some ⟨a.id, a.ver, a.off + i * sz⟩) (j - i) capo') (.slice (some (if M = i then addr else addr.add (i * sz))) (j - i) (M - i)) := by
      intro M capo' h1 h2 h2' h3 h4
      have e1 : i * sz + (M - i) * sz = M * sz := by rw [← Nat.add_mul]; congr 1; omega
      have e2 : M * sz ≤ c * sz := Nat.mul_le_mul_right _ h1
      refine .sl _ _ _ _ _ l hl (by omega) ?_ ?_ h4 ?_
      · rw [hlsz]; show a.off + i * sz + (M - i) * sz ≤ l.cap; omega
      · intro h; obtain ⟨h5, rfl⟩ := h3 h
        rw [hlsz]; show a.off + i * sz + (M - i) * sz = l.cap
        have := hc h5; omega
      · intro h
        rw [if_neg (by omega), ha (by omega)]
        by_cases h0 : i * sz = 0
        · simp [Addr.add, h0]
        · simp [Addr.add, h0, Nat.add_assoc]
    cases hmx with
    | none =>
      obtain ⟨hj', hK⟩ := hk
      have hjc := hle' j hj'
      refine ⟨_, _, hK, fin c _ (Nat.le_refl _) (by omega) hjc (fun h => ⟨by simpa using h, rfl⟩) (fun k hk => ?_), fun w' => ?_⟩
      · cases hcap : capo with
        | none => simp [hcap] at hk
        | some k' => simp [hcap] at hk; rw [hs _ hcap]; exact hk
      · have hbr := bounds_run (P := P) (isSlice := true) (len := len) (.inl ⟨rfl, rfl⟩) hj hi (Nat.le_refl c) hjc hij (by simp) w'
        simp only [Instr.sliceAt, Sem.run_bind, run_und ht, Result.andThen_ok, Instr.slice, hbr, hsize, Sem.run_pure]
        congr 3
        split <;> rfl
    | some m cm hmr =>
      obtain ⟨M, ⟨hjM, hM', hK⟩, hM, _⟩ := bound_sound (d := 0) (.some _ _ hmr) hk
      have hMc := hle' M hM'
      have hM2 : BoundIs (some cm) c M := by
        rcases hM with ⟨h, _⟩ | h
        · cases h
        · exact .inr h
      refine ⟨_, _, hK, fin M _ hMc (by omega) hjM (fun h => by cases h) (fun k hk => by simpa using hk), fun w' => ?_⟩
      have hjs' : chi.isSome = true := by rw [← hjs]; exact hmh rfl
      have hbr := bounds_run (P := P) (isSlice := true) (len := len) hM2 hj hi hMc hjM hij (fun _ => hjs') w'
      simp only [Instr.sliceAt, Sem.run_bind, run_und ht, Result.andThen_ok, Instr.slice, hbr, hsize, Sem.run_pure]
      congr 3
      split <;> rfl

theorem sliceArr_sound (R : Rel w0 Fz μ own h w) {t el : TypeId} {n : Nat} {x : AV} {cx : Value} {lo hi : Option AV} {clo chi : Option Value} {K : AV → Prop} (ht : P.underlying t = some (.array n el)) (hel : (P.info? el).isSome = true)
    (hx : VRel μ x cx) (hlo : VRelO μ lo clo) (hhi : VRelO μ hi chi)
    (hk : pSliceArr n (P.cellsOf el) x lo hi h K) : ∃ v cv, K v ∧ VRel μ v cv ∧ ∀ w', (Instr.sliceAt t cx clo chi none).run P w' = .ok cv w' := by
  obtain ⟨i, hi0⟩ := Option.isSome_iff_exists.1 hel
  have hsize : ∀ w', (sizeOf el).run P w' = .ok (P.cellsOf el) w' := fun w' => by simp [sizeOf, typeInfo, hi0, Program.cellsOf]
  generalize P.cellsOf el = sz at *
  cases hx <;> first | exact hk.elim | skip
  rename_i a l o hl ho
  subst ho
  obtain ⟨hsz, hk⟩ := hk
  obtain ⟨j, hk, hj, hjs⟩ := bound_sound hhi hk
  obtain ⟨i, ⟨hij, hjn, b, hb, hbs, hr, hK⟩, hi, _⟩ := bound_sound hlo hk
  obtain ⟨l0, hl0⟩ := R.blk _ _ hb (Nat.le_trans hr.1 hr.2.1)
  have hv := hl0.vers _ hr.1 hr.2.1 _ hl
  have hlsz : l.sz = sz := by rw [hv.sz]; exact hbs
  have hvc := hv.le
  have hr3 := hr.2.2
  have e1 : i * sz + (n - i) * sz = n * sz := by rw [← Nat.add_mul]; congr 1; omega
  refine ⟨_, .slice (some (if n = i then ⟨l.B, l.base + a.off, none⟩ else (⟨l.B, l.base + a.off, none⟩ : Addr).add (i * sz))) (j - i) (n - i), hK, .sl _ _ _ _ _ l hl (by omega) ?_ (fun h => by cases h) (fun k hk => by simpa using hk) ?_, fun w' => ?_⟩
  · rw [hlsz]; show a.off + i * sz + (n - i) * sz ≤ l.cap; omega
  · intro h
    rw [if_neg (by omega)]
    by_cases h0 : i * sz = 0
    · simp [Addr.add, h0]
    · simp [Addr.add, h0, Nat.add_assoc]
  · have hbr := bounds_run (P := P) (isSlice := false) (.inl ⟨rfl, rfl⟩) hj hi (Nat.le_refl n) hjn hij (by simp) w'
    simp only [Instr.sliceAt, Sem.run_bind, run_und ht, Result.andThen_ok, Instr.sureAddr, hbr, hsize, Sem.run_pure]

theorem fieldAddr_sound {t : TypeId} {fs : Array Field} {fl : Field} {f : Nat} {x : AV} {cx : Value} {K : AV → Prop} (ht : P.underlying t = some (.struct fs)) (hf : fs[f]? = some fl) (hz : Nat.beq (P.cellsOf fl.type) 0 = false)
    (hx : VRel μ x cx) (hk : pFieldAddr fl.offset x K) : ∃ v cv, K v ∧ VRel μ v cv ∧ ∀ w', (Instr.fieldAt t cx f).run P w' = .ok cv w' := by
  cases hx <;> first | exact hk.elim | skip
  rename_i a l o hl ho
  subst ho
  refine ⟨_, .pointer (some ⟨l.B, l.base + (a.off + fl.offset), none⟩), hk, .p ⟨a.id, a.ver, a.off + fl.offset⟩ l _ hl rfl, fun w' => ?_⟩
  have hinfo : ∃ i, P.info? fl.type = some i ∧ P.cellsOf fl.type = i.size := by
    cases hi : P.info? fl.type with
    | none => simp [Program.cellsOf, hi] at hz
    | some i => exact ⟨i, rfl, by simp [Program.cellsOf, hi]⟩
  obtain ⟨i, hi, his⟩ := hinfo
  have hne : i.size ≠ 0 := by
    intro h0; rw [his, h0] at hz; simp at hz
  have e : (⟨l.B, l.base + a.off, none⟩ : Addr).add fl.offset = ⟨l.B, l.base + (a.off + fl.offset), none⟩ := by
    by_cases h0 : fl.offset = 0
    · simp [Addr.add, h0]
    · simp [Addr.add, h0, Nat.add_assoc]
  simp [Instr.fieldAt, run_und ht, hf, Instr.sureAddr, fieldPlace, sizeOf, typeInfo, hi, hne, e]

theorem field_sound {t : TypeId} {fs : Array Field} {fl : Field} {f : Nat} {x : AV} {cx : Value} {K : AV → Prop} {r : Bool} (ht : P.underlying t = some (.struct fs)) (hf : fs[f]? = some fl) (hr : isAggT P fl.type = some r)
    (hx : VRel μ x cx) (hk : (match r with | true => pFieldN fl.offset (P.cellsOf fl.type) x K | false => pField1 fl.offset x K)) : ∃ v cv, K v ∧ VRel μ v cv ∧ ∀ w', (Instr.field t cx f).run P w' = .ok cv w' := by
  obtain ⟨d, hd⟩ := (isAggT_some hr default).2
  cases r with
  | true =>
    cases hx <;> first | exact hk.elim | skip
    rename_i cs vs hv
    refine ⟨_, .agg (vs.extract fl.offset (fl.offset + P.cellsOf fl.type)), hk, .ag _ _ ?_, fun w' => ?_⟩
    · have := (hv.drop fl.offset).take (P.cellsOf fl.type)
      simpa [Array.toList_extract, List.extract] using this
    · simp [Instr.field, run_und ht, hf, asAgg, part, (isAggT_some hr w').1, run_sizeOf hd]
  | false =>
    cases hx <;> first | exact hk.elim | skip
    rename_i cs vs hv
    obtain ⟨hlt, hK⟩ := hk
    obtain ⟨v, hv1, hv2⟩ := hv.get? hlt
    have : vs[fl.offset]? = some v := by simpa using hv1
    exact ⟨_, v, hK, hv2, fun w' => by simp [Instr.field, run_und ht, hf, asAgg, part, (isAggT_some hr w').1, this]⟩

theorem addr_add (B base off k : Nat) : (⟨B, base + off, none⟩ : Addr).add k = ⟨B, base + (off + k), none⟩ := by
  by_cases h0 : k = 0
  · simp [Addr.add, h0]
  · simp [Addr.add, h0, Nat.add_assoc]

theorem idxAddrSl_sound (R : Rel w0 Fz μ own h w) {t el : TypeId} {x i : AV} {cx ci : Value} {K : AV → Prop} (ht : P.underlying t = some (.slice el)) (hel : (P.info? el).isSome = true) (hx : VRel μ x cx) (hi : VRel μ i ci)
    (hk : pIdxAddrSl (P.cellsOf el) x i h K) : ∃ v cv, K v ∧ VRel μ v cv ∧ ∀ w', (Instr.indexAt t cx ci).run P w' = .ok cv w' := by
  obtain ⟨inf, hi0⟩ := Option.isSome_iff_exists.1 hel
  have hsize : ∀ w', (sizeOf el).run P w' = .ok (P.cellsOf el) w' := fun w' => by simp [sizeOf, typeInfo, hi0, Program.cellsOf]
  generalize P.cellsOf el = sz at *
  cases hx with
  | sl a len capo c addr l hl hle hf hc hs ha =>
    cases hi with
    | i k n =>
      obtain ⟨h0, h1, _, hK⟩ := hk
      refine ⟨_, .pointer (some ⟨l.B, l.base + (a.off + n.toNat * sz), none⟩), hK, .p ⟨a.id, a.ver, a.off + n.toNat * sz⟩ l _ hl rfl, fun w' => ?_⟩
      rw [ha (by omega)]
      simp only [Instr.indexAt, Sem.run_bind, asIntOf, Sem.run_pure, Result.andThen_ok, run_und ht, hsize]
      rw [if_pos ⟨h0, h1⟩]
      simp [hsize, addr_add]
    | _ => exact hk.elim
  | _ => cases hi <;> exact hk.elim

theorem idxAddrArr_sound {t el : TypeId} {len : Nat} {x i : AV} {cx ci : Value} {K : AV → Prop} (ht : P.underlying t = some (.array len el)) (hel : (P.info? el).isSome = true) (hx : VRel μ x cx) (hi : VRel μ i ci)
    (hk : pIdxAddrArr len (P.cellsOf el) x i K) : ∃ v cv, K v ∧ VRel μ v cv ∧ ∀ w', (Instr.indexAt t cx ci).run P w' = .ok cv w' := by
  obtain ⟨inf, hi0⟩ := Option.isSome_iff_exists.1 hel
  have hsize : ∀ w', (sizeOf el).run P w' = .ok (P.cellsOf el) w' := fun w' => by simp [sizeOf, typeInfo, hi0, Program.cellsOf]
  generalize P.cellsOf el = sz at *
  cases hx with
  | p a l o hl ho =>
    subst ho
    cases hi with
    | i k n =>
      obtain ⟨h0, h1, hK⟩ := hk
      refine ⟨_, .pointer (some ⟨l.B, l.base + (a.off + n.toNat * sz), none⟩), hK, .p ⟨a.id, a.ver, a.off + n.toNat * sz⟩ l _ hl rfl, fun w' => ?_⟩
      simp only [Instr.indexAt, Sem.run_bind, asIntOf, Sem.run_pure, Result.andThen_ok, run_und ht, hsize, Instr.sureAddr]
      rw [if_pos ⟨h0, h1⟩]
      simp [hsize, addr_add]
    | _ => exact hk.elim
  | _ => cases hi <;> exact hk.elim

theorem idxStr_sound {t : TypeId} {x i : AV} {cx ci : Value} {K : AV → Prop} (ht : P.underlying t = some .string) (hx : VRel μ x cx) (hi : VRel μ i ci)
    (hk : pIdxStr x i fun n => K (.i .u8 n)) : ∃ v cv, K v ∧ VRel μ v cv ∧ ∀ w', (Instr.index t cx ci).run P w' = .ok cv w' := by
  cases hx with
  | s l s hs =>
    cases hi with
    | i k n =>
      obtain ⟨h0, h1, hK⟩ := hk
      have hsz := str_len hs
      have hlt : n.toNat < s.size := by omega
      have hg : s[n.toNat]? = some s[n.toNat] := ByteArray.getElem?_lt' s _ hlt
      refine ⟨_, .int .u8 (s[n.toNat].toNat : Int), hK, ?_, fun w' => ?_⟩
      · have : l.getD n.toNat 0 = s[n.toNat] := by
          subst hs
          have h2 : n.toNat < s.data.toList.length := by rw [← hsz]; exact hlt
          rw [List.getD_eq_getElem?_getD, List.getElem?_eq_getElem h2]
          simp; rfl
        rw [this]; exact .i _ _
      · simp [Instr.index, asIntOf, run_und ht, h0, hg]
    | _ => exact hk.elim
  | _ => cases hi <;> exact hk.elim

theorem idxArr1_sound {t el : TypeId} {n : Nat} {x i : AV} {cx ci : Value} {K : AV → Prop} (ht : P.underlying t = some (.array n el)) (hel : isAggT P el = some false) (h1' : P.cellsOf el = 1) (hx : VRel μ x cx) (hi : VRel μ i ci)
    (hk : pIdxArr1 n x i K) : ∃ v cv, K v ∧ VRel μ v cv ∧ ∀ w', (Instr.index t cx ci).run P w' = .ok cv w' := by
  obtain ⟨d, hd⟩ := (isAggT_some hel default).2
  cases hx with
  | ag cs vs hv =>
    cases hi with
    | i k z =>
      obtain ⟨h0, h1, h2, hK⟩ := hk
      obtain ⟨v, hv1, hv2⟩ := hv.get? (i := z.toNat) (by omega)
      have : vs[z.toNat]? = some v := by simpa using hv1
      refine ⟨_, v, hK, hv2, fun w' => ?_⟩
      simp only [Instr.index, Sem.run_bind, asIntOf, Sem.run_pure, Result.andThen_ok, run_und ht]
      rw [if_pos ⟨h0, h1⟩]
      simp [run_sizeOf hd, h1', part, (isAggT_some hel w').1, this]
    | _ => exact hk.elim
  | _ => cases hi <;> exact hk.elim

theorem parts_rel {v : AV} {cv : Value} (h : VRel μ v cv) (hs : v.sizeOK = true) : VRels μ v.parts cv.cells.toList := by
  cases h <;> first | (simp [AV.sizeOK] at hs; done) | skip
  case ag cs vs h => exact h
  all_goals (refine .cons _ _ _ _ ?_ .nil; constructor <;> assumption)

theorem put_fold (off : Nat) : ∀ (ps : List AV) (vs : List Value), VRels μ ps vs → ∀ (k : Nat) (cells : List AV) (arr : Array Value), VRels μ cells arr.toList →
    VRels μ ((ps.zipIdx k).foldl (fun cs (c, j) => cs.set (off + j) c) cells) ((vs.zipIdx k).foldl (fun (cs : Array Value) (c, j) => cs.setIfInBounds (off + j) c) arr).toList
  | [], _, .nil, k, cells, arr, h => by simpa using h
  | p :: ps, _, .cons _ v _ vs hp ht, k, cells, arr, h => by
    simp only [List.zipIdx_cons, List.foldl_cons]
    refine put_fold off ps vs ht (k + 1) _ _ ?_
    have := h.set hp (off + k)
    simpa [Array.toList_setIfInBounds] using this

inductive PartsRel (μ : Mu) (place : Nat → Option (Nat × Nat)) : List (Nat × Nat × AV) → List (Nat × Value) → Prop
  | nil : PartsRel μ place [] []
  | cons (off size v i cv ps cs) (hp : place i = some (off, size)) (hv : VRel μ v cv) (ht : PartsRel μ place ps cs) : PartsRel μ place ((off, size, v) :: ps) ((i, cv) :: cs)

theorem fill_sound {place : Nat → Option (Nat × Nat)} : ∀ {ps : List (Nat × Nat × AV)} {cs : List (Nat × Value)}, PartsRel μ place ps cs → ∀ (cells : List AV) (arr : Array Value) (out : List AV), VRels μ cells arr.toList → fillA cells ps = some out →
    ∃ res, Instr.fill place arr cs = some res ∧ VRels μ out res.toList
  | _, _, .nil, cells, arr, out, h, hf => by simp only [fillA, Option.some.injEq] at hf; subst hf; exact ⟨arr, rfl, h⟩
  | _, _, .cons off size v i cv ps cs hp hv ht, cells, arr, out, h, hf => by
    simp only [fillA] at hf
    split at hf
    · rename_i hc
      simp only [Bool.and_eq_true, beq_iff_eq, decide_eq_true_eq] at hc
      obtain ⟨⟨h1, h2⟩, h3⟩ := hc
      have hpr := parts_rel hv h1
      have hl1 : v.parts.length = cv.cells.size := by have := hpr.length; simpa using this
      have hl2 : cells.length = arr.size := by have := h.length; simpa using this
      have := put_fold off _ _ hpr 0 cells arr h
      obtain ⟨res, hr1, hr2⟩ := fill_sound ht _ ((cv.cells.toList.zipIdx 0).foldl (fun (cs : Array Value) (c, j) => cs.setIfInBounds (off + j) c) arr) out this hf
      refine ⟨res, ?_, hr2⟩
      simp only [Instr.fill, hp]
      rw [if_neg (by simp; omega)]
      rw [← Array.foldl_toList, Array.toList_zipIdx]
      exact hr1
    · cases hf

theorem ofV1_parts (v : Value) : (ofV1 v).parts = [ofV1 v] := by
  unfold ofV1
  split <;> rfl

theorem zero_rel {t : TypeId} {zs : List AV} (hz : zeroO P t = some zs) (μ : Mu) : ∃ i z, P.info? t = some i ∧ i.zero = some z ∧ VRels μ zs z.cells.toList := by
  unfold zeroO at hz
  cases hi : P.info? t with
  | none => simp [hi] at hz
  | some i =>
    cases hzz : i.zero with
    | none => simp [hi, hzz] at hz
    | some z =>
      simp [hi, hzz] at hz
      subst hz
      refine ⟨i, z, rfl, hzz, ?_⟩
      cases z <;> first
        | exact .cons _ _ _ _ (ofV_rel μ _) .nil
        | (simp only [ofV]; rw [ofV1_parts]; exact .cons _ _ _ _ (ofV1_rel μ _) .nil)
        | exact ofV1s_rel μ _

theorem run_zero {t : TypeId} {i : TypeInfo} {z : Value} (hi : P.info? t = some i) (hz : i.zero = some z) (w' : World) : (zeroValue t).run P w' = .ok z w' := by
  simp [zeroValue, typeInfo, hi, hz]

theorem places_run (fs : List Field) : ∀ (hall : fs.all (fun f => (P.info? f.type).isSome) = true) (w' : World), (fs.mapM (m := Sem) fun f => do pure (f.offset, ← sizeOf f.type)).run P w' = .ok (fs.map fun f => (f.offset, P.cellsOf f.type)) w' := by
  induction fs with
  | nil => intro _ w'; rfl
  | cons f fs ih =>
    intro hall w'
    simp only [List.all_cons, Bool.and_eq_true] at hall
    obtain ⟨i, hi⟩ := Option.isSome_iff_exists.1 hall.1
    have := ih hall.2 w'
    simp only [bind_pure_comp] at this
    simp [List.mapM_cons, sizeOf, typeInfo, hi, Program.cellsOf]
    simp [sizeOf, typeInfo, Program.cellsOf] at this
    rw [this]
    simp

end
end Go.GAM
