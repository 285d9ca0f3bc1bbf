/- Lemmas (several texts in one). -/
import Derived.Shelf.LaysM
import Derived.Shelf.Strconv.Itoa3
import Derived.Test.YtffgchcidkapjaaDoorProg
import Derived.Test.YtffgchcidkapjaaDoorRows
import Derived.Lib.LaidTab
import Derived.Lib.AppendIntMem
import Derived.Test.YtffgchcidkapjaaDoorMg5
/-
  DERIVED: THE SHELF's CONTRACTS AT THIS DUMP, IN PLAIN WORDS (tools/lay-plain.mjs out of 'TrydShelf.lean', which tools/lay-shelf.mjs wrote): THE SAME DECLARATIONS UNDER THE SAME NAMES: 'import', 'namespace', 'open', 'def', 'theorem' AND NOTHING ELSE: no command of the shelf's: FOR A HAND-IN. Each laying: the table of numbers ('.._ren') and one theorem, a field a fact of the dump's own or the kernel's comparison; each contract: ONE APPLICATION.
-/
namespace Go.Proofs
open Go.Shelf
def Tryd.laysM171_ren : Go.Shelf.Ren := ⟨fun | 171 => 51 | 243 => 65 | 246 => 67 | 283 => 71 | 284 => 72 | 285 => 73 | 286 => 74 | 129 => 80 | 317 => 79 | 318 => 81 | 319 => 82 | 320 => 83 | 337 => 89 | 338 => 90 | n => n, fun | 3 => 3 | 9 => 9 | 2 => 2 | 4 => 4 | 171 => 82 | 0 => 0 | 53 => 83 | 37 => 59 | 5 => 5 | 173 => 86 | 212 => 93 | 51 => 94 | 20 => 20 | 213 => 95 | 46 => 58 | 232 => 104 | 233 => 105 | n => n, fun | 17 => 0 | 18 => 4 | 19 => 5 | n => n⟩
theorem Tryd.laysM171 : Go.Proofs.LaysM.n171 Tryd.prog Tryd.laysM171_ren := {
  mixed := by kernel_rfl
  f129 := Tryd.func80.trans (congrArg some (by kernel_rfl))
  f171 := Tryd.func51.trans (congrArg some (by kernel_rfl))
  f243 := Tryd.func65.trans (congrArg some (by kernel_rfl))
  f246 := Tryd.func67.trans (congrArg some (by kernel_rfl))
  f283 := Tryd.func71.trans (congrArg some (by kernel_rfl))
  f284 := Tryd.func72.trans (congrArg some (by kernel_rfl))
  f285 := Tryd.func73.trans (congrArg some (by kernel_rfl))
  f286 := Tryd.func74.trans (congrArg some (by kernel_rfl))
  f317 := Tryd.func79.trans (congrArg some (by kernel_rfl))
  f318 := Tryd.func81.trans (congrArg some (by kernel_rfl))
  f319 := Tryd.func82.trans (congrArg some (by kernel_rfl))
  f320 := Tryd.func83.trans (congrArg some (by kernel_rfl))
  f337 := Tryd.func89.trans (congrArg some (by kernel_rfl))
  f338 := Tryd.func90.trans (congrArg some (by kernel_rfl))
  t0 := Tryd.underlying0
  a0 := Tryd.isAgg0
  z0 := Tryd.sizeOf0
  v0 := Tryd.zeroValue0
  t2 := Tryd.underlying2
  a2 := Tryd.isAgg2
  z2 := Tryd.sizeOf2
  v2 := Tryd.zeroValue2
  t3 := Tryd.underlying3
  a3 := Tryd.isAgg3
  z3 := Tryd.sizeOf3
  v3 := Tryd.zeroValue3
  t4 := Tryd.underlying4
  a4 := Tryd.isAgg4
  z4 := Tryd.sizeOf4
  v4 := Tryd.zeroValue4
  t5 := Tryd.underlying5
  a5 := Tryd.isAgg5
  z5 := Tryd.sizeOf5
  v5 := Tryd.zeroValue5
  t9 := Tryd.underlying9
  a9 := Tryd.isAgg9
  z9 := Tryd.sizeOf9
  v9 := Tryd.zeroValue9
  t20 := Tryd.underlying20
  a20 := Tryd.isAgg20
  z20 := Tryd.sizeOf20
  v20 := Tryd.zeroValue20
  t37 := Tryd.underlying59
  a37 := Tryd.isAgg59
  z37 := Tryd.sizeOf59
  v37 := Tryd.zeroValue59
  t46 := Tryd.underlying58
  a46 := Tryd.isAgg58
  z46 := Tryd.sizeOf58
  v46 := Tryd.zeroValue58
  t51 := Tryd.underlying94
  a51 := Tryd.isAgg94
  z51 := Tryd.sizeOf94
  v51 := Tryd.zeroValue94
  t53 := Tryd.underlying83
  a53 := Tryd.isAgg83
  z53 := Tryd.sizeOf83
  v53 := Tryd.zeroValue83
  t171 := Tryd.underlying82
  a171 := Tryd.isAgg82
  z171 := Tryd.sizeOf82
  v171 := Tryd.zeroValue82
  t173 := Tryd.underlying86
  a173 := Tryd.isAgg86
  z173 := Tryd.sizeOf86
  v173 := Tryd.zeroValue86
  t212 := Tryd.underlying93
  a212 := Tryd.isAgg93
  z212 := Tryd.sizeOf93
  v212 := Tryd.zeroValue93
  t213 := Tryd.underlying95
  a213 := Tryd.isAgg95
  z213 := Tryd.sizeOf95
  t232 := Tryd.underlying104
  a232 := Tryd.isAgg104
  z232 := Tryd.sizeOf104
  v232 := Tryd.zeroValue104
  t233 := Tryd.underlying105
  a233 := Tryd.isAgg105
  z233 := Tryd.sizeOf105
  v233 := Tryd.zeroValue105
  g17 := by kernel_rfl
  g18 := by kernel_rfl
  g19 := by kernel_rfl
  i0 := by kernel_rfl
  i2 := by kernel_rfl
  i3 := by kernel_rfl
  i4 := by kernel_rfl
  i5 := by kernel_rfl
  i9 := by kernel_rfl
  i20 := by kernel_rfl
  i37 := by kernel_rfl
  i46 := by kernel_rfl
  i51 := by kernel_rfl
  i53 := by kernel_rfl
  i171 := by kernel_rfl
  i173 := by kernel_rfl
  i212 := by kernel_rfl
  i232 := by kernel_rfl
  i233 := by kernel_rfl
  m17 := by kernel_rfl
  m18 := by kernel_rfl
  m19 := by kernel_rfl }
open Go.RowKit Go.Sort Go.Lib in
/-- strconv.Itoa: "Itoa is equivalent to FormatInt(int64(i), 10).": i's DECIMAL NUMERAL ('Lib.itoa': a '-' where i is negative, then the digits), FOR EVERY int. The world behind the call: the world before it, new blocks behind the heap (the library's 'var a [24]byte'), draws. (LAID: no walk: one application.) -/
theorem Tryd.strconv_Itoa (n : Int) (h0 : -9223372036854775808 ≤ n) (h1 : n ≤ 9223372036854775807) (w : World) (htab : Lib.TabIs Tryd.prog w "internal/strconv.uint64pow10" .u64 Lib.pow10Tab) :
    Calls Tryd.prog 51 #[.int .i64 n] w fun e w' => e = .returned (.string ⟨(Lib.itoa n).toArray⟩) ∧ ∃ k os, w' = grow (w.drewN k) os := Any.strconv_Itoa Tryd.laysM171 n h0 h1 w htab
end Go.Proofs

/- The rule for strconv.Itoa; Oid, the program's. -/
set_option linter.unusedVariables false
set_option linter.unusedSimpArgs false
set_option linter.unusedSectionVars false
set_option maxRecDepth 20000
namespace Go.GAM
open Go.RowKit
/-- A law's call, where the rules are sound from this world on. -/
theorem law_callsAt {P : Program} {X : CallR} (hm : P.follows .mixedOrders = true) (hsz : P.funcs.size ≤ yid0) {w : World} (hX : SoundAt P w (fun B => B < w.heap.size) (fun _ _ => none) X) {f : FuncId} (hb : bodyOK P f = true) {szOf : Nat → Nat} {avs : List AV} {args : Array Value}
    (hv : VRels (muC w szOf) avs args.toList) (hk : acall P X f avs (heapC w szOf) Yes) : Calls P f args w fun e w' => e = .returned (.bool true) ∧ Below w.heap.size w w' := by
  have hlt : f < yid0 := by
    unfold bodyOK at hb
    split at hb
    · rename_i fn hf; exact Nat.lt_of_lt_of_le (Array.getElem?_eq_some_iff.1 hf).1 hsz
    · cases hb
  have hs := acall_soundAt hm hsz hX f avs _ _ hk (muC w szOf) (ownC w) w args.toList (fun _ _ _ h => by cases h) (canon_rel w szOf) hv
  rw [if_pos hlt] at hs
  have hrun := bodyOK_run hb args w
  rcases hs with ⟨g, as', h1, h2⟩ | ⟨v, h1, h2⟩
  · rw [Array.toArray_toList, hrun] at h1
    cases h1
    refine h2.mono fun e w' ⟨v, he, v', μ', own', h', g1, g2, g3, g4⟩ => ?_
    subst he
    have g1 : v' = .b true := g1
    subst g1
    cases g2
    exact ⟨rfl, g3.os, g3.tape, g3.output, g3.size0, fun k hk => (g3.fz k hk).2⟩
  · rw [Array.toArray_toList, hrun] at h1; cases h1
end Go.GAM
namespace Go.Proofs.YtffgchcidkapjaaDoor
open Go.GAM Go.RowKit

/-- With strconv.Itoa by the shelf's contract. -/
@[instance_reducible] def xr2 : XR := ⟨fun f args h K => xr1.X f args h K ∨ (f = G_strconv_Itoa.id ∧ ∃ n : Int, args = [.i .i64 n] ∧ -9223372036854775808 ≤ n ∧ n ≤ 9223372036854775807 ∧ K (.s (Lib.itoa n)) h)⟩
theorem okIt : bodyOK prog G_strconv_Itoa.id = true := by kernel_rfl

theorem soundX2 {W : World} (ht : Lib.TabIs prog W "internal/strconv.uint64pow10" .u64 Lib.pow10Tab) : SoundAt prog W (fun B => B < W.heap.size) (fun _ _ => none) xr2.X := by
  rintro f args h K (hx | ⟨rfl, n, rfl, h0, h1, hk⟩)
  · exact soundX W _ _ f args h K hx
  intro μ own w cargs hsb R hc
  rw [if_pos (by decide)]
  obtain ⟨rfl⟩ : cargs = [.int .i64 n] := by
    cases hc with | cons _ _ _ _ a b => cases a; cases b; rfl
  have ht' : Lib.TabIs prog w "internal/strconv.uint64pow10" .u64 Lib.pow10Tab := by
    have hB : Below W.heap.size W w := ⟨R.os, R.tape, R.output, R.size0, fun k hk => (R.fz k hk).2⟩
    exact Lib.tabBelow_of_tabIs ht w hB
  refine x_calls okIt R ((Tryd.strconv_Itoa n h0 h1 w ht').mono fun e w' ⟨he, k, os, hw⟩ => ⟨he, hw ▸ Lib.below_grow _ w (Nat.le_refl _) k os⟩) (.s _ _ (by simp)) hk

theorem tab_ok {W : World} {l : List (String × DataW Unit)} (hm : ("internal/strconv.uint64pow10", Rows.laid_internal_strconv_uint64pow10) ∈ l) (hL : laidMet Tryd.prog l W) : Lib.TabIs prog W "internal/strconv.uint64pow10" .u64 Lib.pow10Tab := by
  obtain ⟨g, t, cs, fuel, p, hg, ht, hv, hd⟩ := laid_shape hm hL
  obtain rfl := Option.some.inj ((show Tryd.prog.globalNamed "internal/strconv.uint64pow10" = some 0 by kernel_rfl).symm.trans hg)
  obtain rfl := Option.some.inj ((show (Tryd.prog.globals[0]?).map (·.type) = some 93 by kernel_rfl).symm.trans ht)
  have e : (Rows.laid_internal_strconv_uint64pow10 : DataW Unit) = Lib.tabData .u64 Lib.pow10Tab := by rfl
  rw [e] at hd
  have := Lib.cells_of_tab (n := 20) Tryd.underlying93 (show Tryd.prog.underlying 83 = some (.int .u64) from Tryd.underlying83) (by kernel_rfl) (by kernel_rfl) hd
  show W.var? Tryd.prog _ = _
  rw [hv, ← this]

attribute [-instance] xr1
attribute [local instance] xr2

/-- What holds without the rule holds with it. -/
theorem up {f : FuncId} {args : List AV} {h : AHeap} {K : AV → AHeap → Prop} (hk : @C xr1 f args h K) : C f args h K := fun R hm hX hF => hk R hm (fun f args h K hx => hX f args h K (.inl hx)) hF
theorem itoa_c {n : Nat} {h : AHeap} {K : AV → AHeap → Prop} (hn : n < 9223372036854775808) (hk : K (.s (Lib.decDigits n)) h) : C G_strconv_Itoa.id [.i .i64 (n : Int)] h K :=
  acall_x (.inr ⟨rfl, (n : Int), rfl, by omega, by omega, by rw [Lib.itoa_nonneg]; exact hk⟩)

end Go.Proofs.YtffgchcidkapjaaDoor

/- Oid, the program's. -/
set_option linter.unusedVariables false
set_option linter.unusedSimpArgs false
set_option linter.unusedSectionVars false
set_option maxRecDepth 20000
namespace Go.Proofs.YtffgchcidkapjaaDoor
open Go.GAM Go.RowKit
attribute [-instance] xr1
attribute [local instance] xr2

section
variable {h0 : AHeap} {Q : AV → AHeap → Prop}

theorem oid_p4 {l : List Nat} {w : AV} {h hx : AHeap} (E : Ext h hx) (W : Rd 1 hx w (l.map num) l.length) (hl : l.length ≤ 100000) (hb : ∀ n ∈ l, n < 268435456) : ∀ (r : List Nat) (i : Nat) (x : List UInt8), l.drop i = r → i ≤ l.length → x.length ≤ 30 + 11 * i →
    Q (.tu [.s (x ++ r.flatMap fun n => 46 :: Lib.decDigits n), .b true]) h → G_der_Oid.p4 (kRet h Q) x w l.length i hx := by
  intro r
  induction r with
  | nil =>
    intro i x hr hi hxl hq
    have hle := drop_end hr
    refine G_der_Oid.i4 ?_
    simp only [G_der_Oid.t4]
    refine bif_f (by simp; omega) (kRet_pure rfl E ?_)
    simpa using hq
  | cons n r ih =>
    intro i x hr hi hxl hq
    have hlt := drop_lt hr
    have hn := drop_next hr
    have hni := at_of_drop hr
    have hnb := hb n (List.mem_of_getElem? hni)
    have d1 := decDigits_len (n := n) (by omega)
    refine G_der_Oid.i4 ?_
    simp only [G_der_Oid.t4, G_der_Oid.j4]
    refine bif_t (by simp; omega) (W.nat hlt hni (itoa_c (by omega) (st_asS ⟨by simp; omega, ⟨by simp; omega, inc (by omega) ?_⟩⟩)))
    refine ih (i + 1) _ hn (by omega) (by simp; omega) ?_
    simpa [List.flatMap_cons] using hq

theorem or_add {x y : Nat} (hy : y < 128) (hx : x < 268435456) : bitsOp .or .i64 ((x * 128 : Nat) : Int) (y : Int) = ((x * 128 + y : Nat) : Int) := by
  rw [bits_or (by omega) (by omega)]
  have := Nat.two_pow_add_eq_or_of_lt (i := 7) (b := y) (by omega) x
  rw [Nat.mul_comm x 128, this]

theorem oid_loop {s : List UInt8} {cs : List AV} {h h1 : AHeap} {id : Nat} (E : Ext h h1) (B : RecAt h1 id cs) (hcl : cs.length = 5) (hc3 : cs[3]? = some (.s s)) (hs : s.length ≤ 100000) (hne : s ≠ []) :
    ∀ (r : List UInt8) (i n : Nat) (begun : Bool) (done : List Nat) (v : AV) (hx : AHeap), s.drop i = r → i ≤ s.length → n < 268435456 → (begun = false → i = 0 ∨ done ≠ []) → done.length ≤ i → (∀ m ∈ done, m < 268435456) → NewA 1 h1 hx v (done.map num) done.length →
    Q (oidT (oidX (oidD r n begun) done)) h → G_der_Oid.p1 (kRet h Q) (.p (some ⟨id, 5, 0⟩)) v n begun s.length i hx := by
  intro r
  induction r with
  | nil =>
    intro i n begun done v hx hr hi hn hb hd hbd A hq
    have hle := drop_end hr
    have Ex := E.trans A.upd.ext
    refine G_der_Oid.i1 ?_
    simp only [G_der_Oid.t1, G_der_Oid.j4]
    refine bif_f (by simp; omega) ?_
    cases begun with
    | true => exact bif_t rfl (kRet_pure rfl Ex hq)
    | false =>
      have hlp := List.length_pos_iff.2 hne
      have hdn : done ≠ [] := by
        rcases hb rfl with h | h
        · omega
        · exact h
      obtain ⟨z, dn, hdone⟩ : ∃ z dn, done = z :: dn := by
        cases done with
        | nil => exact absurd rfl hdn
        | cons z dn => exact ⟨z, dn, rfl⟩
      have hzb := hbd z (by rw [hdone]; simp)
      have hdl : done.length = dn.length + 1 := by rw [hdone]; simp
      obtain ⟨id', ver, off, cap, blk, hv, RA⟩ := A.arr.rd.at (by omega)
      have hz0 : done[0]? = some z := by rw [hdone]; rfl
      have d1 := decDigits_len (n := min (z / 40) 2) (by omega)
      have d2 := decDigits_len (n := z - 40 * min (z / 40) 2) (by omega)
      rw [hv]
      refine bif_f rfl (st_idx RA (i := 0) (by omega) (st_num RA (by omega) hz0 (quo_n (b := 40) (by omega) (by omega) ?_)))
      rw [show mmI false 2 ((z / 40 : Nat) : Int) = ((min (z / 40) 2 : Nat) : Int) by rw [Nat.min_comm]; exact mmI_min 2 _]
      refine st_idx RA (i := 0) (by omega) (st_num RA (by omega) hz0 ?_)
      refine withI_is (n := ((40 * min (z / 40) 2 : Nat) : Int)) (by rw [wrap_i64 (by omega) (by omega)]; omega) ?_
      refine withI_is (n := ((z - 40 * min (z / 40) 2 : Nat) : Int)) (by rw [wrap_i64 (by omega) (by omega)]; omega) ?_
      refine itoa_c (by omega) (st_asS (st_num RA (by omega) hz0 ⟨rfl, st_idx RA (i := 0) (by omega) ⟨rfl, ⟨by simp; omega, ?_⟩⟩⟩))
      refine itoa_c (by omega) (st_asS (st_num RA (by omega) hz0 ⟨rfl, st_idx RA (i := 0) (by omega) ⟨rfl, ⟨by simp; omega, ?_⟩⟩⟩))
      have RD := RA.dropRd (lo := 1) (by omega) (cap.map (· - 1))
      have hdr : (done.map num).drop (1 * 1) = dn.map num := by rw [hdone]; rfl
      rw [hdr, show done.length - 1 = dn.length by omega] at RD
      refine RA.drop Nat.one_pos (lo := 1) (by omega) ?_
      rw [show done.length - 1 = dn.length by omega]
      refine RD.len (oid_p4 Ex RD (by omega) (fun m hm => hbd m (by rw [hdone]; simp [hm])) dn 0 _ rfl (by omega) (by simp; omega) ?_)
      have hq : Q (.tu [.s (oidTxt (done ++ [])), .b true]) h := hq
      rw [List.append_nil, hdone] at hq
      simpa [oidTxt] using hq
  | cons c r ih =>
    intro i n begun done v hx hr hi hn hb hd hbd A hq
    have hlt := drop_lt hr
    have hnx := drop_next hr
    have hci := at_of_drop hr
    have hc := c.toNat_lt
    have Ex := E.trans A.upd.ext
    have Bx := B.upd A.upd fun h => h
    have hm := Nat.mod_lt c.toNat (show 0 < 128 by omega)
    have p3 : ∀ (o : List Nat) (n' : Nat) (b' : Bool) (v' : AV) (h' : AHeap), n' < 268435456 → (b' = false → o ≠ []) → o.length ≤ i + 1 → (∀ m ∈ o, m < 268435456) → NewA 1 h1 h' v' (o.map num) o.length → Q (oidT (oidX (oidD r n' b') o)) h → G_der_Oid.p3 (kRet h Q) (.p (some ⟨id, 5, 0⟩)) v' n' b' s.length i h' := by
      intro o n' b' v' h' hn' hb' ho hob A' hq
      refine G_der_Oid.i3 ?_
      simp only [G_der_Oid.t3, G_der_Oid.j1]
      exact inc (by omega) (ih (i + 1) n' b' o v' h' hnx (by omega) hn' (fun hh => .inr (hb' hh)) ho hob A' hq)
    have p2 : ∀ b, b = decide (begun = false ∧ c.toNat = 128) → G_der_Oid.p2 (kRet h Q) (.p (some ⟨id, 5, 0⟩)) v n (c.toNat : Int) s.length i b hx := by
      intro b hbb
      unfold oidD at hq
      refine G_der_Oid.i2 ?_
      simp only [G_der_Oid.t2, G_der_Oid.j3]
      refine bif_both (fun e => ?_) fun e => ?_
      · subst e
        rw [if_pos (of_decide_eq_true hbb.symm)] at hq
        exact kRet_pure rfl Ex hq
      · subst e
        rw [if_neg (of_decide_eq_false hbb.symm)] at hq
        refine st_shlI (b := 7) (n := ((n * 128 : Nat) : Int)) (by omega) (by omega) (by omega) (by omega) ?_
        refine withI_is (and127 (by omega)) (withI_is (or_add hm hn) ?_)
        by_cases h28 : 268435456 ≤ n * 128 + c.toNat % 128
        · rw [if_pos h28] at hq
          exact bif_t (by simp; omega) (kRet_pure rfl Ex hq)
        rw [if_neg h28] at hq
        refine bif_f (by simp; omega) ?_
        by_cases h128 : 128 ≤ c.toNat
        · rw [if_pos h128] at hq
          have e128 : decide ((128 : Int) ≤ (c.toNat : Int)) = true := decide_eq_true (by omega)
          rw [e128]
          exact bif_f rfl (p3 done _ true v hx (by omega) (fun hh => by cases hh) (by omega) hbd A hq)
        rw [if_neg h128] at hq
        have e128 : decide ((128 : Int) ≤ (c.toNat : Int)) = false := decide_eq_false (by omega)
        rw [e128]
        generalize n * 128 + c.toNat % 128 = z at *
        have hq : Q (oidT (oidX (oidD r 0 false) (done ++ [z]))) h := by
          have : oidX (match oidD r 0 false with | none => none | some l => some (z :: l)) done = oidX (oidD r 0 false) (done ++ [z]) := by
            cases oidD r 0 false <;> simp [oidX]
          rw [← this]; exact hq
        refine bif_t rfl (NewA.build A (by decide) (ns := [num z]) rfl rfl rfl (by omega) (by omega) fun v' h' A' => ?_)
        refine p3 (done ++ [z]) 0 false v' h' (by omega) (fun _ => by simp) (by simp; omega) ?_ ?_ hq
        · intro m hm
          rcases List.mem_append.1 hm with h | h
          · exact hbd m h
          · simp at h; omega
        · rw [List.map_append, List.length_append]; exact A'
    refine G_der_Oid.i1 ?_
    simp only [G_der_Oid.t1, G_der_Oid.j2]
    refine bif_t (by simp; omega) (st_fld (st_load Bx hcl.symm hc3 (st_asS (st_at hr ?_))))
    rw [wrap_i64 (by omega) (by omega)]
    cases begun with
    | false => exact bif_t rfl (p2 _ (by rw [decide_eq_decide]; simp; omega))
    | true => exact bif_f rfl (p2 _ (by simp))

theorem oid_c {d : Der} {cs : List AV} {F : Nat → Prop} {h : AHeap} (D : DV h F d cs) (hs : d.data.length ≤ 100000) (hq : Q (oidT (oidS d)) h) : C G_der_Oid.id [.ag cs] h Q := by
  refine G_der_Oid.call ?_
  simp only [G_der_Oid.t, G_der_Oid.j0]
  refine D.box fun h1 hl1 U1 B D1 => st_loadN B D.len.symm (up (plain_c D1 (st_asB ?_)))
  unfold oidS at hq
  have hc3 := D.dat
  have hcl := D.len
  generalize d.data = s at *
  refine bif_both (fun e => ?_) fun e => st_fld (st_load B hcl.symm hc3 (st_asS ?_))
  · refine G_der_Oid.i0 ?_
    simp only [G_der_Oid.t0]
    rw [if_neg (fun hh => by rw [hh.1] at e; cases e)] at hq
    exact bif_t rfl (kRet_pure rfl U1.ext hq)
  have hp : dPlain 6 d = true := by simpa using e
  refine G_der_Oid.i0 ?_
  simp only [G_der_Oid.t0, G_der_Oid.j1]
  by_cases hne : s = []
  · rw [if_neg (fun hh => hh.2 hne)] at hq
    exact bif_t (by simp [hne]) (kRet_pure rfl U1.ext hq)
  rw [if_pos ⟨hp, hne⟩] at hq
  refine bif_f (by simp [hne]) (st_fld (st_load B hcl.symm hc3 (st_asS ?_)))
  refine oid_loop U1.ext B hcl hc3 hs hne s 0 0 false [] _ h1 rfl (by omega) (by omega) (fun _ => .inl rfl) (by simp) (by simp) (NewA.start 1 h1) ?_
  have : oidX (oidD s 0 false) [] = (match oidD s 0 false with | none => ([], false) | some l => (oidTxt l, true)) := by
    cases oidD s 0 false <;> rfl
  rw [this]; exact hq

end
end Go.Proofs.YtffgchcidkapjaaDoor

/- What is written is read back: numbers, object identifiers, times. -/
set_option linter.unusedVariables false
set_option linter.unusedSimpArgs false
set_option linter.unusedSectionVars false
set_option maxRecDepth 20000
namespace Go.Proofs.YtffgchcidkapjaaDoor
open Go.GAM Go.RowKit

/-! ### numbers -/

theorem toNat_m (n : Int) : ((UInt8.ofNat (n % 256).toNat).toNat : Int) = n % 256 := by
  rw [UInt8.toNat_ofNat']; omega
theorem toNat_mN (n : Int) : (UInt8.ofNat (n % 256).toNat).toNat = (n % 256).toNat := by
  rw [UInt8.toNat_ofNat']; omega
theorem pw8 (j : Nat) : 2 ^ (8 * (j + 1)) = 2 ^ (8 * j) * 256 := by rw [Nat.mul_add, Nat.pow_add]
theorem pw7 (j : Nat) : 2 ^ (8 * (j + 1) - 1) = 2 ^ (8 * j) * 128 := by rw [show 8 * (j + 1) - 1 = 8 * j + 7 by omega, Nat.pow_add]
theorem mod256 {P n : Int} (hP : 0 < P) : n % (P * 256) = (n / P) % 256 * P + n % P := by
  have h1 := Int.emod_add_mul_ediv n P
  have h2 := Int.emod_nonneg n (Int.ne_of_gt hP)
  have h3 := Int.emod_lt_of_pos n hP
  have h4 : 0 ≤ (n / P) % 256 ∧ (n / P) % 256 < 256 := by omega
  have h5 := Int.emod_add_mul_ediv (n / P) 256
  have h6 : 0 ≤ (n / P) % 256 * P := Int.mul_nonneg h4.1 (Int.le_of_lt hP)
  have h7 : (n / P) % 256 * P ≤ 255 * P := Int.mul_le_mul_of_nonneg_right (by omega) (Int.le_of_lt hP)
  have h8 : P * (n / P) = P * ((n / P) % 256 + 256 * (n / P / 256)) := by rw [h5]
  rw [Int.mul_add, ← Int.mul_assoc] at h8
  have h9 : P * ((n / P) % 256) = (n / P) % 256 * P := Int.mul_comm _ _
  exact ((Int.ediv_emod_unique (a := n) (b := P * 256) (r := (n / P) % 256 * P + n % P) (q := n / P / 256) (by omega)).2 ⟨by omega, by omega, by omega⟩).2
theorem intF_beI : ∀ (k : Nat) (m n : Int), intF m (beI k n) = m * ((2 ^ (8 * k) : Nat) : Int) + n % ((2 ^ (8 * k) : Nat) : Int)
  | 0, m, n => by simp [beI, intF]
  | k + 1, m, n => by
    have hP : (0 : Int) < ((2 ^ (8 * k) : Nat) : Int) := by have : 0 < 2 ^ (8 * k) := Nat.pow_pos (by omega); omega
    have e : intF m (beI (k + 1) n) = intF (m * 256 + (((UInt8.ofNat ((n / ((2 ^ (8 * k) : Nat) : Int)) % 256).toNat).toNat : Nat) : Int)) (beI k n) := rfl
    rw [e, toNat_m, intF_beI k, pw8, Int.natCast_mul]
    show _ = m * (((2 ^ (8 * k) : Nat) : Int) * 256) + n % (((2 ^ (8 * k) : Nat) : Int) * 256)
    rw [mod256 hP, Int.add_mul, Int.mul_assoc, Int.mul_comm 256, Int.add_assoc]
theorem int_inv {n : Int} (h : ¬ intBig n) : intV (beI (kI n) n) = n ∧ intBad (beI (kI n) n) = false := by
  have h1 := kI_fit h
  have h2 : ∀ j, 1 ≤ j → j < kI n → ¬ fitI j n := fun j a b => kI_least a b
  have hk := kI_bd n
  generalize kI n = k at *
  obtain ⟨j, rfl⟩ : ∃ j, k = j + 1 := ⟨k - 1, by omega⟩
  constructor
  · have hP : (0 : Int) < ((2 ^ (8 * j) : Nat) : Int) := by have : 0 < 2 ^ (8 * j) := Nat.pow_pos (by omega); omega
    unfold fitI at h1
    rw [pw7, Int.natCast_mul] at h1
    have hF := fun m => intF_beI j m n
    show intF (if (UInt8.ofNat ((n / ((2 ^ (8 * j) : Nat) : Int)) % 256).toNat).toNat < 128 then (((UInt8.ofNat ((n / ((2 ^ (8 * j) : Nat) : Int)) % 256).toNat).toNat : Nat) : Int) else (((UInt8.ofNat ((n / ((2 ^ (8 * j) : Nat) : Int)) % 256).toNat).toNat : Nat) : Int) - 256) (beI j n) = n
    generalize ((2 ^ (8 * j) : Nat) : Int) = P at *
    have h1 : -(P * 128) ≤ n ∧ n < P * 128 := h1
    have q0 : -128 ≤ n / P := Int.le_ediv_of_mul_le hP (by omega)
    have q1 : n / P < 128 := Int.ediv_lt_of_lt_mul hP (by omega)
    have e := Int.emod_add_mul_ediv n P
    rw [toNat_mN]
    have sg : (if (n / P % 256).toNat < 128 then (((n / P % 256).toNat : Nat) : Int) else (((n / P % 256).toNat : Nat) : Int) - 256) = n / P := by split <;> omega
    rw [sg, hF, Int.mul_comm]
    omega
  · cases j with
    | zero => rfl
    | succ j =>
      have h2 := h2 (j + 1) (by omega) (by omega)
      have hP : (0 : Int) < ((2 ^ (8 * j) : Nat) : Int) := by have : 0 < 2 ^ (8 * j) := Nat.pow_pos (by omega); omega
      unfold fitI at h1 h2
      rw [pw7, pw8, Int.natCast_mul, Int.natCast_mul] at h1
      rw [pw7, Int.natCast_mul] at h2
      have hl : (beI j n).length = j := beI_len j n
      show intBad (UInt8.ofNat ((n / ((2 ^ (8 * (j + 1)) : Nat) : Int)) % 256).toNat :: UInt8.ofNat ((n / ((2 ^ (8 * j) : Nat) : Int)) % 256).toNat :: beI j n) = false
      rw [intBad_2, toNat_mN, toNat_mN, pw8, Int.natCast_mul]
      generalize ((2 ^ (8 * j) : Nat) : Int) = P at *
      have h1 : -(P * 256 * 128) ≤ n ∧ n < P * 256 * 128 := h1
      have h2 : ¬ (-(P * 128) ≤ n ∧ n < P * 128) := h2
      have q0 : -32768 ≤ n / P := Int.le_ediv_of_mul_le hP (by omega)
      have q1 : n / P < 32768 := Int.ediv_lt_of_lt_mul hP (by omega)
      have q2 : ¬ (-128 ≤ n / P ∧ n / P < 128) := fun ⟨a, b⟩ => h2 ⟨by have := Int.mul_le_of_le_ediv hP a; omega, by have := Int.lt_mul_of_ediv_lt hP b; omega⟩
      have e : n / (P * ((256 : Nat) : Int)) = n / P / 256 := by rw [Int.ediv_ediv, if_neg (by omega)]; simp
      rw [e]
      generalize n / P = q at *
      simp only [Bool.or_eq_false_iff, Bool.and_eq_false_iff, decide_eq_false_iff_not, List.length_cons, hl]
      omega

theorem intS_zero : intS (.mk 0 0 false [] []) = (0, false) := by decide
theorem intS_of {n : Int} (h : ¬ intBig n) : intS (.mk 0 2 false (beI (kI n) n) []) = (n, true) := by
  obtain ⟨h1, h2⟩ := int_inv h
  unfold intS
  rw [if_pos ⟨by simp [dPlain], h2⟩]
  exact congrArg (fun x => (x, true)) h1

/-! ### times -/

theorem two_all (k : Nat) : (twoS k).all digB = true := by
  unfold twoS digB
  simp only [List.all_cons, List.all_nil, Bool.and_true, Bool.and_eq_true, decide_eq_true_eq, UInt8.toNat_ofNat']
  omega
theorem pair_two (k : Nat) (r : List UInt8) : pairsN (twoS k ++ r) = (k % 100) :: pairsN r := by
  show (((UInt8.ofNat (48 + k / 10 % 10)).toNat - 48) * 10 + ((UInt8.ofNat (48 + k % 10)).toNat - 48)) :: pairsN r = _
  rw [UInt8.toNat_ofNat', UInt8.toNat_ofNat']
  congr 1
  omega

theorem time_inv {n y m d : Nat} (hn : n ≤ 253402300799) (D : Date (n / 86400) y m d) :
    ∃ t : Int, ∃ s, timeOfS y m d (n % 86400) = leafC 0 t false s ∧ s.length ≤ 15 ∧ timeS (.mk 0 t false s []) = ((n : Int), true) := by
  have hy := D.y4 (by omega)
  have hy0 := D.y0
  have hb := daysN_bd y m
  have hm := D.m1
  have hm0 := D.m0
  have hd := D.d1
  have hd0 := D.d0
  have hr : n % 86400 < 86400 := Nat.mod_lt _ (by omega)
  have hfin : ∀ r, r = n % 86400 → finT y m (d + 1) (r / 3600) (r / 60 % 60) (r % 60) = ((n : Int), true) := by
    rintro r rfl
    unfold finT
    rw [if_neg (by unfold badT; omega)]
    unfold secN
    congr 1
    omega
  generalize hre : n % 86400 = r at *
  have hfull : ∀ c : List UInt8, c = twoS (y / 100) ++ clockS y m d r → (if c.getD 14 0 = 90 ∧ (c.take 14).all digB = true then finL (pairsN (c.take 14)) else (0, false)) = ((n : Int), true) := by
    rintro c rfl
    have e : (twoS (y / 100) ++ clockS y m d r).take 14 = twoS (y / 100) ++ (twoS y ++ (twoS m ++ (twoS (d + 1) ++ (twoS (r / 3600) ++ (twoS (r / 60 % 60) ++ (twoS (r % 60) ++ [])))))) := rfl
    rw [e]
    rw [if_pos ⟨rfl, by simp only [List.all_append, two_all, List.all_nil, Bool.and_self]⟩]
    simp only [pair_two]
    rw [show pairsN [] = [] from rfl]
    show finT (100 * (y / 100 % 100) + y % 100) (m % 100) ((d + 1) % 100) (r / 3600 % 100) (r / 60 % 60 % 100) (r % 60 % 100) = _
    rw [show 100 * (y / 100 % 100) + y % 100 = y by omega, show m % 100 = m by omega, show (d + 1) % 100 = d + 1 by omega, show r / 3600 % 100 = r / 3600 by omega, show r / 60 % 60 % 100 = r / 60 % 60 by omega, show r % 60 % 100 = r % 60 by omega]
    exact hfin r rfl
  unfold timeOfS
  by_cases h50 : y < 2050
  · rw [if_pos h50]
    refine ⟨23, _, rfl, by show 13 ≤ 15; omega, ?_⟩
    unfold timeS fullS
    rw [if_neg (by simp [dPlain]), if_pos (by simp [dPlain]), if_pos (show (Der.mk 0 23 false (clockS y m d r) []).data.length = 13 from rfl)]
    have e : (if 53 ≤ ((clockS y m d r).getD 0 0).toNat then [49, 57] else [50, 48] : List UInt8) = twoS (y / 100) := by
      show (if 53 ≤ (UInt8.ofNat (48 + y / 10 % 10)).toNat then [49, 57] else [50, 48] : List UInt8) = _
      rw [UInt8.toNat_ofNat']
      by_cases h2 : y < 2000
      · rw [if_pos (by omega), show y / 100 = 19 by omega]; rfl
      · rw [if_neg (by omega), show y / 100 = 20 by omega]; rfl
    show (match some ((if 53 ≤ ((clockS y m d r).getD 0 0).toNat then [49, 57] else [50, 48] : List UInt8) ++ clockS y m d r) with
      | none => (0, false)
      | some s => if s.getD 14 0 = 90 ∧ (s.take 14).all digB = true then finL (pairsN (s.take 14)) else (0, false)) = _
    rw [e]
    exact hfull _ rfl
  · rw [if_neg h50]
    refine ⟨24, _, rfl, by show 15 ≤ 15; omega, ?_⟩
    unfold timeS fullS
    rw [if_pos (by simp [dPlain]), if_pos (show (Der.mk 0 24 false (twoS (y / 100) ++ clockS y m d r) []).data.length = 15 from rfl)]
    exact hfull _ rfl
theorem timeS_zero : timeS (.mk 0 0 false [] []) = (0, false) := by decide

/-! ### object identifiers -/

theorem dig_back {c : UInt8} (h : digB c = true) : UInt8.ofNat (48 + (c.toNat - 48)) = c := by
  have := digB_bd h
  apply UInt8.toNat_inj.1
  rw [UInt8.toNat_ofNat']
  have := c.toNat_lt
  omega
theorem dec_back : ∀ n (s : List UInt8), s.length = n → s ≠ [] → ¬ lead0 s → s.all digB = true → Lib.decDigits (nat10 s) = s := by
  intro n
  induction n with
  | zero => intro s hl hne; exact absurd (List.eq_nil_of_length_eq_zero hl) hne
  | succ n ih =>
    intro s hl hne h0 hall
    obtain ⟨t, c, rfl⟩ : ∃ t c, s = t ++ [c] := ⟨s.dropLast, s.getLast hne, (List.dropLast_concat_getLast hne).symm⟩
    have hlt : t.length = n := by simpa using hl
    simp only [List.all_append, Bool.and_eq_true, List.all_cons, List.all_nil, Bool.and_true] at hall
    have hc := digB_bd hall.2
    rw [nat10_snoc]
    by_cases ht : t = []
    · subst ht
      rw [show nat10 [] = 0 from rfl, Lib.decDigits, dif_pos (by omega)]
      simp only [Nat.zero_mul, Nat.zero_add, List.nil_append]
      rw [dig_back hall.2]
    · have hlp := List.length_pos_iff.2 ht
      have h0t : ¬ lead0 t := fun e => h0 ⟨by rw [← e.1]; cases t with | nil => exact absurd rfl ht | cons a t => rfl, by simp; omega⟩
      have hlb := nat10_lb hne h0 (by simp [hall]) (by simp; omega)
      have hp : 10 ^ 1 ≤ 10 ^ ((t ++ [c]).length - 1) := Nat.pow_le_pow_right (by omega) (by simp; omega)
      rw [nat10_snoc] at hlb
      rw [Lib.decDigits, dif_neg (by omega), show (nat10 t * 10 + (c.toNat - 48)) / 10 = nat10 t by omega, show (nat10 t * 10 + (c.toNat - 48)) % 10 = c.toNat - 48 by omega, ih t hlt ht h0t hall.1, dig_back hall.2]
theorem decN_back {w : List UInt8} {n : Nat} (h : decN w = some n) : Lib.decDigits n = w := by
  unfold decN at h
  split at h
  · rename_i hc; cases h; exact dec_back _ w rfl hc.1 hc.2.2.1 hc.2.2.2.1
  · cases h

def cat46 : List (List UInt8) → List UInt8
  | [] => []
  | w :: r => w ++ r.flatMap fun x => 46 :: x
theorem cat_split : ∀ s : List UInt8, cat46 (splitS 46 s) = s
  | [] => rfl
  | c :: r => by
    have ih := cat_split r
    have hne := splitS_ne 46 r
    unfold splitS
    cases hs : splitS 46 r with
    | nil => exact absurd hs hne
    | cons w ws =>
      rw [hs] at ih
      split
      · rename_i hc
        subst hc
        rw [show cat46 ([] :: w :: ws) = 46 :: cat46 (w :: ws) from rfl, ih]
      · show ([c] ++ w) ++ _ = _
        rw [List.append_assoc]
        exact congrArg (c :: ·) ih
theorem decAll_back : ∀ {ws : List (List UInt8)} {l : List Nat}, decAll ws = some l → ws = l.map Lib.decDigits
  | [], l, h => by cases h; rfl
  | w :: r, l, h => by
    rw [decAll_cons] at h
    cases hn : decN w with
    | none => rw [hn] at h; cases h
    | some n =>
      rw [hn] at h
      cases hr : decAll r with
      | none => rw [hr] at h; cases h
      | some l' =>
        rw [hr] at h
        cases h
        rw [List.map_cons, decN_back hn, ← decAll_back hr]

theorem oidD_go {x n : Nat} {b : Bool} {r : List UInt8} (hx : x < 128) (h0 : b = false → x ≠ 0) (hn : n * 128 + x < 268435456) : oidD (UInt8.ofNat (x + 128) :: r) n b = oidD r (n * 128 + x) true := by
  have e : (UInt8.ofNat (x + 128)).toNat = x + 128 := toNat_of (by omega)
  rw [oidD, e, if_neg (fun h => h0 h.1 (by omega)), show (x + 128) % 128 = x by omega, if_neg (by omega), if_pos (by omega)]
theorem oidD_fin {x n : Nat} {b : Bool} {r : List UInt8} (hx : x < 128) (hn : n * 128 + x < 268435456) : oidD (UInt8.ofNat x :: r) n b = match oidD r 0 false with
    | none => none
    | some l => some ((n * 128 + x) :: l) := by
  have e : (UInt8.ofNat x).toNat = x := toNat_of (by omega)
  rw [oidD, e, if_neg (fun h => by omega), show x % 128 = x by omega, if_neg (by omega), if_neg (by omega)]
  cases oidD r 0 false <;> rfl
theorem oidD_arc {n : Nat} (hn : n < 268435456) (r : List UInt8) : oidD (arcS n ++ r) 0 false = match oidD r 0 false with
    | none => none
    | some l => some (n :: l) := by
  unfold arcS arcN
  split
  · show oidD (UInt8.ofNat (n % 128) :: r) 0 false = _
    rw [oidD_fin (by omega) (by omega), show 0 * 128 + n % 128 = n by omega]
  split
  · show oidD (UInt8.ofNat (n / 128 % 128 + 128) :: UInt8.ofNat (n % 128) :: r) 0 false = _
    rw [oidD_go (by omega) (fun _ => by omega) (by omega), oidD_fin (by omega) (by omega), show (0 * 128 + n / 128 % 128) * 128 + n % 128 = n by omega]
  split
  · show oidD (UInt8.ofNat (n / 16384 % 128 + 128) :: UInt8.ofNat (n / 128 % 128 + 128) :: UInt8.ofNat (n % 128) :: r) 0 false = _
    rw [oidD_go (by omega) (fun _ => by omega) (by omega), oidD_go (by omega) (fun h => by cases h) (by omega), oidD_fin (by omega) (by omega), show ((0 * 128 + n / 16384 % 128) * 128 + n / 128 % 128) * 128 + n % 128 = n by omega]
  · show oidD (UInt8.ofNat (n / 2097152 % 128 + 128) :: UInt8.ofNat (n / 16384 % 128 + 128) :: UInt8.ofNat (n / 128 % 128 + 128) :: UInt8.ofNat (n % 128) :: r) 0 false = _
    rw [oidD_go (by omega) (fun _ => by omega) (by omega), oidD_go (by omega) (fun h => by cases h) (by omega), oidD_go (by omega) (fun h => by cases h) (by omega), oidD_fin (by omega) (by omega),
      show (((0 * 128 + n / 2097152 % 128) * 128 + n / 16384 % 128) * 128 + n / 128 % 128) * 128 + n % 128 = n by omega]
theorem oidD_arcs : ∀ l : List Nat, (∀ n ∈ l, n < 268435456) → oidD (l.flatMap arcS) 0 false = some l
  | [], _ => rfl
  | n :: l, h => by
    rw [List.flatMap_cons, oidD_arc (h n (by simp)), oidD_arcs l fun m hm => h m (by simp [hm])]

theorem oid_inv {s l : List UInt8} (h : oidOfS s = .ok l) : oidS (.mk 0 6 false l []) = (s, true) ∧ l.length ≤ 100000 := by
  unfold oidOfS at h
  split at h
  · cases h
  rename_i hs
  cases hd : decAll (splitS 46 s) with
  | none => rw [hd] at h; cases h
  | some nums =>
    rw [hd] at h
    have h : oidL nums = .ok l := h
    obtain ⟨hb, hl⟩ := decAll_bd hd
    have hback := decAll_back hd
    by_cases h2 : nums.length < 2
    · rw [oidL_short h2] at h; cases h
    obtain ⟨a, b, r, rfl⟩ := two_of h2
    unfold oidL at h
    simp only at h
    split at h
    · cases h
    rename_i hab
    cases h
    have hb' : ∀ n ∈ (40 * a + b) :: r, n < 268435456 := fun n hn => by
      rcases List.mem_cons.1 hn with rfl | hn
      · omega
      · exact hb n (by simp [hn])
    have hne : ((40 * a + b) :: r).flatMap arcS ≠ [] := by
      intro e
      have := oidD_arcs _ hb'
      rw [e] at this
      cases this
    have hlen : ∀ q : List Nat, (q.flatMap arcS).length ≤ 4 * q.length := by
      intro q
      induction q with
      | nil => simp
      | cons x q ih =>
        have : (arcS x).length ≤ 4 := by
          unfold arcS arcN
          repeat' split
          all_goals simp [arcK]
        rw [List.flatMap_cons, List.length_append, List.length_cons]; omega
    constructor
    · unfold oidS
      rw [if_pos ⟨by simp [dPlain], hne⟩]
      show (match oidD (((40 * a + b) :: r).flatMap arcS) 0 false with
        | none => ([], false)
        | some l => (oidTxt l, true)) = _
      rw [oidD_arcs _ hb']
      have hmin : min ((40 * a + b) / 40) 2 = a := by omega
      show (oidTxt ((40 * a + b) :: r), true) = _
      have e : oidTxt ((40 * a + b) :: r) = Lib.decDigits a ++ [46] ++ Lib.decDigits b ++ r.flatMap fun n => 46 :: Lib.decDigits n := by
        show Lib.decDigits (min ((40 * a + b) / 40) 2) ++ [46] ++ Lib.decDigits (40 * a + b - 40 * min ((40 * a + b) / 40) 2) ++ _ = _
        rw [hmin, show 40 * a + b - 40 * a = b by omega]
      rw [e]
      congr 1
      have := cat_split s
      rw [hback] at this
      rw [← this]
      simp [cat46, List.flatMap_map]
    · have h1 := hlen ((40 * a + b) :: r)
      have h2 := split_len (sp := 46) s
      have h3 : Lib.countByte s 46 ≤ s.length := List.count_le_length
      rw [hback] at h2
      simp at h2 h1 ⊢
      omega
theorem oidS_zero : oidS (.mk 0 0 false [] []) = ([], false) := by decide

end Go.Proofs.YtffgchcidkapjaaDoor

/- The law's text in the abstract machine: printed by Gen.lean, checked by Lean's kernel. -/
set_option linter.unusedVariables false
set_option linter.unusedSectionVars false
set_option maxRecDepth 100000
namespace Go.Proofs.YtffgchcidkapjaaDoor
open Go.GAM
variable [XR]
--@@ G_law33_DerInverse
/-! ### 10: intrusion/intrusionlaw33.DerInverse -/
noncomputable def G_law33_DerInverse.body : Code := (Tryd.f10.body).getD .skip
def G_law33_DerInverse.ann : Ann := (.seq 0 [0, 1] .leaf (.seq 0 [0, 1] (.seq 0 [0, 1, 17] .leaf (.br (.seq 0 [4] .leaf .leaf) .leaf)) (.seq 0 [0, 1, 5] .leaf (.seq 0 [0, 1, 6, 7] .leaf (.seq 1 [0, 1, 6, 7, 8] .leaf (.seq 0 [0, 1] (.seq 2 [0, 1, 41] .leaf (.br (.seq 0 [4] .leaf .leaf) .leaf)) (.seq 0 [0, 1, 9] .leaf (.seq 0 [0, 1, 10, 11] .leaf (.seq 0 [1] (.seq 3 [1, 64] .leaf (.br (.seq 0 [4] .leaf .leaf) .leaf)) (.seq 0 [1] (.seq 0 [1, 67] .leaf (.br (.seq 0 [4] .leaf .leaf) .leaf)) (.seq 0 [1, 12, 13] .leaf (.seq 0 [1, 13, 14, 15] .leaf (.seq 4 [4] .leaf .leaf)))))))))))))
theorem G_law33_DerInverse.body_eq : Tryd.f10.body = some G_law33_DerInverse.body := by kernel_rfl
theorem G_law33_DerInverse.dist : noTwice (places G_law33_DerInverse.ann G_law33_DerInverse.body) = true := by kernel_rfl
noncomputable def G_law33_DerInverse.J (Q : AV → AHeap → Prop) : JT := funJ prog C Tryd.f10 G_law33_DerInverse.ann G_law33_DerInverse.body Q
theorem G_law33_DerInverse.goR {Q : AV → AHeap → Prop} {k : Nat} {p : List Nat} (hl : lookJ (places G_law33_DerInverse.ann G_law33_DerInverse.body) k = some (p, false)) {e : Env} {h : AHeap} (hk : atJ prog C 91 (G_law33_DerInverse.J Q) false p G_law33_DerInverse.ann G_law33_DerInverse.body e h (kFun prog Tryd.f10 Q)) : G_law33_DerInverse.J Q k e h := goJ_run (P := prog) (fn := Tryd.f10) (ann := G_law33_DerInverse.ann) (body := G_law33_DerInverse.body) (Q := Q) (k := k) (p := p) (e := e) (h := h) (acall_le X) G_law33_DerInverse.dist hl hk
theorem G_law33_DerInverse.goH {Q : AV → AHeap → Prop} {k : Nat} {p : List Nat} (hl : lookJ (places G_law33_DerInverse.ann G_law33_DerInverse.body) k = some (p, true)) {e : Env} {h : AHeap} (hk : atJ prog C 91 (G_law33_DerInverse.J Q) true p G_law33_DerInverse.ann G_law33_DerInverse.body e h (kFun prog Tryd.f10 Q)) : G_law33_DerInverse.J Q k e h := goJ_head (P := prog) (fn := Tryd.f10) (ann := G_law33_DerInverse.ann) (body := G_law33_DerInverse.body) (Q := Q) (k := k) (p := p) (e := e) (h := h) (acall_le X) G_law33_DerInverse.dist hl hk
def G_law33_DerInverse.p1 (Q : AV → AHeap → Prop) (x0 : Int) (x1 : List UInt8) (x41 : Bool) (h : AHeap) : Prop := G_law33_DerInverse.J Q 2 [(0, (AV.i .i64 x0)), (1, (AV.s x1)), (41, (AV.b x41))] h
theorem G_law33_DerInverse.j1 (Q : AV → AHeap → Prop) (x0 : Int) (x1 : List UInt8) (x41 : Bool) (h : AHeap) : G_law33_DerInverse.J Q 2 [(0, (AV.i .i64 x0)), (1, (AV.s x1)), (41, (AV.b x41))] h = G_law33_DerInverse.p1 Q x0 x1 x41 h := rfl
def G_law33_DerInverse.p2 (Q : AV → AHeap → Prop) (x1 : List UInt8) (x64 : Bool) (h : AHeap) : Prop := G_law33_DerInverse.J Q 3 [(1, (AV.s x1)), (64, (AV.b x64))] h
theorem G_law33_DerInverse.j2 (Q : AV → AHeap → Prop) (x1 : List UInt8) (x64 : Bool) (h : AHeap) : G_law33_DerInverse.J Q 3 [(1, (AV.s x1)), (64, (AV.b x64))] h = G_law33_DerInverse.p2 Q x1 x64 h := rfl
def G_law33_DerInverse.p3 (Q : AV → AHeap → Prop) (x4 : Bool) (h : AHeap) : Prop := G_law33_DerInverse.J Q 4 [(4, (AV.b x4))] h
theorem G_law33_DerInverse.j3 (Q : AV → AHeap → Prop) (x4 : Bool) (h : AHeap) : G_law33_DerInverse.J Q 4 [(4, (AV.b x4))] h = G_law33_DerInverse.p3 Q x4 h := rfl
def G_law33_DerInverse.p0 (Q : AV → AHeap → Prop) (x0 : Int) (x1 : List UInt8) (x6 : Int) (x7 : Bool) (x8 : Bool) (h : AHeap) : Prop := G_law33_DerInverse.J Q 1 [(0, (AV.i .i64 x0)), (1, (AV.s x1)), (6, (AV.i .i64 x6)), (7, (AV.b x7)), (8, (AV.b x8))] h
theorem G_law33_DerInverse.j0 (Q : AV → AHeap → Prop) (x0 : Int) (x1 : List UInt8) (x6 : Int) (x7 : Bool) (x8 : Bool) (h : AHeap) : G_law33_DerInverse.J Q 1 [(0, (AV.i .i64 x0)), (1, (AV.s x1)), (6, (AV.i .i64 x6)), (7, (AV.b x7)), (8, (AV.b x8))] h = G_law33_DerInverse.p0 Q x0 x1 x6 x7 x8 h := rfl
def G_law33_DerInverse.t1 (J : JT) (Q : AV → AHeap → Prop) (x0 : Int) (x1 : List UInt8) (x41 : Bool) (h : AHeap) : Prop :=
(bif x41 then
(Q (AV.b false) h)
else
(C G_der_TimeOf.id [(AV.i .i64 x0)] h fun v28 h29 =>
pAlloc [(AV.i .i64 0), (AV.i .i64 0), (AV.b false), (AV.s []), (AV.sl none 0 none)] h29 fun v30 h31 =>
pStore 5 v30 v28 h31 fun h32 =>
pLoadN 5 v30 h32 fun v34 =>
C G_der_Time.id [v34] h32 fun v35 h36 =>
pExtract 0 v35 fun v37 =>
asI .i64 v37 fun n38 =>
pExtract 1 v35 fun v39 =>
asB v39 fun c40 =>
(bif (decide ((0 : Int) ≤ x0)) then
((bif (!(c40 == (decide ((x0 : Int) ≤ 253402300799)))) then
(J 3 [(1, (AV.s x1)), (64, (AV.b true))] h36)
else
((bif c40 then
(J 3 [(1, (AV.s x1)), (64, (AV.b (!decide ((n38 : Int) = x0))))] h36)
else
(J 3 [(1, (AV.s x1)), (64, (AV.b false))] h36)))))
else
((bif (!(c40 == false)) then
(J 3 [(1, (AV.s x1)), (64, (AV.b true))] h36)
else
((bif c40 then
(J 3 [(1, (AV.s x1)), (64, (AV.b (!decide ((n38 : Int) = x0))))] h36)
else
(J 3 [(1, (AV.s x1)), (64, (AV.b false))] h36))))))))
theorem G_law33_DerInverse.t1_eq (J : JT) (Q : AV → AHeap → Prop) (x0 : Int) (x1 : List UInt8) (x41 : Bool) (h : AHeap) : G_law33_DerInverse.t1 J Q x0 x1 x41 h = atJ prog C 91 J false [1, 1, 1, 1, 1, 0, 1] G_law33_DerInverse.ann G_law33_DerInverse.body [(0, (AV.i .i64 x0)), (1, (AV.s x1)), (41, (AV.b x41))] h (kFun prog Tryd.f10 Q) := by kernel_rfl
theorem G_law33_DerInverse.i1 {Q : AV → AHeap → Prop} {x0 : Int} {x1 : List UInt8} {x41 : Bool} {h : AHeap} (H : G_law33_DerInverse.t1 (G_law33_DerInverse.J Q) Q x0 x1 x41 h) : G_law33_DerInverse.p1 Q x0 x1 x41 h := G_law33_DerInverse.goR (k := 2) (p := [1, 1, 1, 1, 1, 0, 1]) (by kernel_rfl) ((G_law33_DerInverse.t1_eq (G_law33_DerInverse.J Q) Q x0 x1 x41 h).mp H)
def G_law33_DerInverse.t2 (J : JT) (Q : AV → AHeap → Prop) (x1 : List UInt8) (x64 : Bool) (h : AHeap) : Prop :=
(bif x64 then
(Q (AV.b false) h)
else
((bif (decide ((300 : Int) < (x1.length : Int))) then
(Q (AV.b true) h)
else
(C G_der_OidOf.id [(AV.s x1)] h fun v53 h54 =>
pExtract 0 v53 fun v55 =>
pExtract 1 v53 fun v56 =>
asI .i64 v56 fun n57 =>
pAlloc [(AV.i .i64 0), (AV.i .i64 0), (AV.b false), (AV.s []), (AV.sl none 0 none)] h54 fun v58 h59 =>
pStore 5 v58 v55 h59 fun h60 =>
pLoadN 5 v58 h60 fun v62 =>
C G_der_Oid.id [v62] h60 fun v63 h64 =>
pExtract 0 v63 fun v65 =>
asS v65 fun l66 =>
pExtract 1 v63 fun v67 =>
asB v67 fun c68 =>
(bif ((decide ((n57 : Int) = 0)) == c68) then
((bif (!c68) then
(J 4 [(4, (AV.b true))] h64)
else
(J 4 [(4, (AV.b (decide ((l66 : List UInt8) = x1))))] h64)))
else
(J 4 [(4, (AV.b false))] h64))))))
theorem G_law33_DerInverse.t2_eq (J : JT) (Q : AV → AHeap → Prop) (x1 : List UInt8) (x64 : Bool) (h : AHeap) : G_law33_DerInverse.t2 J Q x1 x64 h = atJ prog C 91 J false [1, 1, 1, 1, 1, 1, 1, 1, 0, 1] G_law33_DerInverse.ann G_law33_DerInverse.body [(1, (AV.s x1)), (64, (AV.b x64))] h (kFun prog Tryd.f10 Q) := by kernel_rfl
theorem G_law33_DerInverse.i2 {Q : AV → AHeap → Prop} {x1 : List UInt8} {x64 : Bool} {h : AHeap} (H : G_law33_DerInverse.t2 (G_law33_DerInverse.J Q) Q x1 x64 h) : G_law33_DerInverse.p2 Q x1 x64 h := G_law33_DerInverse.goR (k := 3) (p := [1, 1, 1, 1, 1, 1, 1, 1, 0, 1]) (by kernel_rfl) ((G_law33_DerInverse.t2_eq (G_law33_DerInverse.J Q) Q x1 x64 h).mp H)
def G_law33_DerInverse.t3 (J : JT) (Q : AV → AHeap → Prop) (x4 : Bool) (h : AHeap) : Prop :=
Q (AV.b x4) h
theorem G_law33_DerInverse.t3_eq (J : JT) (Q : AV → AHeap → Prop) (x4 : Bool) (h : AHeap) : G_law33_DerInverse.t3 J Q x4 h = atJ prog C 91 J false [1, 1, 1, 1, 1, 1, 1, 1, 1, 1, 1, 1, 1] G_law33_DerInverse.ann G_law33_DerInverse.body [(4, (AV.b x4))] h (kFun prog Tryd.f10 Q) := by kernel_rfl
theorem G_law33_DerInverse.i3 {Q : AV → AHeap → Prop} {x4 : Bool} {h : AHeap} (H : G_law33_DerInverse.t3 (G_law33_DerInverse.J Q) Q x4 h) : G_law33_DerInverse.p3 Q x4 h := G_law33_DerInverse.goR (k := 4) (p := [1, 1, 1, 1, 1, 1, 1, 1, 1, 1, 1, 1, 1]) (by kernel_rfl) ((G_law33_DerInverse.t3_eq (G_law33_DerInverse.J Q) Q x4 h).mp H)
def G_law33_DerInverse.t0 (J : JT) (Q : AV → AHeap → Prop) (x0 : Int) (x1 : List UInt8) (x6 : Int) (x7 : Bool) (x8 : Bool) (h : AHeap) : Prop :=
(bif (!(x7 == x8)) then
(J 2 [(0, (AV.i .i64 x0)), (1, (AV.s x1)), (41, (AV.b true))] h)
else
((bif x8 then
(J 2 [(0, (AV.i .i64 x0)), (1, (AV.s x1)), (41, (AV.b (!decide ((x6 : Int) = x0))))] h)
else
(J 2 [(0, (AV.i .i64 x0)), (1, (AV.s x1)), (41, (AV.b false))] h))))
theorem G_law33_DerInverse.t0_eq (J : JT) (Q : AV → AHeap → Prop) (x0 : Int) (x1 : List UInt8) (x6 : Int) (x7 : Bool) (x8 : Bool) (h : AHeap) : G_law33_DerInverse.t0 J Q x0 x1 x6 x7 x8 h = atJ prog C 91 J false [1, 1, 1, 1, 1] G_law33_DerInverse.ann G_law33_DerInverse.body [(0, (AV.i .i64 x0)), (1, (AV.s x1)), (6, (AV.i .i64 x6)), (7, (AV.b x7)), (8, (AV.b x8))] h (kFun prog Tryd.f10 Q) := by kernel_rfl
theorem G_law33_DerInverse.i0 {Q : AV → AHeap → Prop} {x0 : Int} {x1 : List UInt8} {x6 : Int} {x7 : Bool} {x8 : Bool} {h : AHeap} (H : G_law33_DerInverse.t0 (G_law33_DerInverse.J Q) Q x0 x1 x6 x7 x8 h) : G_law33_DerInverse.p0 Q x0 x1 x6 x7 x8 h := G_law33_DerInverse.goR (k := 1) (p := [1, 1, 1, 1, 1]) (by kernel_rfl) ((G_law33_DerInverse.t0_eq (G_law33_DerInverse.J Q) Q x0 x1 x6 x7 x8 h).mp H)
def G_law33_DerInverse.t (J : JT) (Q : AV → AHeap → Prop) (x0 : Int) (x1 : List UInt8) (h : AHeap) : Prop :=
C G_law33_lives.id [] h fun v1 h2 =>
asB v1 fun c3 =>
(bif (!c3) then
(Q (AV.b false) h2)
else
(C G_der_IntOf.id [(AV.i .i64 x0)] h2 fun v7 h8 =>
pAlloc [(AV.i .i64 0), (AV.i .i64 0), (AV.b false), (AV.s []), (AV.sl none 0 none)] h8 fun v9 h10 =>
pStore 5 v9 v7 h10 fun h11 =>
pLoadN 5 v9 h11 fun v13 =>
C G_der_Int.id [v13] h11 fun v14 h15 =>
pExtract 0 v14 fun v16 =>
asI .i64 v16 fun n17 =>
pExtract 1 v14 fun v18 =>
asB v18 fun c19 =>
(bif (decide (((-140737488355328) : Int) ≤ x0)) then
(J 1 [(0, (AV.i .i64 x0)), (1, (AV.s x1)), (6, (AV.i .i64 n17)), (7, (AV.b c19)), (8, (AV.b (decide ((x0 : Int) < 140737488355328))))] h15)
else
(J 1 [(0, (AV.i .i64 x0)), (1, (AV.s x1)), (6, (AV.i .i64 n17)), (7, (AV.b c19)), (8, (AV.b false))] h15))))
theorem G_law33_DerInverse.t_eq (J : JT) (Q : AV → AHeap → Prop) (x0 : Int) (x1 : List UInt8) (h : AHeap) : G_law33_DerInverse.t J Q x0 x1 h = exJ prog C 91 J G_law33_DerInverse.ann G_law33_DerInverse.body (initEnv 0 [(AV.i .i64 x0), (AV.s x1)]) h (kFun prog Tryd.f10 Q) := by kernel_rfl
theorem G_law33_DerInverse.call {K : AV → AHeap → Prop} {x0 : Int} {x1 : List UInt8} {h : AHeap} (H : G_law33_DerInverse.t (G_law33_DerInverse.J (kRet h K)) (kRet h K) x0 x1 h) : C G_law33_DerInverse.id [(AV.i .i64 x0), (AV.s x1)] h K :=
  callJ (P := prog) (fn := Tryd.f10) (ann := G_law33_DerInverse.ann) (body := G_law33_DerInverse.body) Tryd.func10 G_law33_DerInverse.body_eq (by kernel_rfl) G_law33_DerInverse.dist (by kernel_rfl) ((G_law33_DerInverse.t_eq (G_law33_DerInverse.J (kRet h K)) (kRet h K) x0 x1 h).mp H)


end Go.Proofs.YtffgchcidkapjaaDoor

/- DerInverse. -/
set_option linter.unusedVariables false
set_option linter.unusedSimpArgs false
set_option linter.unusedSectionVars false
set_option maxRecDepth 20000
namespace Go.Proofs.YtffgchcidkapjaaDoor
open Go.GAM Go.RowKit
attribute [-instance] xr1
attribute [local instance] xr2

section
variable {h h0 : AHeap}

theorem Inv_p3 : G_law33_DerInverse.p3 (kRet h0 Yes) true h := by
  refine G_law33_DerInverse.i3 ?_
  simp only [G_law33_DerInverse.t3]
  exact kRet_yes

theorem Inv_p2 {s : List UInt8} : G_law33_DerInverse.p2 (kRet h0 Yes) s false h := by
  refine G_law33_DerInverse.i2 ?_
  simp only [G_law33_DerInverse.t2, G_law33_DerInverse.j3]
  refine bif_f rfl ?_
  by_cases h300 : 300 < s.length
  · exact bif_t (by simp; omega) kRet_yes
  refine bif_f (by simp; omega) (up (oidOf_c fun h2 U2 => ?_))
  cases ho : oidOfS s with
  | error e =>
    have he : e ≠ 0 := by
      rintro rfl
      unfold oidOfS at ho
      split at ho
      · cases ho
      · cases hd : decAll (splitS 46 s) with
        | none => rw [hd] at ho; cases ho
        | some l =>
          rw [hd] at ho
          have ho : oidL l = .error 0 := ho
          unfold oidL at ho
          split at ho
          · split at ho <;> cases ho
          · cases ho
    refine st_ext0 (st_ext1 (st_asI (st_alloc fun h3 hl3 U3 A => st_storeN A rfl rfl rfl fun h4 hl4 U4 A => st_loadN A rfl ?_)))
    refine oid_c (d := .mk 0 0 false [] []) (DV.leaf h4 (fun _ => True) _ _ _ _) (by simp [Der.data]) ?_
    rw [oidS_zero]
    refine st_ext0 (st_asS (st_ext1 (st_asB ?_)))
    exact bif_t (by simp [he]) (bif_t rfl Inv_p3)
  | ok l =>
    obtain ⟨h1, h2'⟩ := oid_inv ho
    refine st_ext0 (st_ext1 (st_asI (st_alloc fun h3 hl3 U3 A => st_storeN A rfl rfl rfl fun h4 hl4 U4 A => st_loadN A rfl ?_)))
    refine oid_c (d := .mk 0 6 false l []) (DV.leaf h4 (fun _ => True) _ _ _ _) h2' ?_
    rw [h1]
    refine st_ext0 (st_asS (st_ext1 (st_asB ?_)))
    exact bif_t rfl (bif_f rfl (by rw [decide_eq_true rfl]; exact Inv_p3))

theorem Inv_p1 {n : Int} {s : List UInt8} (h0' : -9223372036854775808 ≤ n) (h1' : n < 9223372036854775808) : G_law33_DerInverse.p1 (kRet h0 Yes) n s false h := by
  refine G_law33_DerInverse.i1 ?_
  simp only [G_law33_DerInverse.t1, G_law33_DerInverse.j2]
  refine bif_f rfl ?_
  by_cases hn : n < 0 ∨ 253402300799 < n
  · refine up (timeOf_zero hn h1' h0' ?_)
    refine st_alloc fun h3 hl3 U3 A => st_storeN A rfl rfl rfl fun h4 hl4 U4 A => st_loadN A rfl ?_
    refine up (time_c (d := .mk 0 0 false [] []) (DV.leaf h4 (fun _ => True) _ _ _ _) (by simp [Der.data]) ?_)
    rw [timeS_zero]
    refine st_ext0 (st_asI (st_ext1 (st_asB ?_)))
    refine bif_both (fun e => ?_) fun e => ?_
    · exact bif_f (by simp at e ⊢; omega) (bif_f rfl Inv_p2)
    · exact bif_f rfl (bif_f rfl Inv_p2)
  · obtain ⟨k, rfl⟩ : ∃ k : Nat, n = (k : Int) := ⟨n.toNat, by omega⟩
    obtain ⟨y, m, d, D⟩ := date_is (k / 86400)
    obtain ⟨t, x, e1, e2, e3⟩ := time_inv (n := k) (by omega) D
    refine up (timeOf_c (by omega) D ?_)
    rw [e1]
    refine st_alloc fun h3 hl3 U3 A => st_storeN A rfl rfl rfl fun h4 hl4 U4 A => st_loadN A rfl ?_
    refine up (time_c (d := .mk 0 t false x []) (DV.leaf h4 (fun _ => True) _ _ _ _) (by show x.length ≤ 100000; omega) ?_)
    rw [e3]
    refine st_ext0 (st_asI (st_ext1 (st_asB ?_)))
    refine bif_t (by simp) (bif_f (by simp; omega) (bif_t rfl ?_))
    rw [decide_eq_true rfl]
    exact Inv_p2

theorem inverse_c {n : Int} {s : List UInt8} (h0' : -9223372036854775808 ≤ n) (h1' : n < 9223372036854775808) : C G_law33_DerInverse.id [.i .i64 n, .s s] h Yes := by
  refine G_law33_DerInverse.call ?_
  simp only [G_law33_DerInverse.t, G_law33_DerInverse.j0]
  refine up (lives_c fun h1 U1 => st_asB (bif_f rfl (up (intOf_c ?_))))
  have p0 : ∀ (a : Int) (ok fits : Bool) (hx : AHeap), ok = fits → (fits = true → a = n) → G_law33_DerInverse.p0 (kRet h Yes) n s a ok fits hx := by
    intro a ok fits hx e1 e2
    subst e1
    refine G_law33_DerInverse.i0 ?_
    simp only [G_law33_DerInverse.t0, G_law33_DerInverse.j1]
    refine bif_f (by simp) (bif_both (fun e => ?_) fun e => ?_)
    · rw [decide_eq_true (e2 e)]; exact Inv_p1 h0' h1'
    · exact Inv_p1 h0' h1'
  unfold intOfS
  by_cases hb : intBig n
  · rw [if_pos hb]
    refine st_alloc fun h3 hl3 U3 A => st_storeN A rfl rfl rfl fun h4 hl4 U4 A => st_loadN A rfl ?_
    refine up (int_c (d := .mk 0 0 false [] []) (DV.leaf h4 (fun _ => True) _ _ _ _) (by simp [Der.data]) ?_)
    rw [intS_zero]
    refine st_ext0 (st_asI (st_ext1 (st_asB ?_)))
    unfold intBig at hb
    refine bif_both (fun e => p0 _ _ _ _ ?_ ?_) fun e => p0 _ _ _ _ rfl (fun h => by cases h)
    · have e := of_decide_eq_true e
      exact (decide_eq_false (by omega)).symm
    · intro h
      have h := of_decide_eq_true h
      have e := of_decide_eq_true e
      omega
  · rw [if_neg hb]
    refine st_alloc fun h3 hl3 U3 A => st_storeN A rfl rfl rfl fun h4 hl4 U4 A => st_loadN A rfl ?_
    refine up (int_c (d := .mk 0 2 false (beI (kI n) n) []) (DV.leaf h4 (fun _ => True) _ _ _ _) (by show (beI (kI n) n).length ≤ 100000; rw [beI_len]; have := kI_bd n; omega) ?_)
    rw [intS_of hb]
    refine st_ext0 (st_asI (st_ext1 (st_asB ?_)))
    unfold intBig at hb
    exact bif_t (by simp; omega) (p0 _ _ _ _ (decide_eq_true (by omega)).symm fun _ => rfl)

end

theorem walk_DerInverse {n : Int} {s : ByteArray} (W : World) (hL : laidMet Tryd.prog Rows.derInverseRow.laid W) (w1 : (Lit.int .i64 n).wf = true) (w2 : s.size ≤ maxLen) :
    Calls Tryd.prog 10 #[.int .i64 n, .string s] W fun e w' => e = .returned (.bool true) ∧ Below W.heap.size W w' := by
  have := i64_bd w1
  exact law_callsAt mixedOK sizeOK (soundX2 (tab_ok (List.mem_cons_of_mem _ (List.mem_cons_of_mem _ (List.mem_cons_self ..))) hL)) (by kernel_rfl) (szOf := fun _ => 5) (.cons _ _ _ _ (.i _ _) (.cons _ _ _ _ (.s _ _ rfl) .nil)) (inverse_c this.1 this.2)

end Go.Proofs.YtffgchcidkapjaaDoor

