/- Lemmas (several texts in one). -/
import Derived.Shelf.LaysM
import Derived.Shelf.Strconv.Itoa3
import Derived.Test.YtffgchcidkapjaaDoorProg
import Derived.Test.YtffgchcidkapjaaDoorRows
import Derived.Lib.LaidTab
import Derived.Lib.AppendIntMem
import Derived.Test.YtffgchcidkapjaaDoorMg5
/-
  DERIVED: THE SHELF's CONTRACTS AT THIS DUMP, IN PLAIN WORDS (tools/lay-plain.mjs out of 'TrydShelf.lean', which tools/lay-shelf.mjs wrote): THE SAME DECLARATIONS UNDER THE SAME NAMES: 'import', 'namespace', 'open', 'def', 'theorem' AND NOTHING ELSE: no command of the shelf's: FOR A HAND-IN. Each laying: the table of numbers ('.._ren') and one theorem, a field a fact of the dump's own or the kernel's comparison; each contract: ONE APPLICATION.
-/
namespace Go.Proofs
open Go.Shelf
def Tryd.laysM171_ren : Go.Shelf.Ren := ⟨fun | 171 => 51 | 243 => 65 | 246 => 67 | 283 => 71 | 284 => 72 | 285 => 73 | 286 => 74 | 129 => 80 | 317 => 79 | 318 => 81 | 319 => 82 | 320 => 83 | 337 => 89 | 338 => 90 | n => n, fun | 3 => 3 | 9 => 9 | 2 => 2 | 4 => 4 | 171 => 82 | 0 => 0 | 53 => 83 | 37 => 59 | 5 => 5 | 173 => 86 | 212 => 93 | 51 => 94 | 20 => 20 | 213 => 95 | 46 => 58 | 232 => 104 | 233 => 105 | n => n, fun | 17 => 0 | 18 => 4 | 19 => 5 | n => n⟩
theorem Tryd.laysM171 : Go.Proofs.LaysM.n171 Tryd.prog Tryd.laysM171_ren := {
  mixed := by kernel_rfl
  f129 := Tryd.func80.trans (congrArg some (by kernel_rfl))
  f171 := Tryd.func51.trans (congrArg some (by kernel_rfl))
  f243 := Tryd.func65.trans (congrArg some (by kernel_rfl))
  f246 := Tryd.func67.trans (congrArg some (by kernel_rfl))
  f283 := Tryd.func71.trans (congrArg some (by kernel_rfl))
  f284 := Tryd.func72.trans (congrArg some (by kernel_rfl))
  f285 := Tryd.func73.trans (congrArg some (by kernel_rfl))
  f286 := Tryd.func74.trans (congrArg some (by kernel_rfl))
  f317 := Tryd.func79.trans (congrArg some (by kernel_rfl))
  f318 := Tryd.func81.trans (congrArg some (by kernel_rfl))
  f319 := Tryd.func82.trans (congrArg some (by kernel_rfl))
  f320 := Tryd.func83.trans (congrArg some (by kernel_rfl))
  f337 := Tryd.func89.trans (congrArg some (by kernel_rfl))
  f338 := Tryd.func90.trans (congrArg some (by kernel_rfl))
  t0 := Tryd.underlying0
  a0 := Tryd.isAgg0
  z0 := Tryd.sizeOf0
  v0 := Tryd.zeroValue0
  t2 := Tryd.underlying2
  a2 := Tryd.isAgg2
  z2 := Tryd.sizeOf2
  v2 := Tryd.zeroValue2
  t3 := Tryd.underlying3
  a3 := Tryd.isAgg3
  z3 := Tryd.sizeOf3
  v3 := Tryd.zeroValue3
  t4 := Tryd.underlying4
  a4 := Tryd.isAgg4
  z4 := Tryd.sizeOf4
  v4 := Tryd.zeroValue4
  t5 := Tryd.underlying5
  a5 := Tryd.isAgg5
  z5 := Tryd.sizeOf5
  v5 := Tryd.zeroValue5
  t9 := Tryd.underlying9
  a9 := Tryd.isAgg9
  z9 := Tryd.sizeOf9
  v9 := Tryd.zeroValue9
  t20 := Tryd.underlying20
  a20 := Tryd.isAgg20
  z20 := Tryd.sizeOf20
  v20 := Tryd.zeroValue20
  t37 := Tryd.underlying59
  a37 := Tryd.isAgg59
  z37 := Tryd.sizeOf59
  v37 := Tryd.zeroValue59
  t46 := Tryd.underlying58
  a46 := Tryd.isAgg58
  z46 := Tryd.sizeOf58
  v46 := Tryd.zeroValue58
  t51 := Tryd.underlying94
  a51 := Tryd.isAgg94
  z51 := Tryd.sizeOf94
  v51 := Tryd.zeroValue94
  t53 := Tryd.underlying83
  a53 := Tryd.isAgg83
  z53 := Tryd.sizeOf83
  v53 := Tryd.zeroValue83
  t171 := Tryd.underlying82
  a171 := Tryd.isAgg82
  z171 := Tryd.sizeOf82
  v171 := Tryd.zeroValue82
  t173 := Tryd.underlying86
  a173 := Tryd.isAgg86
  z173 := Tryd.sizeOf86
  v173 := Tryd.zeroValue86
  t212 := Tryd.underlying93
  a212 := Tryd.isAgg93
  z212 := Tryd.sizeOf93
  v212 := Tryd.zeroValue93
  t213 := Tryd.underlying95
  a213 := Tryd.isAgg95
  z213 := Tryd.sizeOf95
  t232 := Tryd.underlying104
  a232 := Tryd.isAgg104
  z232 := Tryd.sizeOf104
  v232 := Tryd.zeroValue104
  t233 := Tryd.underlying105
  a233 := Tryd.isAgg105
  z233 := Tryd.sizeOf105
  v233 := Tryd.zeroValue105
  g17 := by kernel_rfl
  g18 := by kernel_rfl
  g19 := by kernel_rfl
  i0 := by kernel_rfl
  i2 := by kernel_rfl
  i3 := by kernel_rfl
  i4 := by kernel_rfl
  i5 := by kernel_rfl
  i9 := by kernel_rfl
  i20 := by kernel_rfl
  i37 := by kernel_rfl
  i46 := by kernel_rfl
  i51 := by kernel_rfl
  i53 := by kernel_rfl
  i171 := by kernel_rfl
  i173 := by kernel_rfl
  i212 := by kernel_rfl
  i232 := by kernel_rfl
  i233 := by kernel_rfl
  m17 := by kernel_rfl
  m18 := by kernel_rfl
  m19 := by kernel_rfl }
open Go.RowKit Go.Sort Go.Lib in
/-- strconv.Itoa: "Itoa is equivalent to FormatInt(int64(i), 10).": i's DECIMAL NUMERAL ('Lib.itoa': a '-' where i is negative, then the digits), FOR EVERY int. The world behind the call: the world before it, new blocks behind the heap (the library's 'var a [24]byte'), draws. (LAID: no walk: one application.) -/
theorem Tryd.strconv_Itoa (n : Int) (h0 : -9223372036854775808 ≤ n) (h1 : n ≤ 9223372036854775807) (w : World) (htab : Lib.TabIs Tryd.prog w "internal/strconv.uint64pow10" .u64 Lib.pow10Tab) :
    Calls Tryd.prog 51 #[.int .i64 n] w fun e w' => e = .returned (.string ⟨(Lib.itoa n).toArray⟩) ∧ ∃ k os, w' = grow (w.drewN k) os := Any.strconv_Itoa Tryd.laysM171 n h0 h1 w htab
end Go.Proofs

/- The rule for strconv.Itoa; Oid, the program's. -/
set_option linter.unusedVariables false
set_option linter.unusedSimpArgs false
set_option linter.unusedSectionVars false
set_option maxRecDepth 20000
namespace Go.GAM
open Go.RowKit
/-- A law's call, where the rules are sound from this world on. -/
theorem law_callsAt {P : Program} {X : CallR} (hm : P.follows .mixedOrders = true) (hsz : P.funcs.size ≤ yid0) {w : World} (hX : SoundAt P w (fun B => B < w.heap.size) (fun _ _ => none) X) {f : FuncId} (hb : bodyOK P f = true) {szOf : Nat → Nat} {avs : List AV} {args : Array Value}
    (hv : VRels (muC w szOf) avs args.toList) (hk : acall P X f avs (heapC w szOf) Yes) : Calls P f args w fun e w' => e = .returned (.bool true) ∧ Below w.heap.size w w' := by
  have hlt : f < yid0 := by
    unfold bodyOK at hb
    split at hb
    · rename_i fn hf; exact Nat.lt_of_lt_of_le (Array.getElem?_eq_some_iff.1 hf).1 hsz
    · cases hb
  have hs := acall_soundAt hm hsz hX f avs _ _ hk (muC w szOf) (ownC w) w args.toList (fun _ _ _ h => by cases h) (canon_rel w szOf) hv
  rw [if_pos hlt] at hs
  have hrun := bodyOK_run hb args w
  rcases hs with ⟨g, as', h1, h2⟩ | ⟨v, h1, h2⟩
  · rw [Array.toArray_toList, hrun] at h1
    cases h1
    refine h2.mono fun e w' ⟨v, he, v', μ', own', h', g1, g2, g3, g4⟩ => ?_
    subst he
    have g1 : v' = .b true := g1
    subst g1
    cases g2
    exact ⟨rfl, g3.os, g3.tape, g3.output, g3.size0, fun k hk => (g3.fz k hk).2⟩
  · rw [Array.toArray_toList, hrun] at h1; cases h1
end Go.GAM
namespace Go.Proofs.YtffgchcidkapjaaDoor
open Go.GAM Go.RowKit

/-- With strconv.Itoa by the shelf's contract. -/
@[instance_reducible] def xr2 : XR := ⟨fun f args h K => xr1.X f args h K ∨ (f = G_strconv_Itoa.id ∧ ∃ n : Int, args = [.i .i64 n] ∧ -9223372036854775808 ≤ n ∧ n ≤ 9223372036854775807 ∧ K (.s (Lib.itoa n)) h)⟩
theorem okIt : bodyOK prog G_strconv_Itoa.id = true := by kernel_rfl

theorem soundX2 {W : World} (ht : Lib.TabIs prog W "internal/strconv.uint64pow10" .u64 Lib.pow10Tab) : SoundAt prog W (fun B => B < W.heap.size) (fun _ _ => none) xr2.X := by
  rintro f args h K (hx | ⟨rfl, n, rfl, h0, h1, hk⟩)
  · exact soundX W _ _ f args h K hx
  intro μ own w cargs hsb R hc
  rw [if_pos (by decide)]
  obtain ⟨rfl⟩ : cargs = [.int .i64 n] := by
    cases hc with | cons _ _ _ _ a b => cases a; cases b; rfl
  have ht' : Lib.TabIs prog w "internal/strconv.uint64pow10" .u64 Lib.pow10Tab := by
    have hB : Below W.heap.size W w := ⟨R.os, R.tape, R.output, R.size0, fun k hk => (R.fz k hk).2⟩
    exact Lib.tabBelow_of_tabIs ht w hB
  refine x_calls okIt R ((Tryd.strconv_Itoa n h0 h1 w ht').mono fun e w' ⟨he, k, os, hw⟩ => ⟨he, hw ▸ Lib.below_grow _ w (Nat.le_refl _) k os⟩) (.s _ _ (by simp)) hk

theorem tab_ok {W : World} {l : List (String × DataW Unit)} (hm : ("internal/strconv.uint64pow10", Rows.laid_internal_strconv_uint64pow10) ∈ l) (hL : laidMet Tryd.prog l W) : Lib.TabIs prog W "internal/strconv.uint64pow10" .u64 Lib.pow10Tab := by
  obtain ⟨g, t, cs, fuel, p, hg, ht, hv, hd⟩ := laid_shape hm hL
  obtain rfl := Option.some.inj ((show Tryd.prog.globalNamed "internal/strconv.uint64pow10" = some 0 by kernel_rfl).symm.trans hg)
  obtain rfl := Option.some.inj ((show (Tryd.prog.globals[0]?).map (·.type) = some 93 by kernel_rfl).symm.trans ht)
  have e : (Rows.laid_internal_strconv_uint64pow10 : DataW Unit) = Lib.tabData .u64 Lib.pow10Tab := by rfl
  rw [e] at hd
  have := Lib.cells_of_tab (n := 20) Tryd.underlying93 (show Tryd.prog.underlying 83 = some (.int .u64) from Tryd.underlying83) (by kernel_rfl) (by kernel_rfl) hd
  show W.var? Tryd.prog _ = _
  rw [hv, ← this]

attribute [-instance] xr1
attribute [local instance] xr2

/-- What holds without the rule holds with it. -/
theorem up {f : FuncId} {args : List AV} {h : AHeap} {K : AV → AHeap → Prop} (hk : @C xr1 f args h K) : C f args h K := fun R hm hX hF => hk R hm (fun f args h K hx => hX f args h K (.inl hx)) hF
theorem itoa_c {n : Nat} {h : AHeap} {K : AV → AHeap → Prop} (hn : n < 9223372036854775808) (hk : K (.s (Lib.decDigits n)) h) : C G_strconv_Itoa.id [.i .i64 (n : Int)] h K :=
  acall_x (.inr ⟨rfl, (n : Int), rfl, by omega, by omega, by rw [Lib.itoa_nonneg]; exact hk⟩)

end Go.Proofs.YtffgchcidkapjaaDoor

/- Oid, the program's. -/
set_option linter.unusedVariables false
set_option linter.unusedSimpArgs false
set_option linter.unusedSectionVars false
set_option maxRecDepth 20000
namespace Go.Proofs.YtffgchcidkapjaaDoor
open Go.GAM Go.RowKit
attribute [-instance] xr1
attribute [local instance] xr2

section
variable {h0 : AHeap} {Q : AV → AHeap → Prop}

theorem oid_p4 {l : List Nat} {w : AV} {h hx : AHeap} (E : Ext h hx) (W : Rd 1 hx w (l.map num) l.length) (hl : l.length ≤ 100000) (hb : ∀ n ∈ l, n < 268435456) : ∀ (r : List Nat) (i : Nat) (x : List UInt8), l.drop i = r → i ≤ l.length → x.length ≤ 30 + 11 * i →
    Q (.tu [.s (x ++ r.flatMap fun n => 46 :: Lib.decDigits n), .b true]) h → G_der_Oid.p4 (kRet h Q) x w l.length i hx := by
  intro r
  induction r with
  | nil =>
    intro i x hr hi hxl hq
    have hle := drop_end hr
    refine G_der_Oid.i4 ?_
    simp only [G_der_Oid.t4]
    refine bif_f (by simp; omega) (kRet_pure rfl E ?_)
    simpa using hq
  | cons n r ih =>
    intro i x hr hi hxl hq
    have hlt := drop_lt hr
    have hn := drop_next hr
    have hni := at_of_drop hr
    have hnb := hb n (List.mem_of_getElem? hni)
    have d1 := decDigits_len (n := n) (by omega)
    refine G_der_Oid.i4 ?_
    simp only [G_der_Oid.t4, G_der_Oid.j4]
    refine bif_t (by simp; omega) (W.nat hlt hni (itoa_c (by omega) (st_asS ⟨by simp; omega, ⟨by simp; omega, inc (by omega) ?_⟩⟩)))
    refine ih (i + 1) _ hn (by omega) (by simp; omega) ?_
    simpa [List.flatMap_cons] using hq

theorem or_add {x y : Nat} (hy : y < 128) (hx : x < 268435456) : bitsOp .or .i64 ((x * 128 : Nat) : Int) (y : Int) = ((x * 128 + y : Nat) : Int) := by
  rw [bits_or (by omega) (by omega)]
  have := Nat.two_pow_add_eq_or_of_lt (i := 7) (b := y) (by omega) x
  rw [Nat.mul_comm x 128, this]

theorem oid_loop {s : List UInt8} {cs : List AV} {h h1 : AHeap} {id : Nat} (E : Ext h h1) (B : RecAt h1 id cs) (hcl : cs.length = 5) (hc3 : cs[3]? = some (.s s)) (hs : s.length ≤ 100000) (hne : s ≠ []) :
    ∀ (r : List UInt8) (i n : Nat) (begun : Bool) (done : List Nat) (v : AV) (hx : AHeap), s.drop i = r → i ≤ s.length → n < 268435456 → (begun = false → i = 0 ∨ done ≠ []) → done.length ≤ i → (∀ m ∈ done, m < 268435456) → NewA 1 h1 hx v (done.map num) done.length →
    Q (oidT (oidX (oidD r n begun) done)) h → G_der_Oid.p1 (kRet h Q) (.p (some ⟨id, 5, 0⟩)) v n begun s.length i hx := by
  intro r
  induction r with
  | nil =>
    intro i n begun done v hx hr hi hn hb hd hbd A hq
    have hle := drop_end hr
    have Ex := E.trans A.upd.ext
    refine G_der_Oid.i1 ?_
    simp only [G_der_Oid.t1, G_der_Oid.j4]
    refine bif_f (by simp; omega) ?_
    cases begun with
    | true => exact bif_t rfl (kRet_pure rfl Ex hq)
    | false =>
      have hlp := List.length_pos_iff.2 hne
      have hdn : done ≠ [] := by
        rcases hb rfl with h | h
        · omega
        · exact h
      obtain ⟨z, dn, hdone⟩ : ∃ z dn, done = z :: dn := by
        cases done with
        | nil => exact absurd rfl hdn
        | cons z dn => exact ⟨z, dn, rfl⟩
      have hzb := hbd z (by rw [hdone]; simp)
      have hdl : done.length = dn.length + 1 := by rw [hdone]; simp
      obtain ⟨id', ver, off, cap, blk, hv, RA⟩ := A.arr.rd.at (by omega)
      have hz0 : done[0]? = some z := by rw [hdone]; rfl
      have d1 := decDigits_len (n := min (z / 40) 2) (by omega)
      have d2 := decDigits_len (n := z - 40 * min (z / 40) 2) (by omega)
      rw [hv]
      refine bif_f rfl (st_idx RA (i := 0) (by omega) (st_num RA (by omega) hz0 (quo_n (b := 40) (by omega) (by omega) ?_)))
      rw [show mmI false 2 ((z / 40 : Nat) : Int) = ((min (z / 40) 2 : Nat) : Int) by rw [Nat.min_comm]; exact mmI_min 2 _]
      refine st_idx RA (i := 0) (by omega) (st_num RA (by omega) hz0 ?_)
      refine withI_is (n := ((40 * min (z / 40) 2 : Nat) : Int)) (by rw [wrap_i64 (by omega) (by omega)]; omega) ?_
      refine withI_is (n := ((z - 40 * min (z / 40) 2 : Nat) : Int)) (by rw [wrap_i64 (by omega) (by omega)]; omega) ?_
      refine itoa_c (by omega) (st_asS (st_num RA (by omega) hz0 ⟨rfl, st_idx RA (i := 0) (by omega) ⟨rfl, ⟨by simp; omega, ?_⟩⟩⟩))
      refine itoa_c (by omega) (st_asS (st_num RA (by omega) hz0 ⟨rfl, st_idx RA (i := 0) (by omega) ⟨rfl, ⟨by simp; omega, ?_⟩⟩⟩))
      have RD := RA.dropRd (lo := 1) (by omega) (cap.map (· - 1))
      have hdr : (done.map num).drop (1 * 1) = dn.map num := by rw [hdone]; rfl
      rw [hdr, show done.length - 1 = dn.length by omega] at RD
      refine RA.drop Nat.one_pos (lo := 1) (by omega) ?_
      rw [show done.length - 1 = dn.length by omega]
      refine RD.len (oid_p4 Ex RD (by omega) (fun m hm => hbd m (by rw [hdone]; simp [hm])) dn 0 _ rfl (by omega) (by simp; omega) ?_)
      have hq : Q (.tu [.s (oidTxt (done ++ [])), .b true]) h := hq
      rw [List.append_nil, hdone] at hq
      simpa [oidTxt] using hq
  | cons c r ih =>
    intro i n begun done v hx hr hi hn hb hd hbd A hq
    have hlt := drop_lt hr
    have hnx := drop_next hr
    have hci := at_of_drop hr
    have hc := c.toNat_lt
    have Ex := E.trans A.upd.ext
    have Bx := B.upd A.upd fun h => h
    have hm := Nat.mod_lt c.toNat (show 0 < 128 by omega)
    have p3 : ∀ (o : List Nat) (n' : Nat) (b' : Bool) (v' : AV) (h' : AHeap), n' < 268435456 → (b' = false → o ≠ []) → o.length ≤ i + 1 → (∀ m ∈ o, m < 268435456) → NewA 1 h1 h' v' (o.map num) o.length → Q (oidT (oidX (oidD r n' b') o)) h → G_der_Oid.p3 (kRet h Q) (.p (some ⟨id, 5, 0⟩)) v' n' b' s.length i h' := by
      intro o n' b' v' h' hn' hb' ho hob A' hq
      refine G_der_Oid.i3 ?_
      simp only [G_der_Oid.t3, G_der_Oid.j1]
      exact inc (by omega) (ih (i + 1) n' b' o v' h' hnx (by omega) hn' (fun hh => .inr (hb' hh)) ho hob A' hq)
    have p2 : ∀ b, b = decide (begun = false ∧ c.toNat = 128) → G_der_Oid.p2 (kRet h Q) (.p (some ⟨id, 5, 0⟩)) v n (c.toNat : Int) s.length i b hx := by
      intro b hbb
      unfold oidD at hq
      refine G_der_Oid.i2 ?_
      simp only [G_der_Oid.t2, G_der_Oid.j3]
      refine bif_both (fun e => ?_) fun e => ?_
      · subst e
        rw [if_pos (of_decide_eq_true hbb.symm)] at hq
        exact kRet_pure rfl Ex hq
      · subst e
        rw [if_neg (of_decide_eq_false hbb.symm)] at hq
        refine st_shlI (b := 7) (n := ((n * 128 : Nat) : Int)) (by omega) (by omega) (by omega) (by omega) ?_
        refine withI_is (and127 (by omega)) (withI_is (or_add hm hn) ?_)
        by_cases h28 : 268435456 ≤ n * 128 + c.toNat % 128
        · rw [if_pos h28] at hq
          exact bif_t (by simp; omega) (kRet_pure rfl Ex hq)
        rw [if_neg h28] at hq
        refine bif_f (by simp; omega) ?_
        by_cases h128 : 128 ≤ c.toNat
        · rw [if_pos h128] at hq
          have e128 : decide ((128 : Int) ≤ (c.toNat : Int)) = true := decide_eq_true (by omega)
          rw [e128]
          exact bif_f rfl (p3 done _ true v hx (by omega) (fun hh => by cases hh) (by omega) hbd A hq)
        rw [if_neg h128] at hq
        have e128 : decide ((128 : Int) ≤ (c.toNat : Int)) = false := decide_eq_false (by omega)
        rw [e128]
        generalize n * 128 + c.toNat % 128 = z at *
        have hq : Q (oidT (oidX (oidD r 0 false) (done ++ [z]))) h := by
          have : oidX (match oidD r 0 false with | none => none | some l => some (z :: l)) done = oidX (oidD r 0 false) (done ++ [z]) := by
            cases oidD r 0 false <;> simp [oidX]
          rw [← this]; exact hq
        refine bif_t rfl (NewA.build A (by decide) (ns := [num z]) rfl rfl rfl (by omega) (by omega) fun v' h' A' => ?_)
        refine p3 (done ++ [z]) 0 false v' h' (by omega) (fun _ => by simp) (by simp; omega) ?_ ?_ hq
        · intro m hm
          rcases List.mem_append.1 hm with h | h
          · exact hbd m h
          · simp at h; omega
        · rw [List.map_append, List.length_append]; exact A'
    refine G_der_Oid.i1 ?_
    simp only [G_der_Oid.t1, G_der_Oid.j2]
    refine bif_t (by simp; omega) (st_fld (st_load Bx hcl.symm hc3 (st_asS (st_at hr ?_))))
    rw [wrap_i64 (by omega) (by omega)]
    cases begun with
    | false => exact bif_t rfl (p2 _ (by rw [decide_eq_decide]; simp; omega))
    | true => exact bif_f rfl (p2 _ (by simp))

theorem oid_c {d : Der} {cs : List AV} {F : Nat → Prop} {h : AHeap} (D : DV h F d cs) (hs : d.data.length ≤ 100000) (hq : Q (oidT (oidS d)) h) : C G_der_Oid.id [.ag cs] h Q := by
  refine G_der_Oid.call ?_
  simp only [G_der_Oid.t, G_der_Oid.j0]
  refine D.box fun h1 hl1 U1 B D1 => st_loadN B D.len.symm (up (plain_c D1 (st_asB ?_)))
  unfold oidS at hq
  have hc3 := D.dat
  have hcl := D.len
  generalize d.data = s at *
  refine bif_both (fun e => ?_) fun e => st_fld (st_load B hcl.symm hc3 (st_asS ?_))
  · refine G_der_Oid.i0 ?_
    simp only [G_der_Oid.t0]
    rw [if_neg (fun hh => by rw [hh.1] at e; cases e)] at hq
    exact bif_t rfl (kRet_pure rfl U1.ext hq)
  have hp : dPlain 6 d = true := by simpa using e
  refine G_der_Oid.i0 ?_
  simp only [G_der_Oid.t0, G_der_Oid.j1]
  by_cases hne : s = []
  · rw [if_neg (fun hh => hh.2 hne)] at hq
    exact bif_t (by simp [hne]) (kRet_pure rfl U1.ext hq)
  rw [if_pos ⟨hp, hne⟩] at hq
  refine bif_f (by simp [hne]) (st_fld (st_load B hcl.symm hc3 (st_asS ?_)))
  refine oid_loop U1.ext B hcl hc3 hs hne s 0 0 false [] _ h1 rfl (by omega) (by omega) (fun _ => .inl rfl) (by simp) (by simp) (NewA.start 1 h1) ?_
  have : oidX (oidD s 0 false) [] = (match oidD s 0 false with | none => ([], false) | some l => (oidTxt l, true)) := by
    cases oidD s 0 false <;> rfl
  rw [this]; exact hq

end
end Go.Proofs.YtffgchcidkapjaaDoor

/- The law's text in the abstract machine: printed by Gen.lean, checked by Lean's kernel. -/
set_option linter.unusedVariables false
set_option linter.unusedSectionVars false
set_option maxRecDepth 100000
namespace Go.Proofs.YtffgchcidkapjaaDoor
open Go.GAM
variable [XR]
--@@ G_law33_DerOids
/-! ### 9: intrusion/intrusionlaw33.DerOids -/
noncomputable def G_law33_DerOids.body : Code := (Tryd.f9.body).getD .skip
def G_law33_DerOids.ann : Ann := (.seq 0 [1, 2] .leaf (.seq 0 [1, 2] (.seq 1 [1, 2, 20] .leaf (.br (.seq 0 [4] .leaf .leaf) .leaf)) (.seq 0 [1, 2, 5, 6] .leaf (.seq 0 [1, 5, 6, 7, 8] .leaf (.seq 0 [1, 5, 6, 7, 8, 9, 10] .leaf (.seq 0 [5, 6, 7, 8, 9, 10, 11, 12] .leaf (.seq 2 [4] .leaf .leaf)))))))
theorem G_law33_DerOids.body_eq : Tryd.f9.body = some G_law33_DerOids.body := by kernel_rfl
theorem G_law33_DerOids.dist : noTwice (places G_law33_DerOids.ann G_law33_DerOids.body) = true := by kernel_rfl
noncomputable def G_law33_DerOids.J (Q : AV → AHeap → Prop) : JT := funJ prog C Tryd.f9 G_law33_DerOids.ann G_law33_DerOids.body Q
theorem G_law33_DerOids.goR {Q : AV → AHeap → Prop} {k : Nat} {p : List Nat} (hl : lookJ (places G_law33_DerOids.ann G_law33_DerOids.body) k = some (p, false)) {e : Env} {h : AHeap} (hk : atJ prog C 63 (G_law33_DerOids.J Q) false p G_law33_DerOids.ann G_law33_DerOids.body e h (kFun prog Tryd.f9 Q)) : G_law33_DerOids.J Q k e h := goJ_run (P := prog) (fn := Tryd.f9) (ann := G_law33_DerOids.ann) (body := G_law33_DerOids.body) (Q := Q) (k := k) (p := p) (e := e) (h := h) (acall_le X) G_law33_DerOids.dist hl hk
theorem G_law33_DerOids.goH {Q : AV → AHeap → Prop} {k : Nat} {p : List Nat} (hl : lookJ (places G_law33_DerOids.ann G_law33_DerOids.body) k = some (p, true)) {e : Env} {h : AHeap} (hk : atJ prog C 63 (G_law33_DerOids.J Q) true p G_law33_DerOids.ann G_law33_DerOids.body e h (kFun prog Tryd.f9 Q)) : G_law33_DerOids.J Q k e h := goJ_head (P := prog) (fn := Tryd.f9) (ann := G_law33_DerOids.ann) (body := G_law33_DerOids.body) (Q := Q) (k := k) (p := p) (e := e) (h := h) (acall_le X) G_law33_DerOids.dist hl hk
def G_law33_DerOids.p0 (Q : AV → AHeap → Prop) (x1 : List UInt8) (x2 : AV) (x20 : Bool) (h : AHeap) : Prop := G_law33_DerOids.J Q 1 [(1, (AV.s x1)), (2, x2), (20, (AV.b x20))] h
theorem G_law33_DerOids.j0 (Q : AV → AHeap → Prop) (x1 : List UInt8) (x2 : AV) (x20 : Bool) (h : AHeap) : G_law33_DerOids.J Q 1 [(1, (AV.s x1)), (2, x2), (20, (AV.b x20))] h = G_law33_DerOids.p0 Q x1 x2 x20 h := rfl
def G_law33_DerOids.p1 (Q : AV → AHeap → Prop) (x4 : Bool) (h : AHeap) : Prop := G_law33_DerOids.J Q 2 [(4, (AV.b x4))] h
theorem G_law33_DerOids.j1 (Q : AV → AHeap → Prop) (x4 : Bool) (h : AHeap) : G_law33_DerOids.J Q 2 [(4, (AV.b x4))] h = G_law33_DerOids.p1 Q x4 h := rfl
def G_law33_DerOids.t0 (J : JT) (Q : AV → AHeap → Prop) (x1 : List UInt8) (x2 : AV) (x20 : Bool) (h : AHeap) : Prop :=
(bif x20 then
(C G_law33_lives.id [] h fun v9 h10 =>
asB v9 fun c11 =>
Q (AV.b c11) h10)
else
(pLoadN 5 x2 h fun v14 =>
C G_der_Oid.id [v14] h fun v15 h16 =>
pExtract 0 v15 fun v17 =>
asS v17 fun l18 =>
pExtract 1 v15 fun v19 =>
asB v19 fun c20 =>
pLoadN 5 x2 h16 fun v22 =>
C G_ref33_Oid.id [v22] h16 fun v23 h24 =>
pExtract 0 v23 fun v25 =>
asS v25 fun l26 =>
pExtract 1 v23 fun v27 =>
asB v27 fun c28 =>
C G_der_OidOf.id [(AV.s x1)] h24 fun v30 h31 =>
pExtract 0 v30 fun v32 =>
pExtract 1 v30 fun v33 =>
asI .i64 v33 fun n34 =>
pAlloc [(AV.i .i64 0), (AV.i .i64 0), (AV.b false), (AV.s []), (AV.sl none 0 none)] h31 fun v35 h36 =>
pStore 5 v35 v32 h36 fun h37 =>
C G_ref33_OidOf.id [(AV.s x1)] h37 fun v39 h40 =>
pExtract 0 v39 fun v41 =>
pExtract 1 v39 fun v42 =>
asI .i64 v42 fun n43 =>
pAlloc [(AV.i .i64 0), (AV.i .i64 0), (AV.b false), (AV.s []), (AV.sl none 0 none)] h40 fun v44 h45 =>
pStore 5 v44 v41 h45 fun h46 =>
(bif (decide ((l18 : List UInt8) = l26)) then
((bif (c20 == c28) then
(pLoadN 5 v35 h46 fun v48 =>
pLoadN 5 v44 h46 fun v49 =>
C G_ref33_Same.id [v48, v49] h46 fun v50 h51 =>
asB v50 fun c52 =>
(bif c52 then
((bif (decide ((n34 : Int) = n43)) then
(C G_law33_lives.id [] h51 fun v53 h54 =>
asB v53 fun c55 =>
J 2 [(4, (AV.b c55))] h54)
else
(J 2 [(4, (AV.b false))] h51)))
else
(J 2 [(4, (AV.b false))] h51)))
else
(J 2 [(4, (AV.b false))] h46)))
else
(J 2 [(4, (AV.b false))] h46))))
theorem G_law33_DerOids.t0_eq (J : JT) (Q : AV → AHeap → Prop) (x1 : List UInt8) (x2 : AV) (x20 : Bool) (h : AHeap) : G_law33_DerOids.t0 J Q x1 x2 x20 h = atJ prog C 63 J false [1, 0, 1] G_law33_DerOids.ann G_law33_DerOids.body [(1, (AV.s x1)), (2, x2), (20, (AV.b x20))] h (kFun prog Tryd.f9 Q) := by kernel_rfl
theorem G_law33_DerOids.i0 {Q : AV → AHeap → Prop} {x1 : List UInt8} {x2 : AV} {x20 : Bool} {h : AHeap} (H : G_law33_DerOids.t0 (G_law33_DerOids.J Q) Q x1 x2 x20 h) : G_law33_DerOids.p0 Q x1 x2 x20 h := G_law33_DerOids.goR (k := 1) (p := [1, 0, 1]) (by kernel_rfl) ((G_law33_DerOids.t0_eq (G_law33_DerOids.J Q) Q x1 x2 x20 h).mp H)
def G_law33_DerOids.t1 (J : JT) (Q : AV → AHeap → Prop) (x4 : Bool) (h : AHeap) : Prop :=
Q (AV.b x4) h
theorem G_law33_DerOids.t1_eq (J : JT) (Q : AV → AHeap → Prop) (x4 : Bool) (h : AHeap) : G_law33_DerOids.t1 J Q x4 h = atJ prog C 63 J false [1, 1, 1, 1, 1, 1, 1] G_law33_DerOids.ann G_law33_DerOids.body [(4, (AV.b x4))] h (kFun prog Tryd.f9 Q) := by kernel_rfl
theorem G_law33_DerOids.i1 {Q : AV → AHeap → Prop} {x4 : Bool} {h : AHeap} (H : G_law33_DerOids.t1 (G_law33_DerOids.J Q) Q x4 h) : G_law33_DerOids.p1 Q x4 h := G_law33_DerOids.goR (k := 2) (p := [1, 1, 1, 1, 1, 1, 1]) (by kernel_rfl) ((G_law33_DerOids.t1_eq (G_law33_DerOids.J Q) Q x4 h).mp H)
def G_law33_DerOids.t (J : JT) (Q : AV → AHeap → Prop) (x0 : AV) (x1 : List UInt8) (h : AHeap) : Prop :=
pBox x0 h fun v0 h1 =>
pLoadN 5 v0 h1 fun v3 =>
C G_ref33_Few.id [v3] h1 fun v4 h5 =>
asB v4 fun c6 =>
(bif (!c6) then
(J 1 [(1, (AV.s x1)), (2, v0), (20, (AV.b true))] h5)
else
(J 1 [(1, (AV.s x1)), (2, v0), (20, (AV.b (decide ((300 : Int) < (x1.length : Int)))))] h5))
theorem G_law33_DerOids.t_eq (J : JT) (Q : AV → AHeap → Prop) (x0 : AV) (x1 : List UInt8) (h : AHeap) : G_law33_DerOids.t J Q x0 x1 h = exJ prog C 63 J G_law33_DerOids.ann G_law33_DerOids.body (initEnv 0 [x0, (AV.s x1)]) h (kFun prog Tryd.f9 Q) := by kernel_rfl
theorem G_law33_DerOids.call {K : AV → AHeap → Prop} {x0 : AV} {x1 : List UInt8} {h : AHeap} (H : G_law33_DerOids.t (G_law33_DerOids.J (kRet h K)) (kRet h K) x0 x1 h) : C G_law33_DerOids.id [x0, (AV.s x1)] h K :=
  callJ (P := prog) (fn := Tryd.f9) (ann := G_law33_DerOids.ann) (body := G_law33_DerOids.body) Tryd.func9 G_law33_DerOids.body_eq (by kernel_rfl) G_law33_DerOids.dist (by kernel_rfl) ((G_law33_DerOids.t_eq (G_law33_DerOids.J (kRet h K)) (kRet h K) x0 x1 h).mp H)


end Go.Proofs.YtffgchcidkapjaaDoor

/- DerOids. -/
set_option linter.unusedVariables false
set_option linter.unusedSimpArgs false
set_option linter.unusedSectionVars false
set_option maxRecDepth 20000
namespace Go.Proofs.YtffgchcidkapjaaDoor
open Go.GAM Go.RowKit
attribute [-instance] xr1
attribute [local instance] xr2

theorem oids_c {d : Der} {cs : List AV} {F : Nat → Prop} {s : List UInt8} {h : AHeap} (D : DV h F d cs) (hF : ∀ i, F i → i < h.length) : C G_law33_DerOids.id [.ag cs, .s s] h Yes := by
  refine G_law33_DerOids.call ?_
  simp only [G_law33_DerOids.t, G_law33_DerOids.j0]
  refine D.box fun h1 hl1 U1 B D1 => st_loadN B D.len.symm (up (few_c D1 (fun i hi => by have := hF i hi; omega) (st_asB ?_)))
  have skip : G_law33_DerOids.p0 (kRet h Yes) s (.p (some ⟨h.length, 5, 0⟩)) true h1 := by
    refine G_law33_DerOids.i0 ?_
    simp only [G_law33_DerOids.t0]
    exact bif_t rfl (up (lives_c fun h' _ => st_asB kRet_yes))
  refine bif_both (fun e => skip) fun e => ?_
  have hf : d.few = true := by simpa using e
  have hsm := few_small hf
  by_cases h300 : 300 < s.length
  · rw [decide_eq_true (by omega)]; exact skip
  rw [decide_eq_false (by omega)]
  refine G_law33_DerOids.i0 ?_
  simp only [G_law33_DerOids.t0, G_law33_DerOids.j1]
  have fin : ∀ hx, G_law33_DerOids.p1 (kRet h Yes) true hx := by
    intro hx
    refine G_law33_DerOids.i1 ?_
    simp only [G_law33_DerOids.t1]
    exact kRet_yes
  refine bif_f rfl (st_loadN B D.len.symm (oid_c D1 (by omega) (st_ext0 (st_asS (st_ext1 (st_asB (st_loadN B D.len.symm (up (Roid_c D1 (by omega) (st_ext0 (st_asS (st_ext1 (st_asB ?_))))))))))))) 
  refine up (oidOf_c fun h2 U2 => ?_)
  have key : ∀ (c t e : Int) (l : List UInt8), oidR (oidOfS s) = .tu [.ag (leafC c t false l), .i .i64 e] →
      pExtract 0 (oidR (oidOfS s)) fun v32 => pExtract 1 (oidR (oidOfS s)) fun v33 => asI .i64 v33 fun n34 =>
      pAlloc [(AV.i .i64 0), (AV.i .i64 0), (AV.b false), (AV.s []), (AV.sl none 0 none)] h2 fun v35 h36 =>
      pStore 5 v35 v32 h36 fun h37 =>
      C G_ref33_OidOf.id [(AV.s s)] h37 fun v39 h40 =>
      pExtract 0 v39 fun v41 =>
      pExtract 1 v39 fun v42 =>
      asI .i64 v42 fun n43 =>
      pAlloc [(AV.i .i64 0), (AV.i .i64 0), (AV.b false), (AV.s []), (AV.sl none 0 none)] h40 fun v44 h45 =>
      pStore 5 v44 v41 h45 fun h46 =>
      (bif (decide ((oidS d).1 = (oidS d).1)) then
      ((bif ((oidS d).2 == (oidS d).2) then
      (pLoadN 5 v35 h46 fun v48 =>
      pLoadN 5 v44 h46 fun v49 =>
      C G_ref33_Same.id [v48, v49] h46 fun v50 h51 =>
      asB v50 fun c52 =>
      (bif c52 then
      ((bif (decide ((n34 : Int) = n43)) then
      (C G_law33_lives.id [] h51 fun v53 h54 =>
      asB v53 fun c55 => G_law33_DerOids.p1 (kRet h Yes) c55 h54)
      else
      (G_law33_DerOids.p1 (kRet h Yes) false h51)))
      else
      (G_law33_DerOids.p1 (kRet h Yes) false h51)))
      else
      (G_law33_DerOids.p1 (kRet h Yes) false h46)))
      else
      (G_law33_DerOids.p1 (kRet h Yes) false h46)) := by
    intro c t e l hR
    rw [hR]
    refine st_ext0 (st_ext1 (st_asI (st_alloc fun h3 hl3 U3 A => st_storeN A rfl rfl rfl fun h4 hl4 U4 A => ?_)))
    refine up (RoidOf_c fun h5 U5 => ?_)
    rw [hR]
    have A := A.upd U5 fun h => h
    refine st_ext0 (st_ext1 (st_asI (st_alloc fun h6 hl6 U6 A2 => st_storeN A2 rfl rfl rfl fun h7 hl7 U7 A2 => ?_)))
    have A := (A.upd U6 fun h => h).upd U7 (by have := U5.1; omega)
    refine bif_t (by simp) (bif_t (by simp) (st_loadN A rfl (st_loadN A2 rfl ?_)))
    exact up (same_c (d := .mk c t false l []) (by simp [Der.sz, szs]) (DV.leaf h7 (fun _ => True) _ _ _ _) (DV.leaf h7 (fun _ => True) _ _ _ _) (st_asB (bif_t rfl (bif_t (by simp) (up (lives_c fun h' _ => st_asB (fin _)))))))
  cases ho : oidOfS s with
  | error e => rw [← ho]; exact key 0 0 e [] (by rw [ho]; rfl)
  | ok l => rw [← ho]; exact key 0 6 0 l (by rw [ho]; rfl)

theorem walk_DerOids {H : Type} {enc : TypeId × Value → H} {v : Value} {s : ByteArray} {d : DataW H} {p : List MemPlace} (W : World) (hL : laidMet Tryd.prog Rows.derOidsRow.laid W) (k : DataW.Trod enc Tryd.prog W 0 (fun _ => true) true 25 v d p) (w1 : s.size ≤ maxLen) :
    Calls Tryd.prog 9 #[v, .string s] W fun e w' => e = .returned (.bool true) ∧ Below W.heap.size W w' := by
  obtain ⟨cs, x, hv, hD⟩ := der_arg k
  exact law_callsAt mixedOK sizeOK (soundX2 (tab_ok (List.mem_cons_of_mem _ (List.mem_cons_of_mem _ (List.mem_cons_self ..))) hL)) (by kernel_rfl) (szOf := fun _ => 5) (.cons _ _ _ _ hv (.cons _ _ _ _ (.s _ _ rfl) .nil)) (oids_c hD fun i hi => by rw [heapC_len]; exact hi)

end Go.Proofs.YtffgchcidkapjaaDoor

