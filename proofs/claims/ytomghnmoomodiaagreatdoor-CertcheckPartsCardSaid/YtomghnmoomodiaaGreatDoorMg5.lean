/- Lemmas (several texts in one). -/
import Derived.Shelf.Strings.OnBuilder
import Derived.Shelf.Strconv.Itoa3
import Derived.Test.YtomghnmoomodiaaGreatDoorProg
import Derived.Test.YtomghnmoomodiaaGreatDoorRows
import Derived.Lib.LaidTab
import Derived.Lib.AppendIntMem
import Derived.Lib.ItoaNum
import Derived.ChangeArms
import Derived.DataElems
import Derived.Test.YtomghnmoomodiaaGreatDoorMg4
/-
  DERIVED: THE SHELF's CONTRACTS AT THIS DUMP, IN PLAIN WORDS (tools/lay-plain.mjs out of 'TryzShelfCut.lean', which tools/lay-shelf.mjs wrote): THE SAME DECLARATIONS UNDER THE SAME NAMES: 'import', 'namespace', 'open', 'def', 'theorem' AND NOTHING ELSE: no command of the shelf's: FOR A HAND-IN. Each laying: the table of numbers ('.._ren') and one theorem, a field a fact of the dump's own or the kernel's comparison; each contract: ONE APPLICATION.
-/
namespace Go.Proofs
open Go.Shelf
def Tryz.lays156_ren : Go.Shelf.Ren := ⟨fun | 156 => 71 | 165 => 81 | 166 => 82 | 169 => 60 | 240 => 72 | 241 => 90 | 276 => 83 | 277 => 101 | n => n, fun | 31 => 34 | 9 => 9 | 3 => 3 | 4 => 4 | 0 => 0 | 20 => 20 | 72 => 88 | 76 => 128 | 70 => 86 | 37 => 57 | 75 => 90 | 127 => 105 | 164 => 130 | 5 => 5 | 80 => 92 | n => n, fun | n => n⟩
theorem Tryz.lays156 : Go.Proofs.Lays.n156 Tryz.prog Tryz.lays156_ren := {
  mixed := by kernel_rfl
  f156 := Tryz.func71.trans (congrArg some (by kernel_rfl))
  f165 := Tryz.func81.trans (congrArg some (by kernel_rfl))
  f166 := Tryz.func82.trans (congrArg some (by kernel_rfl))
  f169 := Tryz.func60.trans (congrArg some (by kernel_rfl))
  f240 := Tryz.func72.trans (congrArg some (by kernel_rfl))
  f241 := Tryz.func90.trans (congrArg some (by kernel_rfl))
  f276 := Tryz.func83.trans (congrArg some (by kernel_rfl))
  f277 := Tryz.func101.trans (congrArg some (by kernel_rfl))
  t0 := Tryz.underlying0
  a0 := Tryz.isAgg0
  z0 := Tryz.sizeOf0
  v0 := Tryz.zeroValue0
  t3 := Tryz.underlying3
  a3 := Tryz.isAgg3
  z3 := Tryz.sizeOf3
  v3 := Tryz.zeroValue3
  t4 := Tryz.underlying4
  a4 := Tryz.isAgg4
  z4 := Tryz.sizeOf4
  v4 := Tryz.zeroValue4
  t9 := Tryz.underlying9
  a9 := Tryz.isAgg9
  z9 := Tryz.sizeOf9
  v9 := Tryz.zeroValue9
  t20 := Tryz.underlying20
  a20 := Tryz.isAgg20
  z20 := Tryz.sizeOf20
  v20 := Tryz.zeroValue20
  t31 := Tryz.underlying34
  a31 := Tryz.isAgg34
  z31 := Tryz.sizeOf34
  v31 := Tryz.zeroValue34
  t37 := Tryz.underlying57
  a37 := Tryz.isAgg57
  z37 := Tryz.sizeOf57
  v37 := Tryz.zeroValue57
  t70 := Tryz.underlying86
  a70 := Tryz.isAgg86
  z70 := Tryz.sizeOf86
  v70 := Tryz.zeroValue86
  t72 := Tryz.underlying88
  a72 := Tryz.isAgg88
  z72 := Tryz.sizeOf88
  v72 := Tryz.zeroValue88
  t75 := Tryz.underlying90
  a75 := Tryz.isAgg90
  z75 := Tryz.sizeOf90
  v75 := Tryz.zeroValue90
  t76 := Tryz.underlying128
  a76 := Tryz.isAgg128
  z76 := Tryz.sizeOf128
  v76 := Tryz.zeroValue128
  t127 := Tryz.underlying105
  a127 := Tryz.isAgg105
  z127 := Tryz.sizeOf105
  v127 := Tryz.zeroValue105
  t164 := Tryz.underlying130
  a164 := Tryz.isAgg130
  z164 := Tryz.sizeOf130
  v164 := Tryz.zeroValue130 }
theorem Tryz.Builder_Extra_156 : Builder.Extra Tryz.prog Tryz.lays156_ren := {
  sizeBuilder := by kernel_rfl
  liesBuilder := by kernel_rfl
  t5 := Tryz.underlying5
  a5 := Tryz.isAgg5
  z5 := Tryz.sizeOf5
  v5 := Tryz.zeroValue5
  infoByte := by kernel_rfl
  cellsByte := by kernel_rfl
  sizeByte := by kernel_rfl
  neB5 := by decide }
open Go.RowKit in
/-- No element: the empty string; the world is as it was. (Whatever the slice's address and capacity: a nil slice too.) (LAID: no walk: one application.) -/
theorem Tryz.strings_Join_none (a : Option Addr) (c : Nat) (sep : ByteArray) (w : World) :
    Calls Tryz.prog 71 #[.slice a 0 c, .string sep] w fun e w' => e = .returned (.string ⟨#[]⟩) ∧ w' = w := Any.strings_Join_none Tryz.lays156 Tryz.Builder_Extra_156 a c sep w
open Go.RowKit in
/-- strings.Join: "Join concatenates the elements of its first argument to create a single string. The separator string sep is placed between elements in the resulting string.": HOWEVER MANY ELEMENTS. Below the heap's end the world is as it was. (LAID: no walk: one application.) -/
theorem Tryz.strings_Join (bk o c : Nat) (xs : List ByteArray) (sep : ByteArray) (w : World) (hcells : ∀ (j : Nat) x, xs[j]? = some x → w.cell? ⟨bk, o + j, none⟩ = some (.string x)) (hbk : bk < w.heap.size) (hN : xs.length ≤ 140737488355328) (hcap : xs.length ≤ c) (hlen : (Lib.join (xs.map (·.data.toList)) sep.data.toList).length ≤ 140737488355328) :
    Calls Tryz.prog 71 #[.slice (some ⟨bk, o, none⟩) xs.length c, .string sep] w fun e w' => e = .returned (.string ⟨(Lib.join (xs.map (·.data.toList)) sep.data.toList).toArray⟩) ∧ Below w.heap.size w w' := Any.strings_Join Tryz.lays156 Tryz.Builder_Extra_156 bk o c xs sep w hcells hbk hN hcap hlen
def Tryz.laysM171_ren : Go.Shelf.Ren := ⟨fun | 171 => 76 | 243 => 86 | 246 => 94 | 283 => 103 | 284 => 104 | 285 => 105 | 286 => 106 | 129 => 114 | 317 => 113 | 318 => 115 | 319 => 116 | 320 => 117 | 337 => 128 | 338 => 129 | n => n, fun | 3 => 3 | 9 => 9 | 2 => 2 | 4 => 4 | 171 => 155 | 0 => 0 | 53 => 156 | 37 => 57 | 5 => 5 | 173 => 159 | 212 => 179 | 51 => 93 | 20 => 20 | 213 => 180 | 46 => 76 | 232 => 195 | 233 => 196 | n => n, fun | 17 => 6 | 18 => 7 | 19 => 8 | n => n⟩
theorem Tryz.laysM171 : Go.Proofs.LaysM.n171 Tryz.prog Tryz.laysM171_ren := {
  mixed := by kernel_rfl
  f129 := Tryz.func114.trans (congrArg some (by kernel_rfl))
  f171 := Tryz.func76.trans (congrArg some (by kernel_rfl))
  f243 := Tryz.func86.trans (congrArg some (by kernel_rfl))
  f246 := Tryz.func94.trans (congrArg some (by kernel_rfl))
  f283 := Tryz.func103.trans (congrArg some (by kernel_rfl))
  f284 := Tryz.func104.trans (congrArg some (by kernel_rfl))
  f285 := Tryz.func105.trans (congrArg some (by kernel_rfl))
  f286 := Tryz.func106.trans (congrArg some (by kernel_rfl))
  f317 := Tryz.func113.trans (congrArg some (by kernel_rfl))
  f318 := Tryz.func115.trans (congrArg some (by kernel_rfl))
  f319 := Tryz.func116.trans (congrArg some (by kernel_rfl))
  f320 := Tryz.func117.trans (congrArg some (by kernel_rfl))
  f337 := Tryz.func128.trans (congrArg some (by kernel_rfl))
  f338 := Tryz.func129.trans (congrArg some (by kernel_rfl))
  t0 := Tryz.underlying0
  a0 := Tryz.isAgg0
  z0 := Tryz.sizeOf0
  v0 := Tryz.zeroValue0
  t2 := Tryz.underlying2
  a2 := Tryz.isAgg2
  z2 := Tryz.sizeOf2
  v2 := Tryz.zeroValue2
  t3 := Tryz.underlying3
  a3 := Tryz.isAgg3
  z3 := Tryz.sizeOf3
  v3 := Tryz.zeroValue3
  t4 := Tryz.underlying4
  a4 := Tryz.isAgg4
  z4 := Tryz.sizeOf4
  v4 := Tryz.zeroValue4
  t5 := Tryz.underlying5
  a5 := Tryz.isAgg5
  z5 := Tryz.sizeOf5
  v5 := Tryz.zeroValue5
  t9 := Tryz.underlying9
  a9 := Tryz.isAgg9
  z9 := Tryz.sizeOf9
  v9 := Tryz.zeroValue9
  t20 := Tryz.underlying20
  a20 := Tryz.isAgg20
  z20 := Tryz.sizeOf20
  v20 := Tryz.zeroValue20
  t37 := Tryz.underlying57
  a37 := Tryz.isAgg57
  z37 := Tryz.sizeOf57
  v37 := Tryz.zeroValue57
  t46 := Tryz.underlying76
  a46 := Tryz.isAgg76
  z46 := Tryz.sizeOf76
  v46 := Tryz.zeroValue76
  t51 := Tryz.underlying93
  a51 := Tryz.isAgg93
  z51 := Tryz.sizeOf93
  v51 := Tryz.zeroValue93
  t53 := Tryz.underlying156
  a53 := Tryz.isAgg156
  z53 := Tryz.sizeOf156
  v53 := Tryz.zeroValue156
  t171 := Tryz.underlying155
  a171 := Tryz.isAgg155
  z171 := Tryz.sizeOf155
  v171 := Tryz.zeroValue155
  t173 := Tryz.underlying159
  a173 := Tryz.isAgg159
  z173 := Tryz.sizeOf159
  v173 := Tryz.zeroValue159
  t212 := Tryz.underlying179
  a212 := Tryz.isAgg179
  z212 := Tryz.sizeOf179
  v212 := Tryz.zeroValue179
  t213 := Tryz.underlying180
  a213 := Tryz.isAgg180
  z213 := Tryz.sizeOf180
  t232 := Tryz.underlying195
  a232 := Tryz.isAgg195
  z232 := Tryz.sizeOf195
  v232 := Tryz.zeroValue195
  t233 := Tryz.underlying196
  a233 := Tryz.isAgg196
  z233 := Tryz.sizeOf196
  v233 := Tryz.zeroValue196
  g17 := by kernel_rfl
  g18 := by kernel_rfl
  g19 := by kernel_rfl
  i0 := by kernel_rfl
  i2 := by kernel_rfl
  i3 := by kernel_rfl
  i4 := by kernel_rfl
  i5 := by kernel_rfl
  i9 := by kernel_rfl
  i20 := by kernel_rfl
  i37 := by kernel_rfl
  i46 := by kernel_rfl
  i51 := by kernel_rfl
  i53 := by kernel_rfl
  i171 := by kernel_rfl
  i173 := by kernel_rfl
  i212 := by kernel_rfl
  i232 := by kernel_rfl
  i233 := by kernel_rfl
  m17 := by kernel_rfl
  m18 := by kernel_rfl
  m19 := by kernel_rfl }
open Go.RowKit Go.Sort Go.Lib in
/-- strconv.Itoa: "Itoa is equivalent to FormatInt(int64(i), 10).": i's DECIMAL NUMERAL ('Lib.itoa': a '-' where i is negative, then the digits), FOR EVERY int. The world behind the call: the world before it, new blocks behind the heap (the library's 'var a [24]byte'), draws. (LAID: no walk: one application.) -/
theorem Tryz.strconv_Itoa (n : Int) (h0 : -9223372036854775808 ≤ n) (h1 : n ≤ 9223372036854775807) (w : World) (htab : Lib.TabIs Tryz.prog w "internal/strconv.uint64pow10" .u64 Lib.pow10Tab) :
    Calls Tryz.prog 76 #[.int .i64 n] w fun e w' => e = .returned (.string ⟨(Lib.itoa n).toArray⟩) ∧ ∃ k os, w' = grow (w.drewN k) os := Any.strconv_Itoa Tryz.laysM171 n h0 h1 w htab
end Go.Proofs

/- The rules; strings.Replacer. -/
set_option linter.unusedVariables false
set_option linter.unusedSimpArgs false
set_option linter.unusedSectionVars false
set_option maxRecDepth 20000
namespace Go.Proofs.YtomghnmoomodiaaGreatDoor
open Go.GAM Go.RowKit

/-- strconv.Itoa and strings.Join, by the shelf's contracts. -/
def libX : CallR := fun f args h K =>
  (f = G_strconv_Itoa.id ∧ ∃ n : Int, args = [.i .i64 n] ∧ -9223372036854775808 ≤ n ∧ n ≤ 9223372036854775807 ∧ K (.s (Lib.itoa n)) h) ∨
  (f = G_strings_Join.id ∧ ∃ (v : AV) (ls : List (List UInt8)) (sep : List UInt8), args = [v, .s sep] ∧ Rd 1 h v (ls.map .s) ls.length ∧ (Lib.join ls sep).length ≤ 1000000000 ∧ ls.length ≤ 1000000000 ∧ K (.s (Lib.join ls sep)) h)
theorem okIt : bodyOK prog G_strconv_Itoa.id = true := by kernel_rfl
theorem okJn : bodyOK prog G_strings_Join.id = true := by kernel_rfl

theorem rd_strs {w w0 : World} {Fz : Nat → Prop} {μ : Mu} {own : Nat → Option Nat} {h : AHeap} (R : Rel w0 Fz μ own h w) {v : AV} {cv : Value} {ls : List (List UInt8)} (hv : VRel μ v cv) (hr : Rd 1 h v (ls.map .s) ls.length) :
    ∃ a c, cv = .slice a ls.length c ∧ (ls ≠ [] → ∃ B o, a = some ⟨B, o, none⟩ ∧ B < w.heap.size ∧ ls.length ≤ c ∧ ∀ (j : Nat) x, (ls.map fun l => (⟨l.toArray⟩ : ByteArray))[j]? = some x → w.cell? ⟨B, o + j, none⟩ = some (.string x)) := by
  rcases hr with ⟨rfl, h1, h2⟩ | ⟨id, ver, off, cap, b, rfl, h2, h3, h4, h5, h6, h7⟩
  · have : ls = [] := by simpa using h1
    subst this
    cases hv
    exact ⟨none, 0, rfl, fun h => absurd rfl h⟩
  · cases hv with | sl _ _ _ c addr l hl hle hf hc hs ha =>
    refine ⟨some addr, c, rfl, fun hne => ?_⟩
    have hlp := List.length_pos_iff.2 hne
    have hadr := ha (by omega)
    have hrd := R.read (a := ⟨id, ver, off⟩) (n := ls.length) h2 ⟨h4, h5, by simpa using h6⟩ hl
    obtain ⟨cv0, e0, _⟩ := hrd 0 hlp
    refine ⟨l.B, l.base + off, by rw [hadr], World.block_lt_of_cell? w _ e0, hle, fun j x hj => ?_⟩
    have hjl : j < ls.length := by have := lt_of_some hj; simpa using this
    obtain ⟨cv, e1, e2⟩ := hrd j hjl
    have hcell : b.cells.getD (off + j) .u = .s ls[j] := by
      have : (ls.map AV.s)[j]? = some (.s ls[j]) := by simp [hjl]
      rw [← h7, List.getElem?_take_of_lt (by omega), List.getElem?_drop] at this
      rw [List.getD_eq_getElem?_getD, this]; rfl
    simp only at e1 e2
    rw [hcell] at e2
    rw [Nat.add_assoc, e1]
    cases e2 with | s _ y hy =>
    have : x = y := by
      simp [hjl] at hj
      subst hj
      obtain ⟨d⟩ := y
      simp only at hy
      congr 1
      apply Array.ext'
      rw [← hy]
    rw [this]

theorem libX_sound {W : World} (ht : Lib.TabIs prog W "internal/strconv.uint64pow10" .u64 Lib.pow10Tab) : SoundAt prog W (fun B => B < W.heap.size) (fun _ _ => none) libX := by
  rintro f args h K (⟨rfl, n, rfl, h0, h1, hk⟩ | ⟨rfl, v, ls, sep, rfl, hr, hl, hn, hk⟩) μ own w cargs hsb R hc
  · rw [if_pos (by decide)]
    obtain ⟨rfl⟩ : cargs = [.int .i64 n] := by
      cases hc with | cons _ _ _ _ a b => cases a; cases b; rfl
    have ht' : Lib.TabIs prog w "internal/strconv.uint64pow10" .u64 Lib.pow10Tab := by
      have hB : Below W.heap.size W w := ⟨R.os, R.tape, R.output, R.size0, fun k hk => (R.fz k hk).2⟩
      exact Lib.tabBelow_of_tabIs ht w hB
    exact x_calls okIt R ((Tryz.strconv_Itoa n h0 h1 w ht').mono fun e w' ⟨he, k, os, hw⟩ => ⟨he, hw ▸ Lib.below_grow _ w (Nat.le_refl _) k os⟩) (.s _ _ (by simp)) hk
  · rw [if_pos (by decide)]
    cases hc with | cons _ cv _ _ hv t =>
    cases t with | cons _ _ _ _ hs t =>
    cases t
    cases hs with | s _ sx hsx =>
    obtain ⟨a, c, rfl, hne⟩ := rd_strs R hv hr
    have e1 : ((ls.map fun l => (⟨l.toArray⟩ : ByteArray)).map (·.data.toList)) = ls := by
      rw [List.map_map]
      conv => rhs; rw [← List.map_id ls]
      exact List.map_congr_left fun l _ => by simp
    by_cases h0 : ls = []
    · subst h0
      refine x_calls okJn R ((Tryz.strings_Join_none a c sx w).mono fun e w' ⟨he, hw⟩ => ⟨he, hw ▸ Below.refl _ _⟩) (.s _ _ rfl) ?_
      simpa [Lib.join] using hk
    · obtain ⟨B, o, rfl, hB, hlc, hcells⟩ := hne h0
      have hj := Tryz.strings_Join B o c (ls.map fun l => (⟨l.toArray⟩ : ByteArray)) sx w hcells hB (by simp; omega) (by simpa using hlc) (by rw [e1, hsx]; omega)
      rw [e1, hsx, List.length_map] at hj
      exact x_calls okJn R hj (.s _ _ (by simp)) hk

theorem tab_ok {W : World} {l : List (String × DataW Unit)} (hm : ("internal/strconv.uint64pow10", Rows.laid_internal_strconv_uint64pow10) ∈ l) (hL : laidMet Tryz.prog l W) : Lib.TabIs prog W "internal/strconv.uint64pow10" .u64 Lib.pow10Tab := by
  obtain ⟨g, t, cs, fuel, p, hg, ht, hv, hd⟩ := laid_shape hm hL
  obtain rfl := Option.some.inj ((show Tryz.prog.globalNamed "internal/strconv.uint64pow10" = some 6 by kernel_rfl).symm.trans hg)
  obtain rfl := Option.some.inj ((show (Tryz.prog.globals[6]?).map (·.type) = some 179 by kernel_rfl).symm.trans ht)
  have e : (Rows.laid_internal_strconv_uint64pow10 : DataW Unit) = Lib.tabData .u64 Lib.pow10Tab := by rfl
  rw [e] at hd
  have := Lib.cells_of_tab (n := 20) Tryz.underlying179 (show Tryz.prog.underlying 156 = some (.int .u64) from Tryz.underlying156) (by kernel_rfl) (by kernel_rfl) hd
  show W.var? Tryz.prog _ = _
  rw [hv, ← this]

/-- Functions without a body; sync.Once's slow way, which defers calls; the shelf's. -/
noncomputable instance xr1 : XR := ⟨orR (orR (tabX extT) (aFD prog (@C xr0))) libX⟩
theorem soundX {W : World} (ht : Lib.TabIs prog W "internal/strconv.uint64pow10" .u64 Lib.pow10Tab) : SoundAt prog W (fun B => B < W.heap.size) (fun _ _ => none) (@X xr1) := fun f args h K hk =>
  hk.elim (orR_sound base_sound (aFD_sound mixedOK sizeOK (acall_sound mixedOK sizeOK base_sound)) _ _ _ f args h K) (libX_sound ht f args h K)
theorem C_up {f : FuncId} {args : List AV} {h : AHeap} {K : AV → AHeap → Prop} (hk : @C xr0 f args h K) : C f args h K := acall_up (fun _ _ _ _ h => .inl (.inl h)) hk
theorem row_c {f : FuncId} {Y : CallX} {args : List AV} {h : AHeap} {K : AV → AHeap → Prop} (hm : (f, Y) ∈ extT) (hk : Y args h K) : C f args h K := acall_x (.inl (.inl (tabX_c hm hk)))
theorem slow_c {f : FuncId} {args : List AV} {h : AHeap} {K : AV → AHeap → Prop} (hk : aFD prog (@C xr0) f args h K) : C f args h K := acall_x (.inl (.inr hk))
theorem itoa_c {n : Nat} {h : AHeap} {K : AV → AHeap → Prop} (hn : n < 9223372036854775808) (hk : K (.s (Lib.decDigits n)) h) : C G_strconv_Itoa.id [.i .i64 (n : Int)] h K :=
  acall_x (.inr (.inl ⟨rfl, (n : Int), rfl, by omega, by omega, by rw [Lib.itoa_nonneg]; exact hk⟩))
theorem join_c {v : AV} {ls : List (List UInt8)} {sep : List UInt8} {h : AHeap} {K : AV → AHeap → Prop} (hr : Rd 1 h v (ls.map .s) ls.length) (hl : (Lib.join ls sep).length ≤ 1000000000) (hn : ls.length ≤ 1000000000) (hk : K (.s (Lib.join ls sep)) h) : C G_strings_Join.id [v, .s sep] h K :=
  acall_x (.inr (.inr ⟨rfl, v, ls, sep, rfl, hr, hl, hn, hk⟩))

theorem ixb_c {l : List UInt8} {c : UInt8} {h : AHeap} {K : AV → AHeap → Prop} (hk : K (.i .i64 (Lib.indexByte l c)) h) : C G_i_bytealg_IndexByteString.id [.s l, .i .u8 (c.toNat : Int)] h K := row_c G_i_bytealg_IndexByteString.row ⟨l, c, rfl, hk⟩
theorem ctb_c {l : List UInt8} {c : UInt8} {h : AHeap} {K : AV → AHeap → Prop} (hk : K (.i .i64 (Lib.countByte l c : Nat)) h) : C G_i_bytealg_CountString.id [.s l, .i .u8 (c.toNat : Int)] h K := row_c G_i_bytealg_CountString.row ⟨l, c, rfl, hk⟩

section
variable {h : AHeap} {Q : AV → AHeap → Prop}

theorem ct_c {l : List UInt8} {c : UInt8} (hk : Q (.i .i64 (Lib.countByte l c : Nat)) h) : C G_strings_Count.id [.s l, .s [c]] h Q := by
  refine G_strings_Count.call ?_
  simp only [G_strings_Count.t, G_strings_Count.j0]
  refine bif_f rfl ?_
  refine bif_t rfl (st_at (i := 0) rfl (ctb_c (st_asI (.inl hk))))

/-! ### plain law -/

def escS (sp : List UInt8) (s : List UInt8) : List UInt8 := s.flatMap fun c => if c ∈ sp then [92, c] else [c]
theorem escS_nil {sp : List UInt8} : escS sp [] = [] := rfl
theorem escS_app {sp a b : List UInt8} : escS sp (a ++ b) = escS sp a ++ escS sp b := by simp [escS]
theorem escS_one {sp : List UInt8} {c : UInt8} : escS sp [c] = if c ∈ sp then [92, c] else [c] := by simp [escS]
theorem escS_no {sp : List UInt8} : ∀ {s : List UInt8}, (s.any fun c => decide (c ∈ sp)) = false → escS sp s = s
  | [], _ => rfl
  | c :: r, h => by
    simp only [List.any_cons, Bool.or_eq_false_iff, decide_eq_false_iff_not] at h
    show (if c ∈ sp then [92, c] else [c]) ++ escS sp r = _
    rw [if_neg h.1, escS_no h.2]; rfl
def sumC (l s : List UInt8) : Nat := (l.map fun d => Lib.countByte s d).sum
theorem sumC_nil : ∀ l : List UInt8, sumC l [] = 0
  | [] => rfl
  | d :: l => by
    have : sumC (d :: l) [] = Lib.countByte [] d + sumC l [] := rfl
    rw [this, sumC_nil l]; rfl
theorem sumC_cons (c : UInt8) (r : List UInt8) : ∀ {l : List UInt8}, l.Nodup → sumC l (c :: r) = sumC l r + if c ∈ l then 1 else 0
  | [], _ => rfl
  | d :: l, hn => by
    obtain ⟨h1, h2⟩ := List.nodup_cons.1 hn
    have ih := sumC_cons c r h2
    have e1 : sumC (d :: l) (c :: r) = Lib.countByte (c :: r) d + sumC l (c :: r) := rfl
    have e2 : sumC (d :: l) r = Lib.countByte r d + sumC l r := rfl
    have e3 : Lib.countByte (c :: r) d = Lib.countByte r d + if c = d then 1 else 0 := by
      unfold Lib.countByte
      rw [List.count_cons]
      simp
    rw [e1, e2, e3, ih]
    by_cases e : c = d
    · subst e
      rw [if_pos rfl, if_neg h1, if_pos (List.mem_cons_self ..)]; omega
    · rw [if_neg e]
      have : (c ∈ d :: l) ↔ c ∈ l := by simp [e]
      simp only [this]; omega
theorem escS_len {sp : List UInt8} (hn : sp.Nodup) : ∀ s : List UInt8, (escS sp s).length = s.length + sumC sp s
  | [] => by rw [sumC_nil]; rfl
  | c :: r => by
    rw [sumC_cons c r hn]
    show ((if c ∈ sp then [92, c] else [c]) ++ escS sp r).length = _
    rw [List.length_append, escS_len hn r, List.length_cons]
    split <;> simp <;> omega
theorem sumC_any {s : List UInt8} : ∀ {l : List UInt8}, decide (sumC l s ≠ 0) = (s.any fun c => decide (c ∈ l))
  | [] => by simp [sumC]
  | d :: l => by
    have ih := sumC_any (s := s) (l := l)
    rw [Bool.eq_iff_iff] at ih ⊢
    simp only [decide_eq_true_eq, List.any_eq_true, List.mem_cons] at ih ⊢
    have e : sumC (d :: l) s = Lib.countByte s d + sumC l s := rfl
    have e2 : Lib.countByte s d ≠ 0 ↔ d ∈ s := by
      unfold Lib.countByte
      rw [Nat.ne_zero_iff_zero_lt, List.count_pos_iff]
    constructor
    · intro h
      by_cases h0 : Lib.countByte s d = 0
      · obtain ⟨c, h1, h2⟩ := ih.1 (by omega)
        exact ⟨c, h1, .inr h2⟩
      · exact ⟨d, e2.1 h0, .inl rfl⟩
    · rintro ⟨c, h1, rfl | h2⟩
      · have := e2.2 h1; omega
      · have := ih.2 ⟨c, h1, h2⟩; omega
theorem sumC_rev (l s : List UInt8) : sumC l.reverse s = sumC l s := by
  unfold sumC; rw [List.map_reverse, List.sum_reverse]
theorem sumC_le {l : List UInt8} (hn : l.Nodup) : ∀ s : List UInt8, sumC l s ≤ s.length
  | [] => by rw [sumC_nil]; exact Nat.le_refl _
  | c :: r => by
    rw [sumC_cons c r hn]
    have := sumC_le hn r
    rw [List.length_cons]
    split <;> omega

/-! ### a copy into a buffer -/

theorem Tx.cutCopy {h0 : AHeap} {v : AV} {l : List UInt8} {j : Nat} {x y : UInt8} (A : Tx h0 h v l) (hj : j + 2 ≤ l.length) : ∃ z, (∀ K : AV → Prop, K z → pSliceSl 1 v (some (.i .i64 (j : Int))) none none h K) ∧
    ∀ (w : AV) (K : AV → AHeap → Prop), Byt h w [x, y] → (∀ h', Tx h0 h' v ((l.set j x).set (j + 1) y) → K (.i .i64 2) h') → pCopy 1 z w h K := by
  rcases A.arr with ⟨rfl, _, h0⟩ | ⟨id, b, rfl, hb, hbc, h4, h5, h6, h7, h8⟩
  · omega
  have hbl : b.cells.length = l.length := by rw [hbc]; simp
  have hidl := lt_of_some hb
  refine ⟨.sl (some ⟨id, (l.map byteAV).length, 0 + j * 1⟩) (l.length - j) none, fun K hk => ?_, fun w K B hk => ?_⟩
  · refine ⟨by decide, by simp, ?_⟩
    refine ⟨by omega, ?_⟩
    simp only [Int.toNat_natCast]
    refine ⟨by omega, b, hb, by rw [hbc]; exact h6, h6, .inl h5, .inl (Nat.le_refl _), ?_⟩
    exact hk
  · refine ⟨by decide, Rd.news B ?_⟩
    have hm : min [x, y].length (l.length - j) = 2 := by simp; omega
    refine ⟨b, hb, h5, ⟨h6, by show (l.map byteAV).length ≤ _; rw [hbc]; exact Nat.le_refl _, by show 0 + j * 1 + (l.length - j) * 1 ≤ (l.map byteAV).length; rw [List.length_map]; omega⟩, h7, by show (l.map byteAV).length = _; rw [hbc], by rw [hm]; rfl, ?_⟩
    rw [hm]
    have ew : wr b.cells (0 + j * 1) (([x, y].map byteAV).take (2 * 1)) = ((l.set j x).set (j + 1) y).map byteAV := by
      rw [hbc]
      show ((l.map byteAV).set (0 + j * 1) (byteAV x)).set (0 + j * 1 + 1) (byteAV y) = _
      rw [Nat.zero_add, Nat.mul_one, ← List.map_set, ← List.map_set]
    refine hk _ ⟨A.upd.trans (Upd.set _ _ _) fun i hi e => ?_, .inr ⟨id, { b with cells := wr b.cells (0 + j * 1) (([x, y].map byteAV).take (2 * 1)), floor := b.cells.length }, ?_, List.getElem?_set_self hidl, ew, ?_, h5, ?_, h7, h8⟩, A.new⟩
    · have h9 := A.new id rfl
      have e : i = id := e
      omega
    · simp
    · simp
    · show b.cells.length ≤ _
      rw [hbl]; simp

/-! ### (*byteStringReplacer).Replace -/

variable {sp s : List UInt8} {idR lo : Nat}

/-- The table, looked at. -/
theorem RepAt.look {c : UInt8} {k : Int} (R : RepAt lo h idR sp) (hk' : k = (c.toNat : Int)) {K : AV → Prop} (hno : c ∉ sp → K (.sl none 0 none)) (hyes : ∀ a, c ∈ sp → Byt h (.sl (some a) 2 none) [92, c] → K (.sl (some a) 2 none)) :
    pNil (.p (some ⟨idR, 257, 0⟩)) fun v => pFieldAddr 0 v fun v => pIdxAddrArr 256 1 v (.i .u8 k) fun v => pLoad1 v h K := by
  subst hk'
  obtain ⟨cs, tr, h1, h2, h3, h4, h5, h6, h7⟩ := R.cells
  have hc := c.toNat_lt
  refine st_nil (st_fld ⟨by omega, by omega, ?_⟩)
  simp only [Int.toNat_natCast, Nat.zero_add, Nat.mul_one]
  by_cases hcs : c ∈ sp
  · obtain ⟨a, g1, g2, _⟩ := h7 c hcs
    exact st_load h1 h2.symm g1 (hyes a hcs g2)
  · exact st_load h1 h2.symm (h6 c hcs) (hno hcs)

theorem neNil {K : AV → Prop} {t : TypeId} (ht : isSl prog t = true) (hk : K (.b false)) : pBin prog .neq t (.sl none 0 none) (.sl none 0 none) K := by
  simp only [pBin, ht, cond_true]; exact hk
theorem neSome {K : AV → Prop} {t : TypeId} {a : AA} {n : Nat} {c : Option Nat} (ht : isSl prog t = true) (hk : K (.b true)) : pBin prog .neq t (.sl (some a) n c) (.sl none 0 none) K := by
  simp only [pBin, ht, cond_true]; exact hk

theorem rep_p5 {h0 : AHeap} (R0 : RepAt lo h0 idR sp) (hs : s.length ≤ 100000000) (hn : sp.Nodup) (hq : Q (.s (escS sp s)) h) (U0 : Upd (fun _ => False) h h0) :
    ∀ (k i : Nat) (v : AV) (hx : AHeap), s.length = i + k → Tx h0 hx v (escS sp (s.take i) ++ List.replicate ((escS sp s).length - (escS sp (s.take i)).length) 0) →
    G_strings_byteStringReplacer_Replace.p5 (kRet h Q) (.p (some ⟨idR, 257, 0⟩)) s v ((escS sp (s.take i)).length : Int) (i : Int) hx := by
  have hel : ∀ t : List UInt8, t.length ≤ 100000000 → (escS sp t).length ≤ 200000000 := fun t ht => by
    have := escS_len hn t
    have := sumC_le hn t
    omega
  intro k
  induction k with
  | zero =>
    intro i v hx hi T
    refine G_strings_byteStringReplacer_Replace.i5 ?_
    simp only [G_strings_byteStringReplacer_Replace.t5]
    refine bif_f (decide_eq_false (by omega)) ?_
    rw [List.take_of_length_le (by omega)] at T
    simp only [Nat.sub_self, List.replicate_zero, List.append_nil] at T
    refine Tx.str T ?_
    exact kRet_pure rfl (U0.trans T.upd fun _ _ h => h).ext hq
  | succ k ih =>
    intro i v hx hi T
    obtain ⟨c, hc⟩ : ∃ c, s[i]? = some c := ⟨s[i], List.getElem?_eq_getElem (by omega)⟩
    have htk := take_snoc hc
    have hle : (escS sp (s.take (i + 1))).length ≤ (escS sp s).length := by
      conv => rhs; rw [← List.take_append_drop (i + 1) s, escS_app, List.length_append]
      omega
    have hbig := hel s hs
    have he1 : escS sp (s.take (i + 1)) = escS sp (s.take i) ++ (if c ∈ sp then [92, c] else [c]) := by rw [htk, escS_app, escS_one]
    refine G_strings_byteStringReplacer_Replace.i5 ?_
    simp only [G_strings_byteStringReplacer_Replace.t5, G_strings_byteStringReplacer_Replace.j6]
    refine bif_t (decide_eq_true (by omega)) ?_
    refine st_at (drop_of_at hc) ?_
    have Rx : RepAt lo hx idR sp := R0.upd T.upd fun _ _ h => h
    have nxt : ∀ (v : AV) (hy : AHeap), Tx h0 hy v (escS sp (s.take (i + 1)) ++ List.replicate ((escS sp s).length - (escS sp (s.take (i + 1))).length) 0) →
        G_strings_byteStringReplacer_Replace.p6 (kRet h Q) (.p (some ⟨idR, 257, 0⟩)) s v ((escS sp (s.take (i + 1))).length : Int) (i : Int) hy := by
      intro v hy Ty
      refine G_strings_byteStringReplacer_Replace.i6 ?_
      simp only [G_strings_byteStringReplacer_Replace.t6, G_strings_byteStringReplacer_Replace.j5]
      exact inc (by omega) (ih (i + 1) v hy (by omega) Ty)
    refine Rx.look rfl (fun hcs => ?_) fun a hcs B => ?_
    · rw [if_neg hcs] at he1
      refine neNil (by kernel_rfl) (st_asB (bif_f rfl ?_))
      have hl1 : (escS sp (s.take (i + 1))).length = (escS sp (s.take i)).length + 1 := by rw [he1]; simp
      refine Tx.store T (by simp; omega) fun hy Ty => ?_
      refine inc (by omega) ?_
      rw [← hl1]
      refine nxt v hy ?_
      have e : (escS sp (s.take i) ++ List.replicate ((escS sp s).length - (escS sp (s.take i)).length) 0).set (escS sp (s.take i)).length c = escS sp (s.take (i + 1)) ++ List.replicate ((escS sp s).length - (escS sp (s.take (i + 1))).length) 0 := by
        obtain ⟨m, hm⟩ : ∃ m, (escS sp s).length - (escS sp (s.take i)).length = m + 1 := ⟨(escS sp s).length - (escS sp (s.take i)).length - 1, by omega⟩
        have hm2 : (escS sp s).length - (escS sp (s.take (i + 1))).length = m := by omega
        rw [hm, hm2, he1, List.replicate_succ, List.set_append_right _ _ (Nat.le_refl _), Nat.sub_self]
        simp
      rw [e] at Ty
      exact Ty
    · rw [if_pos hcs] at he1
      refine neSome (by kernel_rfl) (st_asB (bif_t rfl ?_))
      have hl1 : (escS sp (s.take (i + 1))).length = (escS sp (s.take i)).length + 2 := by rw [he1]; simp
      obtain ⟨z, hz1, hz2⟩ := Tx.cutCopy (x := 92) (y := c) (j := (escS sp (s.take i)).length) T (by simp; omega)
      refine hz1 _ ?_
      refine Rx.look rfl (fun hcs' => absurd hcs hcs') fun a' _ B' => ?_
      refine hz2 _ _ B' fun hy Ty => st_asI ?_
      refine inc2 (by omega) ?_
      rw [← hl1]
      refine nxt v hy ?_
      have e : ((escS sp (s.take i) ++ List.replicate ((escS sp s).length - (escS sp (s.take i)).length) 0).set (escS sp (s.take i)).length 92).set ((escS sp (s.take i)).length + 1) c = escS sp (s.take (i + 1)) ++ List.replicate ((escS sp s).length - (escS sp (s.take (i + 1))).length) 0 := by
        obtain ⟨m, hm⟩ : ∃ m, (escS sp s).length - (escS sp (s.take i)).length = m + 2 := ⟨(escS sp s).length - (escS sp (s.take i)).length - 2, by omega⟩
        have hm2 : (escS sp s).length - (escS sp (s.take (i + 1))).length = m := by omega
        rw [hm, hm2, he1, List.replicate_succ, List.replicate_succ, List.set_append_right _ _ (Nat.le_refl _), Nat.sub_self, List.set_append_right _ _ (by omega)]
        simp
      rw [e] at Ty
      exact Ty

theorem rep_p4 (R0 : RepAt lo h idR sp) (hs : s.length ≤ 100000000) (hn : sp.Nodup) (hq : Q (.s (escS sp s)) h) {x5 : Int} {x6 : Bool} (h5 : x5 = ((escS sp s).length : Nat)) (h6 : x6 = (s.any fun c => decide (c ∈ sp))) :
    G_strings_byteStringReplacer_Replace.p4 (kRet h Q) (.p (some ⟨idR, 257, 0⟩)) s x5 x6 h := by
  have hel : (escS sp s).length ≤ 200000000 := by
    have := escS_len hn s
    have := sumC_le hn s
    omega
  refine G_strings_byteStringReplacer_Replace.i4 ?_
  simp only [G_strings_byteStringReplacer_Replace.t4, G_strings_byteStringReplacer_Replace.j5]
  subst h5; subst h6
  cases ha : s.any fun c => decide (c ∈ sp) with
  | false =>
    refine bif_t rfl (.inl ?_)
    rw [escS_no ha] at hq; exact hq
  | true =>
    refine bif_f rfl ?_
    refine st_make (by omega) (by omega) fun v h1 A => ?_
    have e : (List.replicate (escS sp s).length (AV.i .u8 0)) = (List.replicate (escS sp s).length (0 : UInt8)).map byteAV := by simp [byteAV]
    have T : Tx h h1 v (escS sp (s.take 0) ++ List.replicate ((escS sp s).length - (escS sp (s.take 0)).length) 0) := by
      rw [List.take_zero, escS_nil]
      simp only [List.length_nil, Nat.sub_zero, List.nil_append]
      rw [e] at A
      unfold Tx
      rw [List.length_replicate]; exact A
    have := rep_p5 (h0 := h) R0 hs hn hq (Upd.refl _ _) s.length 0 v h1 (by omega) T
    simpa [escS_nil] using this

theorem rep_p2 (R0 : RepAt lo h idR sp) (hs : s.length ≤ 100000000) (hn : sp.Nodup) (hq : Q (.s (escS sp s)) h) :
    ∀ (k i : Nat) (x5 : Int), s.length = i + k → x5 = (s.length : Int) + ((escS sp (s.take i)).length : Nat) - i →
    G_strings_byteStringReplacer_Replace.p2 (kRet h Q) (.p (some ⟨idR, 257, 0⟩)) s x5 ((s.take i).any fun c => decide (c ∈ sp)) (i : Int) h := by
  intro k
  induction k with
  | zero =>
    intro i x5 hi hx
    refine G_strings_byteStringReplacer_Replace.i2 ?_
    simp only [G_strings_byteStringReplacer_Replace.t2, G_strings_byteStringReplacer_Replace.j4]
    refine bif_f (decide_eq_false (by omega)) ?_
    have e : s.take i = s := List.take_of_length_le (by omega)
    refine rep_p4 R0 hs hn hq ?_ (by rw [e])
    rw [hx, e]; omega
  | succ k ih =>
    intro i x5 hi hx
    obtain ⟨c, hc⟩ : ∃ c, s[i]? = some c := ⟨s[i], List.getElem?_eq_getElem (by omega)⟩
    have htk := take_snoc hc
    have hel : (escS sp (s.take i)).length ≤ 200000000 := by
      have := escS_len hn (s.take i)
      have := sumC_le hn (s.take i)
      have : (s.take i).length ≤ s.length := by simp; omega
      omega
    have he1 : escS sp (s.take (i + 1)) = escS sp (s.take i) ++ (if c ∈ sp then [92, c] else [c]) := by rw [htk, escS_app, escS_one]
    refine G_strings_byteStringReplacer_Replace.i2 ?_
    simp only [G_strings_byteStringReplacer_Replace.t2, G_strings_byteStringReplacer_Replace.j3]
    refine bif_t (decide_eq_true (by omega)) ?_
    refine st_at (drop_of_at hc) ?_
    have hany : ((s.take (i + 1)).any fun c => decide (c ∈ sp)) = (((s.take i).any fun c => decide (c ∈ sp)) || decide (c ∈ sp)) := by rw [htk]; simp
    have nxt : ∀ (x5 : Int) (x6 : Bool), x5 = (s.length : Int) + ((escS sp (s.take (i + 1))).length : Nat) - (i + 1 : Nat) → x6 = ((s.take (i + 1)).any fun c => decide (c ∈ sp)) →
        G_strings_byteStringReplacer_Replace.p3 (kRet h Q) (.p (some ⟨idR, 257, 0⟩)) s x5 x6 (i : Int) h := by
      intro x5 x6 h1 h2
      refine G_strings_byteStringReplacer_Replace.i3 ?_
      simp only [G_strings_byteStringReplacer_Replace.t3, G_strings_byteStringReplacer_Replace.j2]
      subst h2
      exact inc (by omega) (ih (i + 1) x5 (by omega) h1)
    refine R0.look rfl (fun hcs => ?_) fun a hcs B => ?_
    · rw [if_neg hcs] at he1
      refine neNil (by kernel_rfl) (st_asB (bif_f rfl (nxt _ _ ?_ ?_)))
      · rw [hx, he1]; simp; omega
      · rw [hany, decide_eq_false hcs, Bool.or_false]
    · rw [if_pos hcs] at he1
      refine neSome (by kernel_rfl) (st_asB (bif_t rfl ?_))
      refine R0.look rfl (fun hcs' => absurd hcs hcs') fun a' _ B' => ?_
      refine st_len (withI_is (show IntKind.wrap .i64 (((2 : Nat) : Int) - 1) = 1 by decide) ?_)
      refine withI_is (show IntKind.wrap .i64 (x5 + 1) = x5 + 1 by rw [wrap_i64] <;> omega) (nxt _ _ ?_ ?_)
      · rw [hx, he1]; simp; omega
      · rw [hany, decide_eq_true hcs, Bool.or_true]

theorem rep_p0 (R0 : RepAt lo h idR sp) (hs : s.length ≤ 100000000) (hn : sp.Nodup) (hl : sp.length ≤ 100) (hq : Q (.s (escS sp s)) h) {tr : AV} (hT : Rd 1 h tr (sp.reverse.map fun c => .s [c]) sp.length) :
    ∀ (k i : Nat) (x5 : Int), sp.length = i + k → x5 = (s.length : Int) + (sumC (sp.reverse.take i) s : Nat) →
    G_strings_byteStringReplacer_Replace.p0 (kRet h Q) (.p (some ⟨idR, 257, 0⟩)) s x5 (decide (sumC (sp.reverse.take i) s ≠ 0)) tr (sp.length : Int) (i : Int) h := by
  intro k
  induction k with
  | zero =>
    intro i x5 hi hx
    refine G_strings_byteStringReplacer_Replace.i0 ?_
    simp only [G_strings_byteStringReplacer_Replace.t0, G_strings_byteStringReplacer_Replace.j4]
    refine bif_f (decide_eq_false (by omega)) ?_
    have e : sp.reverse.take i = sp.reverse := List.take_of_length_le (by simp; omega)
    refine rep_p4 R0 hs hn hq ?_ ?_
    · rw [hx, e, sumC_rev, escS_len hn]; omega
    · rw [e, sumC_rev, sumC_any]
  | succ k ih =>
    intro i x5 hi hx
    obtain ⟨c, hc⟩ : ∃ c, sp.reverse[i]? = some c := ⟨sp.reverse[i]'(by simp; omega), List.getElem?_eq_getElem _⟩
    have htk := take_snoc hc
    have hcm : c ∈ sp := by have := List.mem_of_getElem? hc; simpa using this
    have hsum : sumC (sp.reverse.take (i + 1)) s = sumC (sp.reverse.take i) s + Lib.countByte s c := by
      rw [htk]; unfold sumC; simp
    have hb1 : sumC (sp.reverse.take (i + 1)) s ≤ s.length := sumC_le ((List.take_sublist _ _).nodup (by unfold List.Nodup at *; rw [List.pairwise_reverse]; exact hn.imp fun h e => h e.symm)) s
    refine G_strings_byteStringReplacer_Replace.i0 ?_
    simp only [G_strings_byteStringReplacer_Replace.t0, G_strings_byteStringReplacer_Replace.j1]
    refine bif_t (decide_eq_true (by omega)) ?_
    refine hT.cell (by decide) (by omega) (c := .s [c]) (by rw [Nat.mul_one, List.getElem?_map, hc]; rfl) (st_asS ?_)
    refine ct_c (st_asI ?_)
    have nxt : ∀ (x5 : Int) (x6 : Bool), x5 = (s.length : Int) + (sumC (sp.reverse.take (i + 1)) s : Nat) → x6 = decide (sumC (sp.reverse.take (i + 1)) s ≠ 0) →
        G_strings_byteStringReplacer_Replace.p1 (kRet h Q) (.p (some ⟨idR, 257, 0⟩)) s x5 x6 tr (sp.length : Int) (i : Int) h := by
      intro x5 x6 h1 h2
      refine G_strings_byteStringReplacer_Replace.i1 ?_
      simp only [G_strings_byteStringReplacer_Replace.t1, G_strings_byteStringReplacer_Replace.j0]
      subst h2
      exact inc (by omega) (ih (i + 1) x5 (by omega) h1)
    refine bif_both (fun e => ?_) fun e => ?_
    · have e : Lib.countByte s c ≠ 0 := by simpa using e
      refine st_at (i := 0) (c := c) (r := []) rfl ?_
      refine R0.look rfl (fun hcs => absurd hcm hcs) fun a _ B => ?_
      refine st_len (withI_is (show IntKind.wrap .i64 (((2 : Nat) : Int) - 1) = 1 by decide) ?_)
      refine withI_is (show IntKind.wrap .i64 ((Lib.countByte s c : Int) * 1) = Lib.countByte s c by rw [Int.mul_one, wrap_i64] <;> omega) ?_
      refine withI_is (show IntKind.wrap .i64 (x5 + (Lib.countByte s c : Int)) = x5 + Lib.countByte s c by rw [wrap_i64] <;> omega) (nxt _ _ ?_ ?_)
      · omega
      · rw [eq_comm, decide_eq_true]; omega
    · have e : Lib.countByte s c = 0 := by simpa using e
      refine nxt _ _ ?_ ?_
      · omega
      · rw [hsum, e, Nat.add_zero]

theorem bytesRep_c (R0 : RepAt lo h idR sp) (hs : s.length ≤ 100000000) (hn : sp.Nodup) (hl : sp.length ≤ 100) (hq : Q (.s (escS sp s)) h) : C G_strings_byteStringReplacer_Replace.id [.p (some ⟨idR, 257, 0⟩), .s s] h Q := by
  refine G_strings_byteStringReplacer_Replace.call ?_
  simp only [G_strings_byteStringReplacer_Replace.t, G_strings_byteStringReplacer_Replace.j0, G_strings_byteStringReplacer_Replace.j2]
  obtain ⟨cs, tr, h1, h2, h3, h4, _⟩ := R0.cells
  refine st_nil (st_fld (st_load h1 h2.symm h3 (h4.len ?_)))
  refine withI_is (show IntKind.wrap .i64 ((sp.length : Int) * 8) = (sp.length : Int) * 8 by rw [wrap_i64] <;> omega) ?_
  refine bif_both (fun e => ?_) fun e => ?_
  · refine st_nil (st_fld (st_load h1 h2.symm h3 (h4.len ?_)))
    have := rep_p0 R0 hs hn hl hq h4 sp.length 0 (s.length : Int) (by omega) (by simp [sumC])
    simpa [sumC] using this
  · have := rep_p2 R0 hs hn hq s.length 0 (s.length : Int) (by omega) (by simp [escS])
    simpa using this

/-! ### NewReplacer and Replace -/

theorem newRep_c {v : AV} (hl : sp.length ≤ 100) (hv : Rd 1 h v ((pairsS sp).map .s) (2 * sp.length)) (hp : 0 < sp.length) (hq : ∀ id h', Upd (fun _ => False) h h' → h.length ≤ id → NewRep h' id sp → Q (.p (some ⟨id, 5, 0⟩)) h') : C G_strings_NewReplacer.id [v] h Q := by
  refine G_strings_NewReplacer.call ?_
  simp only [G_strings_NewReplacer.t]
  refine hv.len (st_rem (n := 0) (by decide) (by rw [show ((2 * sp.length : Nat) : Int) = (sp.length : Int) * 2 by omega]; exact Int.mul_tmod_left _ _) (bif_f rfl ?_))
  have hok : ((pairsS sp).map AV.s).all AV.cellOK = true := by
    rw [List.all_eq_true]; intro x hx
    obtain ⟨c, _, rfl⟩ := List.mem_map.1 hx
    rfl
  refine (Arr.nil 1 h).append (by decide) (ns := (pairsS sp).map .s) (k := 2 * sp.length) (fun K hK => hv.news hK) (by simp [pairsS_len]) hok (by omega) (by omega) fun v' h1 U1 A1 F1 => ?_
  have U1' : Upd (fun _ => False) h h1 := U1.mono fun _ _ h => h
  have A1 : Arr 1 h1 v' ((pairsS sp).map .s) (2 * sp.length) := by simpa using A1
  have hv' : v'.parts = [v'] ∧ v'.sizeOK = true ∧ v'.cellOK = true := by
    rcases A1 with ⟨_, h0, _⟩ | ⟨id, b, rfl, _⟩
    · omega
    · exact ⟨rfl, rfl, rfl⟩
  refine st_pbA (cs := [.i .u32 0, .i .i32 0, .i .u32 0, .ni, v']) ?_ ?_
  · rcases A1 with ⟨_, h0, _⟩ | ⟨id, b, rfl, _⟩
    · omega
    · rfl
  refine st_box rfl fun h2 hl2 U2 R2 => ?_
  refine .inl (hq h1.length h2 (U1'.trans U2 fun _ _ h => h) U1'.1 ⟨v', R2, (A1.rd).upd U2 fun _ _ h => h, fun hi => ?_⟩)
  have := A1.rd.lt hi
  omega

theorem replace_c {id : Nat} (hs : s.length ≤ 100000000) (hn : sp.Nodup) (hl : sp.length ≤ 100) (hp : 2 ≤ sp.length) (N : NewRep h id sp) (hq : ∀ h', Upd (· = id) h h' → UsedRep h' id sp → Q (.s (escS sp s)) h') : C G_strings_Replacer_Replace.id [.p (some ⟨id, 5, 0⟩), .s s] h Q := by
  refine G_strings_Replacer_Replace.call ?_
  simp only [G_strings_Replacer_Replace.t]
  refine st_nil (st_fld ?_)
  refine G_sync_Once_Do.call ?_
  simp only [G_sync_Once_Do.t]
  obtain ⟨v, R, hv, hvn⟩ := N.is
  refine st_nil (st_fld ?_)
  refine C_up (bload_c R rfl rfl (st_asB (bif_t rfl ?_)))
  refine slow_c (doSlow_x hn hl hp N fun h1 U1 G1 => ?_)
  refine .inl ?_
  have G2 := G1
  obtain ⟨idR, R1, P1⟩ := G2
  refine st_nil (st_fld (st_load R1 rfl rfl ?_))
  refine inv_c (f := G_strings_byteStringReplacer_Replace.id) (by kernel_rfl) (by decide) ?_
  exact bytesRep_c P1 hs hn hl (st_asS (.inl (hq h1 U1 G1)))

end
end Go.Proofs.YtomghnmoomodiaaGreatDoor

/- The rules for body-less functions; strings.Index at one byte, Cut, CutPrefix, Contains; small letters; MatchName. -/
set_option linter.unusedVariables false
set_option linter.unusedSimpArgs false
set_option linter.unusedSectionVars false
set_option maxRecDepth 20000
namespace Go.Proofs.YtomghnmoomodiaaGreatDoor
open Go.GAM Go.RowKit

section
variable {h : AHeap} {Q : AV → AHeap → Prop}

theorem sindexByte_c {l : List UInt8} {c : UInt8} (hk : Q (.i .i64 (Lib.indexByte l c)) h) : C G_i_stringslite_IndexByte.id [.s l, .i .u8 (c.toNat : Int)] h Q := by
  refine G_i_stringslite_IndexByte.call ?_
  simp only [G_i_stringslite_IndexByte.t]
  exact ixb_c (st_asI (.inl hk))
theorem sindex_c {l : List UInt8} {c : UInt8} (hk : Q (.i .i64 (Lib.indexByte l c)) h) : C G_i_stringslite_Index.id [.s l, .s [c]] h Q := by
  refine G_i_stringslite_Index.call ?_
  simp only [G_i_stringslite_Index.t, G_i_stringslite_Index.j0]
  refine bif_f rfl ?_
  refine G_i_stringslite_Index.i0 ?_
  simp only [G_i_stringslite_Index.t0]
  refine bif_both (fun e => ?_) fun e => ?_
  · have e := of_decide_eq_true e
    subst e
    have : Lib.indexByte [c] c = 0 := by simp [Lib.indexByte]
    rw [this] at hk
    exact .inl hk
  · exact bif_t rfl (st_at (i := 0) rfl (sindexByte_c (st_asI (.inl hk))))
theorem ix_c {l : List UInt8} {c : UInt8} (hk : Q (.i .i64 (Lib.indexByte l c)) h) : C G_strings_Index.id [.s l, .s [c]] h Q := by
  refine G_strings_Index.call ?_
  simp only [G_strings_Index.t]
  exact sindex_c (st_asI (.inl hk))
theorem contains_c {l : List UInt8} {c : UInt8} (hk : Q (.b (decide (0 ≤ Lib.indexByte l c))) h) : C G_strings_Contains.id [.s l, .s [c]] h Q := by
  refine G_strings_Contains.call ?_
  simp only [G_strings_Contains.t]
  exact ix_c (st_asI (.inl hk))

def cutS (l : List UInt8) (c : UInt8) : List UInt8 × List UInt8 × Bool := if 0 ≤ Lib.indexByte l c then (l.take (Lib.indexByte l c).toNat, l.drop ((Lib.indexByte l c).toNat + 1), true) else (l, [], false)
theorem index_lt : ∀ (l : List UInt8) (c : UInt8), -1 ≤ Lib.indexByte l c ∧ Lib.indexByte l c < l.length
  | [], c => by simp [Lib.indexByte]
  | b :: l, c => by
    have := index_lt l c
    unfold Lib.indexByte
    split
    · simp
    · split
      · simp; omega
      · simp; omega
theorem cut_c {l : List UInt8} {c : UInt8} (hl : l.length ≤ 9223372036854775807) (hk : Q (.tu [.s (cutS l c).1, .s (cutS l c).2.1, .b (cutS l c).2.2]) h) : C G_strings_Cut.id [.s l, .s [c]] h Q := by
  have hb := index_lt l c
  refine G_strings_Cut.call ?_
  simp only [G_strings_Cut.t]
  refine G_i_stringslite_Cut.call ?_
  simp only [G_i_stringslite_Cut.t]
  refine sindex_c (st_asI ?_)
  unfold cutS at hk
  by_cases h0 : 0 ≤ Lib.indexByte l c
  · rw [if_pos h0] at hk
    obtain ⟨n, hn⟩ : ∃ n : Nat, Lib.indexByte l c = n := ⟨(Lib.indexByte l c).toNat, by omega⟩
    rw [hn] at hk hb ⊢
    simp only [Int.toNat_natCast] at hk
    refine bif_t (by simp) (st_subs1 (by omega) (withI_is (n := ((n + 1 : Nat) : Int)) (by rw [wrap_i64 (by simp only [List.length_singleton]; omega) (by simp only [List.length_singleton]; omega)]; rfl) (st_subs (by omega) ?_)))
    exact .inl (st_ext0 (st_asS (st_ext1 (st_asS (st_ext2 (st_asB (.inl hk)))))))
  · rw [if_neg h0] at hk
    exact bif_f (by simp; omega) (.inl (st_ext0 (st_asS (st_ext1 (st_asS (st_ext2 (st_asB (.inl hk))))))))

def hasPre (l p : List UInt8) : Bool := decide (l.take p.length = p)
theorem hasPrefix_c {l p : List UInt8} (hk : Q (.b (hasPre l p)) h) : C G_i_stringslite_HasPrefix.id [.s l, .s p] h Q := by
  refine G_i_stringslite_HasPrefix.call ?_
  simp only [G_i_stringslite_HasPrefix.t, G_i_stringslite_HasPrefix.j0]
  unfold hasPre at hk
  by_cases hl : p.length ≤ l.length
  · refine bif_t (by simp; omega) (st_subs1 hl ?_)
    refine G_i_stringslite_HasPrefix.i0 ?_
    simp only [G_i_stringslite_HasPrefix.t0]
    exact .inl hk
  · refine bif_f (by simp; omega) ?_
    refine G_i_stringslite_HasPrefix.i0 ?_
    simp only [G_i_stringslite_HasPrefix.t0]
    rw [decide_eq_false (fun e => hl (by rw [← e]; simp; omega))] at hk
    exact .inl hk
theorem cutPrefix_c {l p : List UInt8} (hl : l.length ≤ 9223372036854775807) (hk : Q (.tu [.s (if hasPre l p = true then l.drop p.length else l), .b (hasPre l p)]) h) : C G_strings_CutPrefix.id [.s l, .s p] h Q := by
  refine G_strings_CutPrefix.call ?_
  simp only [G_strings_CutPrefix.t]
  refine G_i_stringslite_CutPrefix.call ?_
  simp only [G_i_stringslite_CutPrefix.t]
  refine hasPrefix_c (st_asB ?_)
  cases hp : hasPre l p with
  | false =>
    rw [hp, if_neg (by simp)] at hk
    exact bif_t rfl (.inl (st_ext0 (st_asS (st_ext1 (st_asB (.inl hk))))))
  | true =>
    rw [hp, if_pos rfl] at hk
    have : p.length ≤ l.length := by
      have := of_decide_eq_true hp
      rw [← this]; simp; omega
    exact bif_f rfl (st_subs this (.inl (st_ext0 (st_asS (st_ext1 (st_asB (.inl hk)))))))
end

/-! ### small letters -/

def lowC (c : UInt8) : UInt8 := if 65 ≤ c.toNat ∧ c.toNat ≤ 90 then c + 32 else c
def lowS (l : List UInt8) : List UInt8 := l.map lowC
theorem lowC_up {c : UInt8} (h : 65 ≤ c.toNat ∧ c.toNat ≤ 90) : ((lowC c).toNat : Int) = (c.toNat : Int) + 32 := by
  unfold lowC; rw [if_pos h, UInt8.toNat_add]
  show (((c.toNat + 32) % 256 : Nat) : Int) = _
  omega
theorem lowC_no {c : UInt8} (h : ¬ (65 ≤ c.toNat ∧ c.toNat ≤ 90)) : lowC c = c := by unfold lowC; rw [if_neg h]

section
variable {s : List UInt8} {h0 : AHeap} {Q : AV → AHeap → Prop}

theorem small_p2 {v : AV} {i : Nat} {h : AHeap} (hi : i < 9223372036854775807) (hk : G_certcheck_small.p0 (kRet h0 Q) v v s.length (i + 1 : Nat) h) : G_certcheck_small.p2 (kRet h0 Q) v v s.length i h := by
  refine G_certcheck_small.i2 ?_
  simp only [G_certcheck_small.t2, G_certcheck_small.j0]
  exact inc (by omega) hk
theorem small_p0 (hs : s.length ≤ 9223372036854775807) : ∀ (r : List UInt8) (i : Nat) (v : AV) (h : AHeap), s.drop i = r → Tx h0 h v (lowS (s.take i) ++ r) → Q (.s (lowS s)) h0 → G_certcheck_small.p0 (kRet h0 Q) v v s.length i h := by
  intro r
  induction r with
  | nil =>
    intro i v h hr T hq
    have hl := drop_end hr
    refine G_certcheck_small.i0 ?_
    simp only [G_certcheck_small.t0, G_certcheck_small.j1]
    rw [List.append_nil, List.take_of_length_le hl] at T
    exact bif_f (by simp; omega) (T.ret hq)
  | cons c r ih =>
    intro i v h hr T hq
    have hlt := drop_lt hr
    have hn := drop_next hr
    have hc := c.toNat_lt
    have hti : (lowS (s.take i)).length = i := by simp [lowS]; omega
    have hat : (lowS (s.take i) ++ c :: r)[i]? = some c := by rw [List.getElem?_append_right (by omega), hti]; simp
    have hci := at_of_drop hr
    have htk : lowS (s.take (i + 1)) = lowS (s.take i) ++ [lowC c] := by
      rw [List.take_add_one, hci]; simp [lowS]
    have key : ∀ b, b = decide (65 ≤ c.toNat ∧ c.toNat ≤ 90) → G_certcheck_small.p1 (kRet h0 Q) v i (c.toNat : Int) v s.length i b h := by
      intro b hb
      refine G_certcheck_small.i1 ?_
      simp only [G_certcheck_small.t1, G_certcheck_small.j2]
      refine bif_both (fun e => ?_) fun e => ?_
      · subst e
        have hu : 65 ≤ c.toNat ∧ c.toNat ≤ 90 := by simpa using hb.symm
        refine withI_is (wrap_u8 (by omega) (by omega)) ?_
        refine withI_is (n := ((lowC c).toNat : Int)) (by rw [lowC_up hu, wrap_u8 (by omega) (by omega)]; omega) ?_
        refine T.store (by rw [List.length_append]; simp [hti]) fun h' T' => small_p2 (by omega) (ih (i + 1) v h' hn ?_ hq)
        rw [htk, List.append_assoc]
        rw [List.set_append_right _ _ (by omega), hti, Nat.sub_self] at T'
        exact T'
      · subst e
        have hu : ¬ (65 ≤ c.toNat ∧ c.toNat ≤ 90) := by simpa using hb.symm
        refine small_p2 (by omega) (ih (i + 1) v h hn ?_ hq)
        rw [htk, lowC_no hu, List.append_assoc]; exact T
    refine G_certcheck_small.i0 ?_
    simp only [G_certcheck_small.t0, G_certcheck_small.j1]
    refine bif_t (by simp; omega) (T.load hat (st_asI ?_))
    refine bif_both (fun e => key _ ?_) fun e => key _ ?_
    · simp only [decide_eq_true_eq] at e
      rw [decide_eq_decide]; omega
    · simp only [decide_eq_false_iff_not] at e
      symm; simp; omega
theorem small_c {h : AHeap} (hs : s.length ≤ 9223372036854775807) (hk : Q (.s (lowS s)) h) : C G_certcheck_small.id [.s s] h Q := by
  refine G_certcheck_small.call ?_
  simp only [G_certcheck_small.t, G_certcheck_small.j0]
  exact Tx.ofStr fun v h' T => T.arr.rd.len (small_p0 hs s 0 v h' rfl (by simpa [lowS] using T) hk)
end

/-! ### MatchName -/

def matchS (p x : List UInt8) : Bool :=
  decide (lowS p = lowS x) || (hasPre (lowS p) [42, 46] && ((cutS (lowS x) 46).2.2 && (!decide ((cutS (lowS x) 46).1 = []) && (decide ((cutS (lowS x) 46).2.1 = (lowS p).drop 2) && decide (0 ≤ Lib.indexByte ((lowS p).drop 2) 46)))))

theorem lowS_len (l : List UInt8) : (lowS l).length = l.length := by simp [lowS]

section
variable {h : AHeap} {Q : AV → AHeap → Prop}
theorem match_c {p x : List UInt8} (hp : p.length ≤ 9223372036854775807) (hx : x.length ≤ 9223372036854775807) (hk : Q (.b (matchS p x)) h) : C G_certcheck_MatchName.id [.s p, .s x] h Q := by
  refine G_certcheck_MatchName.call ?_
  simp only [G_certcheck_MatchName.t, G_certcheck_MatchName.j0]
  refine small_c hp (st_asS (small_c hx (st_asS ?_)))
  have hlp := lowS_len p
  have hlx := lowS_len x
  unfold matchS at hk
  generalize lowS p = P at *
  generalize lowS x = X at *
  have fin : ∀ b, Q (.b b) h → G_certcheck_MatchName.p0 (kRet h Q) b h := by
    intro b hb
    refine G_certcheck_MatchName.i0 ?_
    simp only [G_certcheck_MatchName.t0]
    exact .inl hb
  cases hd : decide (P = X) with
  | true => rw [hd] at hk; exact bif_t rfl (.inl hk)
  | false =>
    rw [hd, Bool.false_or] at hk
    refine bif_f rfl (cutPrefix_c (by omega) (st_ext0 (st_asS (st_ext1 (st_asB (cut_c (by omega) (st_ext0 (st_asS (st_ext1 (st_asS (st_ext2 (st_asB ?_)))))))))))) 
    cases h1 : hasPre P [42, 46] with
    | false => rw [h1] at hk; exact bif_f rfl (fin _ hk)
    | true =>
      rw [h1, Bool.true_and] at hk
      refine bif_t rfl ?_
      cases h2 : (cutS X 46).2.2 with
      | false => rw [h2] at hk; exact bif_f rfl (fin _ hk)
      | true =>
        rw [h2, Bool.true_and] at hk
        refine bif_t rfl ?_
        cases h3 : decide ((cutS X 46).1 = []) with
        | true => rw [h3] at hk; exact bif_f rfl (fin _ hk)
        | false =>
          rw [h3] at hk
          refine bif_t rfl ?_
          rw [if_pos rfl]
          cases h4 : decide ((cutS X 46).2.1 = P.drop [42, 46].length) with
          | false =>
            have h4' : decide ((cutS X 46).2.1 = P.drop 2) = false := h4
            rw [h4'] at hk; exact bif_f rfl (fin _ hk)
          | true =>
            have h4' : decide ((cutS X 46).2.1 = P.drop 2) = true := h4
            rw [h4'] at hk
            exact bif_t rfl (contains_c (st_asB (fin _ hk)))
/-! ### Text -/

def textS (n : Int) : List UInt8 :=
  if n = 1 then [101, 120, 112, 105, 114, 101, 100] else if n = 2 then [101, 97, 114, 108, 121] else if n = 3 then [110, 97, 109, 101] else if n = 4 then [115, 101, 108, 102] else
  if n = 5 then [117, 110, 116, 114, 117, 115, 116, 101, 100] else if n = 6 then [111, 114, 100, 101, 114] else if n = 7 then [97, 117, 116, 104, 111, 114, 105, 116, 121] else []
theorem text_c {n : Int} (hk : Q (.s (textS n)) h) : C G_certcheck_Text.id [.i .i64 n] h Q := by
  refine G_certcheck_Text.call ?_
  simp only [G_certcheck_Text.t]
  unfold textS at hk
  repeat' (refine bif_both (fun e => ?_) fun e => ?_)
  all_goals simp only [decide_eq_true_eq, decide_eq_false_iff_not] at *
  all_goals simp only [*, if_true, if_false] at hk
  all_goals first | exact .inl hk | (simp at hk; exact .inl hk)
end

end Go.Proofs.YtomghnmoomodiaaGreatDoor

/- strings.Split at one byte (as in wip/r33). -/
set_option linter.unusedVariables false
set_option linter.unusedSimpArgs false
set_option linter.unusedSectionVars false
set_option maxRecDepth 20000
namespace Go.Proofs.YtomghnmoomodiaaGreatDoor
open Go.GAM Go.RowKit
def prep (a : List UInt8) : List (List UInt8) → List (List UInt8)
  | [] => [a]
  | b :: l => (a ++ b) :: l
def splitS (sp : UInt8) : List UInt8 → List (List UInt8)
  | [] => [[]]
  | c :: r => if c = sp then [] :: splitS sp r else prep [c] (splitS sp r)

section
variable {sp : UInt8}
theorem splitS_ne (sp : UInt8) (s : List UInt8) : splitS sp s ≠ [] := by
  cases s with
  | nil => simp [splitS]
  | cons c r =>
    unfold splitS
    split
    · simp
    · cases splitS sp r <;> simp [prep]
theorem prep_length (a : List UInt8) {l : List (List UInt8)} (h : l ≠ []) : (prep a l).length = l.length := by cases l with
  | nil => exact absurd rfl h
  | cons b l => rfl

theorem split_len : ∀ s : List UInt8, (splitS sp s).length = Lib.countByte s sp + 1
  | [] => rfl
  | c :: r => by
    have := split_len r
    unfold Lib.countByte at this ⊢
    unfold splitS
    split
    · rename_i h; subst h; simp [this]
    · rename_i h
      rw [prep_length _ (splitS_ne sp r), this, List.count_cons_of_ne h]
theorem split_no : ∀ s : List UInt8, Lib.indexByte s sp < 0 → splitS sp s = [s]
  | [], _ => rfl
  | c :: r, h => by
    unfold Lib.indexByte at h
    split at h
    · omega
    · rename_i h1
      split at h
      · rename_i h2
        rw [splitS, if_neg (by simpa using h1), split_no r (by simp at h2; omega)]; rfl
      · have := Lib.indexByte_ge r sp
        rename_i h2
        simp at h2; omega
theorem split_at : ∀ (s : List UInt8) (m : Nat), Lib.indexByte s sp = (m : Int) → m < s.length ∧ splitS sp s = s.take m :: splitS sp (s.drop (m + 1))
  | [], m, h => by simp [Lib.indexByte] at h
  | c :: r, m, h => by
    unfold Lib.indexByte at h
    split at h
    · rename_i h1
      have : m = 0 := by omega
      subst this
      simp at h1
      subst h1
      exact ⟨by simp, by simp [splitS]⟩
    · rename_i h1
      split at h
      · omega
      · rename_i h2
        have := Lib.indexByte_ge r sp
        simp at h1 h2
        obtain ⟨m', hm'⟩ : ∃ m' : Nat, Lib.indexByte r sp = (m' : Int) := ⟨(Lib.indexByte r sp).toNat, by omega⟩
        have : m = m' + 1 := by omega
        subst this
        obtain ⟨h3, h4⟩ := split_at r m' hm'
        exact ⟨by simpa using h3, by rw [splitS, if_neg h1, h4]; rfl⟩

section
variable {s : List UInt8} {h0 : AHeap} {Q : AV → AHeap → Prop}

/-! ### strings.Split -/

theorem gs_p2 {rest : List UInt8} {done : List (List UInt8)} {v : AV} {h : AHeap} (hd : done.length ≤ 1000000) (A : NewA 1 h0 h v (done.map AV.s ++ List.replicate 1 (.s [])) (done.length + 1))
    (hq : ∀ v h', NewS h0 h' v ((done ++ [rest]).map .s) → Q v h') : G_strings_genSplit.p2 (kRet h0 Q) rest v (done.length : Nat) h := by
  refine G_strings_genSplit.i2 ?_
  simp only [G_strings_genSplit.t2]
  refine A.arr.store (by omega) rfl rfl rfl fun h' U A' => inc (by omega) ?_
  have e : (done.map AV.s ++ List.replicate 1 (AV.s [])).set done.length (AV.s rest) = (done ++ [rest]).map AV.s := by
    rw [List.set_append_right _ _ (by simp)]; simp
  rw [e] at A'
  have S := A'.stk.2
  have S' : NewS h0 h' v ((done ++ [rest]).map .s) := ⟨A.upd.trans U fun i hi hs => absurd (A.new i hs) (by omega), S, A.new⟩
  refine S'.cut (n := done.length + 1) (by simp) fun v' S2 F => .inl (hq v' h' ?_)
  rw [List.take_of_length_le (by simp)] at S2
  exact S2

theorem gs_p1 : ∀ (k : Nat) (rest : List UInt8) (done : List (List UInt8)) (v : AV) (h : AHeap), (splitS sp rest).length = k + 1 → done.length + k ≤ 1000000 → rest.length ≤ 100000 → NewA 1 h0 h v (done.map AV.s ++ List.replicate (k + 1) (.s [])) (done.length + (k + 1)) →
    (∀ v h', NewS h0 h' v ((done ++ splitS sp rest).map .s) → Q v h') → G_strings_genSplit.p1 (kRet h0 Q) rest [sp] 0 (done.length + k : Nat) v (done.length : Nat) h := by
  intro k
  induction k with
  | zero =>
    intro rest done v h hk hd hr A hq
    refine G_strings_genSplit.i1 ?_
    simp only [G_strings_genSplit.t1, G_strings_genSplit.j1, G_strings_genSplit.j2]
    have e : splitS sp rest = [rest] := by
      rcases Int.lt_or_le (Lib.indexByte rest sp) 0 with h1 | h1
      · exact split_no rest h1
      · obtain ⟨m, hm⟩ : ∃ m : Nat, Lib.indexByte rest sp = (m : Int) := ⟨(Lib.indexByte rest sp).toNat, by omega⟩
        obtain ⟨_, h2⟩ := split_at rest m hm
        rw [h2] at hk
        have := splitS_ne sp (rest.drop (m + 1))
        have : 0 < (splitS sp (rest.drop (m + 1))).length := List.length_pos_iff.2 this
        simp only [List.length_cons] at hk; omega
    rw [e] at hq
    exact bif_f (by simp) (gs_p2 (by omega) A hq)
  | succ k ih =>
    intro rest done v h hk hd hr A hq
    refine G_strings_genSplit.i1 ?_
    simp only [G_strings_genSplit.t1, G_strings_genSplit.j1, G_strings_genSplit.j2]
    refine bif_t (by simp; omega) (ix_c (st_asI64 ?_))
    have h1 : 0 ≤ Lib.indexByte rest sp := by
      rcases Int.lt_or_le (Lib.indexByte rest sp) 0 with h1 | h1
      · rw [split_no rest h1] at hk; simp at hk
      · exact h1
    obtain ⟨m, hm⟩ : ∃ m : Nat, Lib.indexByte rest sp = (m : Int) := ⟨(Lib.indexByte rest sp).toNat, by omega⟩
    obtain ⟨h2, h3⟩ := split_at rest m hm
    rw [hm]
    refine bif_f (by simp) (withI_is (n := (m : Int)) (by rw [wrap_i64 (by omega) (by omega)]; omega) (st_subs1 (by omega) ?_))
    refine A.arr.store (by omega) rfl rfl rfl fun h' U A' => ?_
    refine withI_is (n := ((m + 1 : Nat) : Int)) (by rw [wrap_i64 (by simp only [List.length_singleton]; omega) (by simp only [List.length_singleton]; omega)]; rfl) (st_subs (by omega) (inc (by omega) ?_))
    have e : (done.map AV.s ++ List.replicate (k + 1 + 1) (AV.s [])).set done.length (AV.s (rest.take m)) = (done ++ [rest.take m]).map AV.s ++ List.replicate (k + 1) (AV.s []) := by
      rw [List.set_append_right _ _ (by simp)]; simp [List.replicate_succ]
    rw [e] at A'
    have hl : (done ++ [rest.take m]).length = done.length + 1 := by simp
    have := ih (rest.drop (m + 1)) (done ++ [rest.take m]) v h' (by rw [h3] at hk; simpa using hk) (by rw [hl]; omega) (by simp; omega)
      ⟨A.upd.trans U fun i hi hs => absurd (A.new i hs) (by omega), by rw [hl]; rw [show done.length + 1 + (k + 1) = done.length + (k + 1 + 1) by omega]; exact A', A.new⟩
      (by rw [h3] at hq; simpa using hq)
    rw [hl, show done.length + 1 + k = done.length + (k + 1) by omega] at this
    exact this

theorem split_c {h : AHeap} (hs : s.length ≤ 100000) (hq : ∀ v h', NewS h h' v ((splitS sp s).map .s) → Q v h') : C G_strings_Split.id [.s s, .s [sp]] h Q := by
  refine G_strings_Split.call ?_
  simp only [G_strings_Split.t]
  have hc : Lib.countByte s sp ≤ s.length := List.count_le_length
  have hsl := split_len (sp := sp) s
  refine G_strings_genSplit.call ?_
  simp only [G_strings_genSplit.t, G_strings_genSplit.j0]
  refine bif_f rfl (bif_f rfl (bif_t rfl (ct_c (st_asI64 (inc (by omega) ?_)))))
  refine G_strings_genSplit.i0 ?_
  simp only [G_strings_genSplit.t0, G_strings_genSplit.j1]
  refine inc (by omega) ?_
  have hm : mmI false ((Lib.countByte s sp + 1 : Nat) : Int) ((s.length + 1 : Nat) : Int) = ((Lib.countByte s sp + 1 : Nat) : Int) := by
    unfold mmI
    simp only [cond_false]
    rw [if_neg (by omega)]
  rw [hm]
  refine st_make (by omega) (by omega) fun v h' A => ?_
  refine withI_is (n := ((Lib.countByte s sp : Nat) : Int)) (by rw [wrap_i64 (by omega) (by omega)]; omega) ?_
  have := gs_p1 (h0 := h) (Q := fun v1 h2 => kRet h Q v1 h2) (Lib.countByte s sp) s [] v h' hsl (by simp; omega) hs (by simpa using A) fun v h' S => .inl (hq v h' (by simpa using S))
  simpa using this


end
end
end Go.Proofs.YtomghnmoomodiaaGreatDoor

/- DER values in memory; Same. -/
set_option linter.unusedVariables false
set_option linter.unusedSimpArgs false
set_option linter.unusedSectionVars false
set_option maxRecDepth 20000
namespace Go.GAM

theorem SArg.upd {sz : Nat} {M : Nat → Prop} {h h' : AHeap} {v : AV} {cs : List AV} {len : Nat} (R : SArg sz h v cs len) (U : Upd M h h') (hM : ∀ id, SlAt v id → id < h.length → ¬ M id) : SArg sz h' v cs len := by
  rcases R with R | R
  · exact .inl (R.upd U fun id hs => hM id hs (R.lt hs))
  · exact .inr R
theorem SArg.at {sz : Nat} {h : AHeap} {v : AV} {cs : List AV} {len : Nat} (R : SArg sz h v cs len) (hl : len ≠ 0) : ∃ id ver off cap b, v = .sl (some ⟨id, ver, off⟩) len cap ∧ RdAt sz h id ver off b cs len := by
  rcases R.rd hl with ⟨_, h0, _⟩ | ⟨id, ver, off, cap, b, h1, h2, h3, h4, h5, h6, h7⟩
  · exact absurd h0 hl
  · exact ⟨id, ver, off, cap, b, h1, h2, h3, h4, h5, h6, h7⟩
theorem st_elemN {sz : Nat} {h : AHeap} {id ver off : Nat} {b : ABlk} {cs : List AV} {len i : Nat} {r : List AV} {K : AV → Prop} (R : RdAt sz h id ver off b cs len) (hi : i < len) (hr : (cs.drop (i * sz)).take sz = r) (hk : K (.ag r)) : pLoadN sz (.p (some ⟨id, ver, off + i * sz⟩)) h K := by
  have h1 : (i + 1) * sz ≤ len * sz := Nat.mul_le_mul_right _ hi
  rw [Nat.add_mul] at h1
  have h2 := R.end_
  refine ⟨b, R.1, ⟨R.3, R.4, by simp only; omega⟩, ?_⟩
  have e : (b.cells.drop (off + i * sz)).take sz = r := by
    rw [← hr, ← R.cel, List.drop_take, List.drop_drop, List.take_take, Nat.min_eq_left (by omega)]
  simp only [e]
  exact hk
theorem rows_get {sz : Nat} : ∀ (rows : List (List AV)) (i : Nat) (r : List AV), (∀ r ∈ rows, r.length = sz) → rows[i]? = some r → (rows.flatten.drop (i * sz)).take sz = r
  | [], i, r, _, h => by simp at h
  | a :: rows, 0, r, h1, h => by
    simp at h; subst h
    have := h1 a (by simp)
    rw [List.flatten_cons, Nat.zero_mul, List.drop_zero, ← this, List.take_left']
    rfl
  | a :: rows, i + 1, r, h1, h => by
    have h2 := h1 a (by simp)
    have := rows_get rows i r (fun r hr => h1 r (by simp [hr])) (by simpa using h)
    rw [List.flatten_cons, Nat.add_mul, Nat.one_mul, List.drop_append, List.drop_eq_nil_of_le (by omega), List.nil_append, show i * sz + sz - a.length = i * sz by omega]
    exact this

end Go.GAM
namespace Go.Proofs.YtomghnmoomodiaaGreatDoor
open Go.GAM Go.RowKit

inductive Der where
  | mk (c t : Int) (m : Bool) (s : List UInt8) (ks : List Der)

mutual
def Der.sz : Der → Nat
  | .mk _ _ _ _ ks => 1 + szs ks
def szs : List Der → Nat
  | [] => 0
  | k :: r => k.sz + szs r
end
theorem szs_pos (k : Der) : 0 < k.sz := by cases k; unfold Der.sz; omega

mutual
/-- Five cells are a DER value; its slices' blocks are among F. -/
inductive DV (h : AHeap) (F : Nat → Prop) : Der → List AV → Prop
  | mk {c t : Int} {m : Bool} {s : List UInt8} {ks : List Der} {v : AV} {rows : List (List AV)} (hks : DVs h F ks rows) (hv : SArg 5 h v rows.flatten rows.length) (hF : ∀ i, SlAt v i → F i ∧ i < h.length) (hc : v.cellOK = true) : DV h F (.mk c t m s ks) [.i .i64 c, .i .i64 t, .b m, .s s, v]
inductive DVs (h : AHeap) (F : Nat → Prop) : List Der → List (List AV) → Prop
  | nil : DVs h F [] []
  | cons {k : Der} {ks : List Der} {r : List AV} {rows : List (List AV)} (hk : DV h F k r) (hks : DVs h F ks rows) : DVs h F (k :: ks) (r :: rows)
end

theorem DV.len {h : AHeap} {F : Nat → Prop} {d : Der} {cs : List AV} (D : DV h F d cs) : cs.length = 5 := by cases D; rfl
theorem DVs.len5 {h : AHeap} {F : Nat → Prop} : ∀ {ks : List Der} {rows : List (List AV)}, DVs h F ks rows → ∀ r ∈ rows, r.length = 5
  | _, _, .nil, r, hr => by cases hr
  | _, _, .cons hk hks, r, hr => by
    rcases List.mem_cons.1 hr with rfl | h
    · exact hk.len
    · exact hks.len5 r h
theorem DVs.length {h : AHeap} {F : Nat → Prop} : ∀ {ks : List Der} {rows : List (List AV)}, DVs h F ks rows → ks.length = rows.length
  | _, _, .nil => rfl
  | _, _, .cons _ hks => by simp [hks.length]
theorem DVs.get {h : AHeap} {F : Nat → Prop} : ∀ {ks : List Der} {rows : List (List AV)} {i : Nat} {k : Der}, DVs h F ks rows → ks[i]? = some k → ∃ r, rows[i]? = some r ∧ DV h F k r
  | _, _, i, k, .nil, hi => by simp at hi
  | _, _, 0, k, .cons hk _, hi => by simp at hi; subst hi; exact ⟨_, rfl, hk⟩
  | _, _, i + 1, k, .cons _ hks, hi => by
    obtain ⟨r, h1, h2⟩ := hks.get (i := i) (by simpa using hi)
    exact ⟨r, by simpa using h1, h2⟩
theorem DVs.app {h : AHeap} {F : Nat → Prop} : ∀ {ks : List Der} {rows : List (List AV)} {k : Der} {r : List AV}, DVs h F ks rows → DV h F k r → DVs h F (ks ++ [k]) (rows ++ [r])
  | _, _, _, _, .nil, hk => .cons hk .nil
  | _, _, _, _, .cons h1 hks, hk => .cons h1 (hks.app hk)

/-- It stays where its blocks stay. -/
theorem DV.upd_n {M F F' : Nat → Prop} {h h' : AHeap} (U : Upd M h h') (hM : ∀ i, F i → i < h.length → ¬ M i ∧ F' i) : ∀ n, (∀ d cs, d.sz ≤ n → DV h F d cs → DV h' F' d cs) ∧ ∀ ks rows, szs ks ≤ n → DVs h F ks rows → DVs h' F' ks rows := by
  intro n
  induction n with
  | zero =>
    refine ⟨fun d cs hd => absurd hd (by have := szs_pos d; omega), fun ks rows hk D => ?_⟩
    cases D with
    | nil => exact .nil
    | cons h1 h2 => rename_i k ks r rows; have := szs_pos k; unfold szs at hk; omega
  | succ n ih =>
    have hV : ∀ d cs, d.sz ≤ n + 1 → DV h F d cs → DV h' F' d cs := by
      intro d cs hd D
      cases D with
      | mk hks hv hF hc =>
        unfold Der.sz at hd
        exact .mk (ih.2 _ _ (by omega) hks) (hv.upd U fun i hs hl => (hM i (hF i hs).1 hl).1) (fun i hs => ⟨(hM i (hF i hs).1 (hF i hs).2).2, Nat.lt_of_lt_of_le (hF i hs).2 U.1⟩) hc
    refine ⟨hV, fun ks rows => ?_⟩
    induction ks generalizing rows with
    | nil => intro _ D; cases D; exact .nil
    | cons k ks ihk =>
      intro hk D
      unfold szs at hk
      cases D with
      | cons h1 h2 => exact .cons (hV _ _ (by omega) h1) (ihk _ (by omega) h2)
theorem DV.upd {M F F' : Nat → Prop} {h h' : AHeap} {d : Der} {cs : List AV} (D : DV h F d cs) (U : Upd M h h') (hM : ∀ i, F i → i < h.length → ¬ M i ∧ F' i) : DV h' F' d cs := (DV.upd_n U hM d.sz).1 d cs (Nat.le_refl _) D
theorem DVs.upd {M F F' : Nat → Prop} {h h' : AHeap} {ks : List Der} {rows : List (List AV)} (D : DVs h F ks rows) (U : Upd M h h') (hM : ∀ i, F i → i < h.length → ¬ M i ∧ F' i) : DVs h' F' ks rows := (DV.upd_n U hM (szs ks)).2 ks rows (Nat.le_refl _) D
theorem DV.ext {F : Nat → Prop} {h h' : AHeap} {d : Der} {cs : List AV} (D : DV h F d cs) (U : Upd (fun _ => False) h h') : DV h' F d cs := D.upd U fun i hi _ => ⟨fun h => h, hi⟩

def z5 : List AV := [.i .i64 0, .i .i64 0, .b false, .s [], .sl none 0 none]
def Der.zero : Der := .mk 0 0 false [] []
theorem DV.zero (h : AHeap) (F : Nat → Prop) : DV h F .zero z5 := .mk .nil (.inl (.inl ⟨rfl, rfl, rfl⟩)) (fun i hi => hi.elim) rfl
/-- A value without kids. -/
theorem DV.leaf (h : AHeap) (F : Nat → Prop) (c t : Int) (m : Bool) (s : List UInt8) : DV h F (.mk c t m s []) [.i .i64 c, .i .i64 t, .b m, .s s, .sl none 0 none] := .mk .nil (.inl (.inl ⟨rfl, rfl, rfl⟩)) (fun i hi => hi.elim) rfl

section
variable {h0 : AHeap} {Q : AV → AHeap → Prop}

end
end Go.Proofs.YtomghnmoomodiaaGreatDoor

/- Arguments that are slices which are read by index. -/
set_option linter.unusedVariables false
set_option linter.unusedSimpArgs false
namespace Go.GAM
open Go.RowKit Go.ChangeShapes

section
variable {H : Type} {enc : TypeId × Value → H} {P : Program} {w : World} {szOf : Nat → Nat}
theorem canon_sliceI {x : Addr} {len cap sz : Nat} {vs : List Value} (hl : len ≤ cap) (hc0 : cap ≠ 0) (hz : 0 < sz) (hs : szOf x.block ≤ sz) (hlen : vs.length = cap * sz) (hv : ∀ i, i < vs.length → w.cell? (x.add i) = some (vs.getD i undef)) :
    ∃ ver b, absV w szOf (.slice (some x) len cap) = .sl (some ⟨x.block, ver, x.off⟩) len (some cap) ∧ (heapC w szOf)[x.block]? = some b ∧ b.floor ≤ ver ∧ ver ≤ b.cells.length ∧ x.off + len * sz ≤ ver ∧ (b.cells.drop x.off).take (len * sz) = (vs.take (len * sz)).map (absV w szOf) := by
  obtain ⟨B, off, spot⟩ := x
  simp only at hs ⊢
  have hpos : 0 < vs.length := by rw [hlen]; exact Nat.mul_pos (by omega) hz
  have cellAdd : ∀ i v, spot = none → w.cell? ((⟨B, off, spot⟩ : Addr).add i) = some v → ∃ c el fr, w.heap[B]? = some (.cells c el fr) ∧ c[off + i]? = some v := by
    intro i v hs h
    subst hs
    have e : (⟨B, off, none⟩ : Addr).add i = ⟨B, off + i, none⟩ := by
      unfold Addr.add
      by_cases hi : i = 0
      · subst hi; simp
      · simp [hi]
    rw [e] at h
    unfold World.cell? at h
    split at h
    · rename_i c el fr hh
      exact ⟨c, el, fr, hh, by simpa using h⟩
    · cases h
  have hsp : spot = none := by
    have h0 := hv 0 hpos
    unfold World.cell? at h0
    split at h0
    · cases spot with
      | none => rfl
      | some s => simp [Addr.add] at h0
    · cases h0
  subst hsp
  obtain ⟨c, el, fr, hh, _⟩ := cellAdd 0 _ rfl (hv 0 hpos)
  · have hcell : ∀ i, i < vs.length → c[off + i]? = some (vs.getD i undef) := fun i hi => by
      obtain ⟨c', el', fr', h1, h2⟩ := cellAdd i _ rfl (hv i hi)
      rw [hh] at h1; cases h1; exact h2
    have hsize : off + cap * sz ≤ c.size := by
      have := hcell (vs.length - 1) (by omega)
      have := (Array.getElem?_eq_some_iff.1 this).1
      omega
    have hshape : w.shape? B = some (el, c.size) := by unfold World.shape?; rw [hh]
    have hlc : len * sz ≤ cap * sz := Nat.mul_le_mul_right _ hl
    have hsz2 : cap * szOf B ≤ cap * sz := Nat.mul_le_mul_left _ hs
    refine ⟨c.size, blkC w szOf B, ?_, heapC_at (shape_lt hshape), ?_, ?_, by omega, ?_⟩
    · simp only [absV, absV1]
      rw [if_neg hc0, hshape]
      simp only
      rw [if_pos ⟨hl, by omega⟩]
    · unfold blkC; rw [hh]; exact Nat.le_refl _
    · unfold blkC; rw [hh]; simp
    · unfold blkC; rw [hh]
      simp only
      apply List.ext_getElem?
      intro i
      by_cases hi : i < len * sz
      · rw [List.getElem?_take_of_lt hi, List.getElem?_drop, List.getElem?_map, Array.getElem?_toList, hcell i (by omega), List.getElem?_map, List.getElem?_take_of_lt hi]
        rw [List.getD_eq_getElem?_getD, List.getElem?_eq_getElem (by omega : i < vs.length)]
        rfl
      · rw [List.getElem?_eq_none (by simp; omega), List.getElem?_eq_none (by simp; omega)]

/-- A slice that is read, spare places and all: its rows, read with less fuel. -/
theorem row_openV {held : Bool} {t e : TypeId} {fuel : Nat} {cs : List Value} {x : DataW H × List MemPlace} (ht : P.underlying t = some (.slice e)) (h : DataW.trod enc P w 0 (fun _ => true) held fuel t cs = some x) :
    cs = [.slice none 0 0] ∧ x.1 = .nil ∨ ∃ (a : Addr) (len cap n : Nat) (rows : List (List Value)) (ds rs : List (DataW H)), fuel = n + 1 ∧ cs = [.slice (some a) len cap] ∧ x.1 = .slice ds rs ∧ ds.length = len ∧ len ≤ cap ∧ cap ≤ maxLen ∧ rows.length = cap ∧
      (∀ r ∈ rows, r.length = P.cellsOf e ∧ ∃ y, DataW.trod enc P w 0 (fun _ => true) held n e r = some y) ∧ (∀ (i : Nat) (r : List Value) (d : DataW H), rows[i]? = some r → ds[i]? = some d → ∃ p, DataW.trod enc P w 0 (fun _ => true) held n e r = some (d, p)) ∧ ∀ i, i < rows.flatten.length → w.cell? (a.add i) = some (rows.flatten.getD i undef) := by
  rcases DataW.trod_slice ht h with ⟨h0, h1⟩ | ⟨a, len, cap, elems, rest, n, hf, rfl, hx, hb, hl, hm, hlen, hel, hsp, hns⟩
  · exact .inl ⟨h0, by rw [h1]⟩
  right
  have each : ∀ i, i < cap → ∃ r, w.cells? 0 (a.add (i * P.cellsOf e)) (P.cellsOf e) = some r ∧ ∃ y, DataW.trod enc P w 0 (fun _ => true) held n e r = some y ∧ (i < len → elems[i]? = some y) := by
    intro i hi
    have hb' : ∃ y, (w.cells? 0 (a.add (i * P.cellsOf e)) (P.cellsOf e)).bind (DataW.trod enc P w 0 (fun _ => true) held n e) = some y ∧ (i < len → elems[i]? = some y) := by
      by_cases h1 : i < len
      · rw [hel i h1]
        exact ⟨_, List.getElem?_eq_getElem (by omega), fun _ => List.getElem?_eq_getElem (by omega)⟩
      · obtain ⟨h2, h3⟩ := hsp rfl
        have := h3 (i - len) (by omega)
        rw [show len + (i - len) = i by omega] at this
        rw [this]
        exact ⟨_, List.getElem?_eq_getElem (by omega), fun h => absurd h h1⟩
    obtain ⟨y, hy, hy2⟩ := hb'
    obtain ⟨r, h1, h2⟩ := Option.bind_eq_some_iff.1 hy
    exact ⟨r, h1, y, h2, hy2⟩
  refine ⟨a, len, cap, n, (List.range cap).map fun i => (w.cells? 0 (a.add (i * P.cellsOf e)) (P.cellsOf e)).getD [], elems.map (·.1), rest.map (·.1), hf, rfl, by rw [hx], by simp [hlen], hl, hm, by simp, ?_, ?_, ?_⟩
  · intro r hr
    obtain ⟨i, hi, rfl⟩ := List.mem_map.1 hr
    obtain ⟨r, h1, y, h2, _⟩ := each i (by simpa using hi)
    rw [h1]
    exact ⟨(World.cells?_some h1).2.1, y, h2⟩
  · intro i r d hr hd
    simp only [List.getElem?_map, Option.map_eq_some_iff] at hr hd
    obtain ⟨i', hi', rfl⟩ := hr
    obtain ⟨hlt, rfl⟩ := List.getElem?_eq_some_iff.1 hi'
    rw [List.getElem_range]
    obtain ⟨y, hy, rfl⟩ := hd
    obtain ⟨r, h1, y', h2, h3⟩ := each i (by simpa using hlt)
    have hil : i < elems.length := (List.getElem?_eq_some_iff.1 hy).1
    have := h3 (by omega)
    rw [hy] at this
    cases this
    rw [h1]
    exact ⟨y.2, h2⟩
  · have := rows_cells (w := w) (a := a) (sz := P.cellsOf e) ((List.range cap).map fun i => (w.cells? 0 (a.add (i * P.cellsOf e)) (P.cellsOf e)).getD []) 0 (fun i r hi => by
      simp only [List.getElem?_map, Option.map_eq_some_iff] at hi
      obtain ⟨i', hi', rfl⟩ := hi
      obtain ⟨hlt, rfl⟩ := List.getElem?_eq_some_iff.1 hi'
      rw [List.getElem_range]
      obtain ⟨r, h1, _⟩ := each i (by simpa using hlt)
      rw [h1]
      have hs := World.cells?_some h1
      refine ⟨hs.2.1, fun j hj => ?_⟩
      have := hs.2.2 j hj
      rw [Addr.add_add] at this
      rw [Nat.zero_add, this]
      simp [hs.2.1, hj])
    simpa using this
end
end Go.GAM

/- Slices that are read by index, elements' places; arguments that came in, with the bound of a machine's reach. -/
set_option linter.unusedVariables false
set_option linter.unusedSimpArgs false
namespace Go.GAM
open Go.RowKit Go.ChangeShapes

theorem Upd.own {h h1 h2 : AHeap} {id : Nat} (a : Upd (fun _ => False) h h1) (b : Upd (· = id) h1 h2) (hid : h.length ≤ id) : Upd (fun _ => False) h h2 := a.trans b fun i hi e => by omega
theorem Upd.then {h h1 h2 : AHeap} (a : Upd (fun _ => False) h h1) (b : Upd (fun _ => False) h1 h2) : Upd (fun _ => False) h h2 := a.trans b fun _ _ h => h

theorem st_pb {zeros cs : List AV} {parts : List (Nat × Nat × AV)} {K : AV → Prop} (hf : fillA zeros parts = some cs) (hk : K (.ag cs)) : pBuild zeros parts K := by
  unfold pBuild; rw [hf]; exact hk

/-- A slice that is read by index. -/
def RdI (sz : Nat) (h : AHeap) (v : AV) (cs : List AV) (len : Nat) : Prop :=
  (v = .sl none 0 none ∧ len = 0 ∧ cs = []) ∨ (len = 0 ∧ cs = [] ∧ ∃ a c, v = .sl (some a) 0 c) ∨ ∃ id ver off cap b, v = .sl (some ⟨id, ver, off⟩) len cap ∧ h[id]? = some b ∧ b.floor ≤ ver ∧ ver ≤ b.cells.length ∧ off + len * sz ≤ ver ∧ (b.cells.drop off).take (len * sz) = cs
theorem Rd.i {sz : Nat} {h : AHeap} {v : AV} {cs : List AV} {len : Nat} (R : Rd sz h v cs len) : RdI sz h v cs len := by
  rcases R with h1 | ⟨id, ver, off, cap, b, h1, h2, h3, h4⟩
  · exact .inl h1
  · exact .inr (.inr ⟨id, ver, off, cap, b, h1, h2, h4⟩)
theorem SArg.i {sz : Nat} {h : AHeap} {v : AV} {cs : List AV} {len : Nat} (R : SArg sz h v cs len) : RdI sz h v cs len := by
  rcases R with R | h1
  · exact R.i
  · exact .inr (.inl h1)
theorem RdI.ext {sz : Nat} {h h' : AHeap} {v : AV} {cs : List AV} {len : Nat} (R : RdI sz h v cs len) (U : Upd (fun _ => False) h h') : RdI sz h' v cs len := by
  rcases R with h1 | h1 | ⟨id, ver, off, cap, b, rfl, h2, h3⟩
  · exact .inl h1
  · exact .inr (.inl h1)
  · exact .inr (.inr ⟨id, ver, off, cap, b, rfl, (U.2 id (lt_of_some h2) fun h => h).trans h2, h3⟩)
theorem RdI.len {sz : Nat} {h : AHeap} {v : AV} {cs : List AV} {len : Nat} (R : RdI sz h v cs len) {K : Int → Prop} (hk : K len) : pLenSl v K := by
  rcases R with ⟨rfl, rfl, rfl⟩ | ⟨rfl, _, a, c, rfl⟩ | ⟨id, ver, off, cap, b, rfl, h2⟩ <;> exact hk
theorem RdI.isSl {sz : Nat} {h : AHeap} {v : AV} {cs : List AV} {len : Nat} (R : RdI sz h v cs len) : ∃ a n c, v = .sl a n c := by
  rcases R with ⟨rfl, rfl, rfl⟩ | ⟨rfl, _, a, c, rfl⟩ | ⟨id, ver, off, cap, b, rfl, h2⟩ <;> exact ⟨_, _, _, rfl⟩
/-- The place of an element: it holds the element's cells. -/
def PtAt (sz : Nat) (h : AHeap) (p : AV) (cs : List AV) : Prop := ∃ id ver off, p = .p (some ⟨id, ver, off⟩) ∧ ∃ b : ABlk, h[id]? = some b ∧ b.floor ≤ ver ∧ ver ≤ b.cells.length ∧ off + sz ≤ ver ∧ (b.cells.drop off).take sz = cs
theorem RdI.at {sz : Nat} {h : AHeap} {v : AV} {cs : List AV} {len : Nat} (R : RdI sz h v cs len) {i : Nat} (h1 : i < len) : ∃ p, PtAt sz h p ((cs.drop (i * sz)).take sz) ∧ ∀ (k : IntKind) (h' : AHeap) (K : AV → Prop), Upd (fun _ => False) h h' → K p → pIdxAddrSl sz v (.i k (i : Int)) h' K := by
  rcases R with ⟨rfl, rfl, rfl⟩ | ⟨rfl, _⟩ | ⟨id, ver, off, cap, b, rfl, h2, h4, h5, h6, rfl⟩
  · omega
  · omega
  · have e1 : (i + 1) * sz ≤ len * sz := Nat.mul_le_mul_right _ (by omega)
    rw [Nat.add_mul] at e1
    refine ⟨.p (some ⟨id, ver, off + i * sz⟩), ⟨id, ver, off + i * sz, rfl, b, h2, h4, h5, by omega, ?_⟩, fun k h' K U hk => ?_⟩
    · rw [List.drop_take, List.drop_drop, List.take_take, Nat.min_eq_left (by omega)]
    · refine ⟨by omega, by omega, ⟨b, (U.2 id (lt_of_some h2) fun h => h).trans h2, h4, by omega⟩, ?_⟩
      simpa using hk
theorem PtAt.ext {sz : Nat} {h h' : AHeap} {p : AV} {cs : List AV} (A : PtAt sz h p cs) (U : Upd (fun _ => False) h h') : PtAt sz h' p cs := by
  obtain ⟨id, ver, off, rfl, b, h1, h2⟩ := A
  exact ⟨id, ver, off, rfl, b, (U.2 id (lt_of_some h1) fun h => h).trans h1, h2⟩
theorem PtAt.loadN {sz : Nat} {h : AHeap} {p : AV} {cs : List AV} (A : PtAt sz h p cs) {K : AV → Prop} (hk : K (.ag cs)) : pLoadN sz p h K := by
  obtain ⟨id, ver, off, rfl, b, h1, h2, h3, h4, rfl⟩ := A
  exact ⟨b, h1, ⟨h2, h3, h4⟩, hk⟩
theorem PtAt.fld {sz : Nat} {h : AHeap} {p : AV} {cs : List AV} (A : PtAt sz h p cs) {o : Nat} {c : AV} (hc : cs[o]? = some c) {K : AV → Prop} (hk : K c) : pFieldAddr o p fun q => pLoad1 q h K := by
  obtain ⟨id, ver, off, rfl, b, h1, h2, h3, h4, rfl⟩ := A
  have ho := lt_of_some hc
  simp only [List.length_take, List.length_drop] at ho
  refine ⟨b, h1, ⟨h2, h3, by simp only; omega⟩, ?_⟩
  rw [List.getElem?_take_of_lt (by omega), List.getElem?_drop] at hc
  show K (b.cells.getD (off + o) .u)
  rw [getD_some hc]; exact hk
theorem PtAt.load1 {h : AHeap} {p : AV} {c : AV} (A : PtAt 1 h p [c]) {K : AV → Prop} (hk : K c) : pLoad1 p h K := by
  obtain ⟨id, ver, off, rfl, b, h1, h2, h3, h4, h5⟩ := A
  refine ⟨b, h1, ⟨h2, h3, h4⟩, ?_⟩
  have : b.cells[off]? = some c := by
    have : ((b.cells.drop off).take 1)[0]? = some c := by rw [h5]; rfl
    rw [List.getElem?_take_of_lt (by omega), List.getElem?_drop] at this
    simpa using this
  show K (b.cells.getD off .u)
  rw [getD_some this]; exact hk
/-- A string out of a list. -/
theorem RdI.str {h h' : AHeap} {v : AV} {l : List (List UInt8)} (R : RdI 1 h v (l.map .s) l.length) (U : Upd (fun _ => False) h h') {k : IntKind} {i : Nat} {x : List UInt8} (hx : l[i]? = some x) {K : List UInt8 → Prop} (hk : K x) : pIdxAddrSl 1 v (.i k (i : Int)) h' fun a => pLoad1 a h' fun y => asS y K := by
  obtain ⟨p, A, hp⟩ := R.at (lt_of_some hx)
  have e : ((l.map AV.s).drop (i * 1)).take 1 = [.s x] := by
    rw [Nat.mul_one, ← List.map_drop, drop_of_at hx]; rfl
  rw [e] at A
  exact hp k h' _ U ((A.ext U).load1 (st_asS hk))


/-- Its elements, appended. -/
theorem RdI.news {sz : Nat} {h : AHeap} {v : AV} {cs : List AV} {len : Nat} (R : RdI sz h v cs len) {K : List AV → Nat → Prop} (hk : K cs len) : newsOf sz v h K := by
  rcases R with ⟨rfl, rfl, rfl⟩ | ⟨rfl, rfl, a, c, rfl⟩ | ⟨id, ver, off, cap, b, rfl, h2, h3, h4, h5, h6⟩
  · exact hk
  · exact .inl ⟨rfl, hk⟩
  · refine .inr ⟨b, h2, ⟨h3, h4, h5⟩, ?_⟩
    rw [h6]; exact hk
/-- Its front part. -/
theorem RdI.front {sz : Nat} {h : AHeap} {v : AV} {cs : List AV} {len n : Nat} (R : RdI sz h v cs len) (hz : 0 < sz) (h1 : 0 < n) (hn : n ≤ len) {K : AV → Prop} (hk : ∀ v', RdI sz h v' (cs.take (n * sz)) n → K v') : pSliceSl sz v none (some (.i .i64 (n : Int))) none h K := by
  rcases R with ⟨rfl, rfl, rfl⟩ | ⟨rfl, rfl, a, c, rfl⟩ | ⟨id, ver, off, cap, b, rfl, h2, h3, h4, h5, h6⟩
  · omega
  · omega
  · have e2 : n * sz ≤ len * sz := Nat.mul_le_mul_right _ hn
    refine ⟨hz, fun h => by simp at h, by omega, ?_⟩
    refine ⟨by omega, b, h2, by omega, h3, .inr ⟨rfl, rfl, .inl (by simpa using hn)⟩, .inl (by simpa using hn), ?_⟩
    simp only [Int.toNat_natCast, Nat.sub_zero, Nat.zero_mul, Nat.add_zero]
    refine hk _ (.inr (.inr ⟨id, ver, off, _, b, rfl, h2, h3, h4, by omega, ?_⟩))
    rw [← h6, List.take_take, Nat.min_eq_left e2]

/-! ### arguments -/

section
variable {H : Type} {enc : TypeId × Value → H} {P : Program} {w : World} {t : TypeId} {cs : List Value}

/-- A value that came in; no text and no slice of it is beyond a machine's reach. -/
def InW (enc : TypeId × Value → H) (P : Program) (w : World) (t : TypeId) (cs : List Value) : Prop :=
  ∃ fuel d p, DataW.trod enc P w 0 (fun _ => true) true fuel t cs = some (d, p) ∧ ∀ m ∈ d.weights P t, m ≤ reachBytes

theorem weightsEach_mem {m : Nat} : ∀ (ts : List TypeId) (ds : List (DataW H)) (i : Nat) (t : TypeId) (d : DataW H), ts[i]? = some t → ds[i]? = some d → m ∈ d.weights P t → m ∈ DataW.weightsEach P ts ds
  | [], _, _, _, _, h, _, _ => by simp at h
  | _ :: _, [], _, _, _, _, h, _ => by simp at h
  | t' :: ts, d' :: ds, 0, t, d, h1, h2, h => by
    simp at h1 h2; subst h1; subst h2
    unfold DataW.weightsEach
    exact List.mem_append_left _ h
  | t' :: ts, d' :: ds, i + 1, t, d, h1, h2, h => by
    unfold DataW.weightsEach
    exact List.mem_append_right _ (weightsEach_mem ts ds i t d (by simpa using h1) (by simpa using h2) h)
theorem weightsAll_mem {m : Nat} {e : TypeId} : ∀ (ds : List (DataW H)) (d : DataW H), d ∈ ds → m ∈ d.weights P e → m ∈ DataW.weightsAll P e ds
  | [], _, h, _ => by cases h
  | d' :: ds, d, h1, h => by
    unfold DataW.weightsAll
    rcases List.mem_cons.1 h1 with rfl | h1
    · exact List.mem_append_left _ h
    · exact List.mem_append_right _ (weightsAll_mem ds d h1 h)
theorem reach_is : reachBytes = 140737488351232 := by unfold reachBytes; rfl

theorem InW.str (ht : P.underlying t = some .string) (h : InW enc P w t cs) : ∃ s : ByteArray, cs = [.string s] ∧ s.data.toList.length ≤ 140737488351232 := by
  obtain ⟨fuel, d, p, h1, h2⟩ := h
  obtain ⟨s, e1, e2, _⟩ := DataW.trod_string ht h1
  refine ⟨s, e1, ?_⟩
  cases e2
  have := h2 s.data.toList.length (by unfold DataW.weights; exact List.mem_singleton.2 rfl)
  rw [reach_is] at this; exact this
theorem InW.int {k : IntKind} (ht : P.underlying t = some (.int k)) (h : InW enc P w t cs) : ∃ n, cs = [.int k n] ∧ (Lit.int k n).wf = true := by
  obtain ⟨fuel, d, p, h1, h2⟩ := h
  obtain ⟨n, e1, _, e3⟩ := DataW.trod_int ht h1
  exact ⟨n, e1, e3⟩
theorem InW.bool (ht : P.underlying t = some .bool) (h : InW enc P w t cs) : ∃ b, cs = [.bool b] := by
  obtain ⟨fuel, d, p, h1, h2⟩ := h
  obtain ⟨b, e1, _⟩ := DataW.trod_bool ht h1
  exact ⟨b, e1⟩
theorem InW.struct {fs : Array Field} (ht : P.underlying t = some (.struct fs)) (h : InW enc P w t cs) : cs.length = P.cellsOf t ∧ ∀ (i : Nat) (f : Field), fs[i]? = some f → InW enc P w f.type ((cs.drop f.offset).take (P.cellsOf f.type)) := by
  obtain ⟨fuel, d, p, h1, h2⟩ := h
  obtain ⟨xs, n, _, hx, hlen, hl, hf⟩ := DataW.trod_struct ht h1
  refine ⟨hlen, fun i f hi => ?_⟩
  have hi' : i < fs.size := (Array.getElem?_eq_some_iff.1 hi).1
  have hxi : xs[i]? = some (xs[i]'(by omega)) := List.getElem?_eq_getElem _
  generalize xs[i]'(by omega) = y at hxi
  obtain ⟨d', p'⟩ := y
  refine ⟨n, d', p', (hf i f hi).trans hxi, fun m hm => h2 m ?_⟩
  have hd : d = .agg (xs.map (·.1)) := congrArg Prod.fst hx
  subst hd
  unfold DataW.weights
  rw [ht]
  refine weightsEach_mem _ _ i f.type d' ?_ ?_ hm
  · rw [List.getElem?_map, Array.getElem?_toList, hi]; rfl
  · rw [List.getElem?_map, hxi]; rfl
theorem InW.slice {e : TypeId} {sz : Nat} (ht : P.underlying t = some (.slice e)) (hc : P.cellsOf e = sz) (hz : 0 < sz) (h : InW enc P w t cs) :
    ∃ (v : Value) (rows : List (List Value)), cs = [v] ∧ RdI sz (heapC w fun _ => 1) (absV w (fun _ => 1) v) (rows.flatten.map (absV w fun _ => 1)) rows.length ∧ rows.length ≤ maxLen ∧ rows.length * P.bytesOf e ≤ 140737488351232 ∧ (∀ r ∈ rows, r.length = sz ∧ InW enc P w e r) ∧
      VRel (muC w fun _ => 1) (absV w (fun _ => 1) v) v := by
  obtain ⟨fuel, d, p, h1, h2⟩ := h
  rcases row_openV ht h1 with ⟨rfl, _⟩ | ⟨a, len, cap, n, rows, ds, rs, hf, rfl, hx, hdl, hl, hm, hrl, hr, hrd, hcell⟩
  · exact ⟨_, [], rfl, .inl ⟨rfl, rfl, rfl⟩, by simp, by simp, (fun r hr => by cases hr), absV_rel _⟩
  have hd : d = .slice ds rs := hx
  subst hd
  unfold DataW.weights at h2
  rw [ht] at h2
  have hb : len * P.bytesOf e ≤ 140737488351232 := by
    have := h2 _ (List.mem_cons_self)
    rw [reach_is, hdl] at this
    exact Nat.le_trans (Nat.mul_le_mul_right _ (by omega)) this
  have hlen := rows_len rows fun r hr' => (hr r hr').1.trans hc
  have each : ∀ r ∈ rows.take len, r.length = sz ∧ InW enc P w e r := fun r hr' => by
    obtain ⟨i, hi, he⟩ := List.getElem_of_mem hr'
    rw [List.length_take, hrl] at hi
    have hri : rows[i]? = some r := by
      rw [← he, List.getElem_take, List.getElem?_eq_getElem]
    have hdi : ds[i]? = some (ds[i]'(by omega)) := List.getElem?_eq_getElem _
    obtain ⟨p', hp⟩ := hrd i r _ hri hdi
    refine ⟨(hr r (List.mem_of_mem_take hr')).1.trans hc, n, _, p', hp, fun m hm' => h2 m ?_⟩
    exact List.mem_cons_of_mem _ (List.mem_append_left _ (weightsAll_mem ds _ (List.getElem_mem _) hm'))
  by_cases hc0 : cap = 0
  · subst hc0
    have hl0 : len = 0 := by omega
    subst hl0
    exact ⟨.slice (some a) 0 0, [], rfl, .inr (.inl ⟨rfl, rfl, ⟨w.heap.size, 0, 0⟩, some 0, rfl⟩), by simp, by simp, (fun r hr => by cases hr), absV_rel _⟩
  · obtain ⟨ver, b, g1, g2, g3, g4, g5, g6⟩ := canon_sliceI (szOf := fun _ => 1) hl hc0 hz hz (by rw [hlen, hrl]) hcell
    rw [rows_take rows len fun r hr' => (hr r hr').1.trans hc] at g6
    have hlt : (rows.take len).length = len := by rw [List.length_take, hrl]; omega
    refine ⟨_, rows.take len, rfl, .inr (.inr ⟨a.block, ver, a.off, some cap, b, ?_, g2, g3, g4, ?_, ?_⟩), by omega, by rw [hlt]; exact hb, each, absV_rel _⟩
    · rw [g1, hlt]
    · rw [hlt]; exact g5
    · rw [hlt, g6]

/-- Rows as things of a kind. -/
theorem rows_of {α : Type} (f : α → List AV) (g : Value → AV) (good : α → Prop) : ∀ rows : List (List Value), (∀ r ∈ rows, ∃ x : α, r.map g = f x ∧ good x) → ∃ l : List α, rows.flatten.map g = l.flatMap f ∧ rows.length = l.length ∧ ∀ x ∈ l, good x
  | [], _ => ⟨[], rfl, rfl, fun _ h => by cases h⟩
  | r :: rows, h => by
    obtain ⟨l, h1, h2, h3⟩ := rows_of f g good rows fun r hr => h r (by simp [hr])
    obtain ⟨x, g1, g2⟩ := h r (by simp)
    refine ⟨x :: l, by simp [g1, h1], by simp [h2], fun y hy => ?_⟩
    rcases List.mem_cons.1 hy with rfl | hy
    · exact g2
    · exact h3 y hy
theorem InW.strs {e : TypeId} (ht : P.underlying t = some (.slice e)) (he : P.underlying e = some .string) (hc : P.cellsOf e = 1) (h : InW enc P w t cs) :
    ∃ (v : Value) (l : List (List UInt8)), cs = [v] ∧ RdI 1 (heapC w fun _ => 1) (absV w (fun _ => 1) v) (l.map .s) l.length ∧ l.length ≤ maxLen ∧ l.length * P.bytesOf e ≤ 140737488351232 ∧ (∀ x ∈ l, x.length ≤ 140737488351232) ∧ VRel (muC w fun _ => 1) (absV w (fun _ => 1) v) v := by
  obtain ⟨v, rows, rfl, R, h1, h2, h3, h4⟩ := h.slice ht hc (by decide)
  obtain ⟨l, g1, g2, g3⟩ := rows_of (fun x : List UInt8 => [AV.s x]) (absV w fun _ => 1) (fun x => x.length ≤ 140737488351232) rows fun r hr => by
    obtain ⟨_, k⟩ := h3 r hr
    obtain ⟨s, rfl, hs⟩ := k.str he
    exact ⟨s.data.toList, rfl, hs⟩
  rw [flatMap_one] at g1
  rw [g1, g2] at R
  exact ⟨v, l, rfl, R, g2 ▸ h1, g2 ▸ h2, g3, h4⟩

theorem trodAll_get : ∀ {ts : List TypeId} {vs : List Value} {ds : List (DataW H)} {ps : List MemPlace}, DataW.TrodAll enc P w 0 (fun _ => true) true ts vs ds ps → ∀ (i : Nat) (t : TypeId) (v : Value), ts[i]? = some t → vs[i]? = some v → ∃ d p, ds[i]? = some d ∧ DataW.Trod enc P w 0 (fun _ => true) true t v d p
  | [], _, _, _, _, i, t, v, h, _ => by simp at h
  | _ :: _, [], _, _, _, i, t, v, _, h => by simp at h
  | _ :: _, _ :: _, [], _, h, _, _, _, _, _ => by simp [DataW.TrodAll] at h
  | t' :: ts, v' :: vs, d' :: ds, ps, h, 0, t, v, h1, h2 => by
    simp at h1 h2; subst h1; subst h2
    obtain ⟨p, q, g1, _⟩ := h
    exact ⟨d', p, rfl, g1⟩
  | t' :: ts, v' :: vs, d' :: ds, ps, h, i + 1, t, v, h1, h2 => by
    obtain ⟨p, q, _, g2, _⟩ := h
    exact trodAll_get g2 i t v (by simpa using h1) (by simpa using h2)

/-- The arguments of a call within a machine's reach. -/
theorem sized_reads {f : Func} {vars : List String} {ap : Bool} {args : Array Value} {ds gs : List (DataW H)} {before : List MemPlace} {vts : List TypeId} (hW : DataW.Whole enc P f.params.toList vars ap w args.toList ds gs before)
    (hw : (DataW.weightsEach P (f.params.toList ++ vts) (ds ++ gs)).all (· ≤ reachBytes) = true) (i : Nat) (t : TypeId) (v : Value) (h1 : f.params[i]? = some t) (h2 : args[i]? = some v) : InW enc P w t v.cells.toList := by
  obtain ⟨p, q, hA, _⟩ := hW
  have h1' : f.params.toList[i]? = some t := by rw [Array.getElem?_toList]; exact h1
  obtain ⟨d, p', g1, fuel, g2⟩ := trodAll_get hA i t v h1' (by rw [Array.getElem?_toList]; exact h2)
  refine ⟨fuel, d, p', g2, fun m hm => ?_⟩
  have := List.all_eq_true.1 hw m (weightsEach_mem _ _ i t d ?_ ?_ hm)
  · simpa using this
  · rw [List.getElem?_append_left (lt_of_some h1')]; exact h1'
  · rw [List.getElem?_append_left (lt_of_some g1)]; exact g1
end

end Go.GAM

/- Certificates in memory; trust: newTrust, has. -/
set_option linter.unusedVariables false
set_option linter.unusedSimpArgs false
set_option linter.unusedSectionVars false
set_option maxRecDepth 20000
namespace Go.GAM
open Go.RowKit
end Go.GAM
namespace Go.Proofs.YtomghnmoomodiaaGreatDoor
open Go.GAM Go.RowKit

structure Cert where
  serial : List UInt8
  issuer : List UInt8
  subject : List UInt8
  frm : Int
  til : Int
  names : List (List UInt8)
  auth : Bool
  key : List UInt8

/-- A certificate's cells; its names lie in the heap. -/
def certC (c : Cert) (v : AV) : List AV := [.s c.serial, .s c.issuer, .s c.subject, .i .i64 c.frm, .i .i64 c.til, v, .b c.auth, .s c.key]
def CV (h : AHeap) (c : Cert) (cs : List AV) : Prop := ∃ v, cs = certC c v ∧ RdI 1 h v (c.names.map .s) c.names.length
theorem CV.ext {h h' : AHeap} {c : Cert} {cs : List AV} (A : CV h c cs) (U : Upd (fun _ => False) h h') : CV h' c cs := by
  obtain ⟨v, h1, h2⟩ := A; exact ⟨v, h1, h2.ext U⟩
theorem CV.len {h : AHeap} {c : Cert} {cs : List AV} (A : CV h c cs) : cs.length = 8 := by obtain ⟨v, rfl, _⟩ := A; rfl
theorem CV.ok {h : AHeap} {c : Cert} {cs : List AV} (A : CV h c cs) : cs.all AV.cellOK = true := by
  obtain ⟨v, rfl, R⟩ := A
  obtain ⟨a, n, k, rfl⟩ := R.isSl
  rfl

/-- A list of certificates. -/
def CVs (h : AHeap) : List Cert → List (List AV) → Prop
  | [], [] => True
  | c :: cs, r :: rs => CV h c r ∧ CVs h cs rs
  | _, _ => False
theorem CVs.ext {h h' : AHeap} (U : Upd (fun _ => False) h h') : ∀ {l : List Cert} {rs : List (List AV)}, CVs h l rs → CVs h' l rs
  | [], [], _ => trivial
  | _ :: _, _ :: _, ⟨a, b⟩ => ⟨a.ext U, CVs.ext U b⟩
theorem CVs.get {h : AHeap} : ∀ {l : List Cert} {rs : List (List AV)} {i : Nat} {c : Cert}, CVs h l rs → l[i]? = some c → ∃ r, (rs.flatten.drop (i * 8)).take 8 = r ∧ CV h c r
  | c :: _, r :: rs, 0, _, ⟨a, b⟩, h1 => by
    simp at h1; subst h1
    refine ⟨r, ?_, a⟩
    rw [List.flatten_cons, Nat.zero_mul, List.drop_zero, List.take_append, List.take_of_length_le (by rw [a.len]; exact Nat.le_refl _), a.len]; simp
  | _ :: _, r :: rs, i + 1, _, ⟨a, b⟩, h1 => by
    obtain ⟨r', h2, h3⟩ := CVs.get b (by simpa using h1)
    refine ⟨r', ?_, h3⟩
    rw [List.flatten_cons, List.drop_append, List.drop_eq_nil_of_le (by rw [a.len, Nat.add_mul]; omega), a.len, List.nil_append, Nat.add_mul, show i * 8 + 1 * 8 - 8 = i * 8 by omega]; exact h2
def CL (h : AHeap) (v : AV) (l : List Cert) : Prop := ∃ rs, RdI 8 h v rs.flatten l.length ∧ CVs h l rs
theorem CL.ext {h h' : AHeap} {v : AV} {l : List Cert} (A : CL h v l) (U : Upd (fun _ => False) h h') : CL h' v l := by
  obtain ⟨rs, h1, h2⟩ := A; exact ⟨rs, h1.ext U, h2.ext U⟩
theorem CL.len {h : AHeap} {v : AV} {l : List Cert} (A : CL h v l) {K : Int → Prop} (hk : K l.length) : pLenSl v K := by
  obtain ⟨rs, h1, h2⟩ := A; exact h1.len hk
theorem CL.at {h : AHeap} {v : AV} {l : List Cert} (A : CL h v l) {i : Nat} {c : Cert} (hc : l[i]? = some c) : ∃ p r, CV h c r ∧ PtAt 8 h p r ∧ ∀ (k : IntKind) (h' : AHeap) (K : AV → Prop), Upd (fun _ => False) h h' → K p → pIdxAddrSl 8 v (.i k (i : Int)) h' K := by
  obtain ⟨rs, h1, h2⟩ := A
  obtain ⟨r, h3, h4⟩ := h2.get hc
  obtain ⟨p, B, hp⟩ := h1.at (lt_of_some hc)
  rw [h3] at B
  exact ⟨p, r, h4, B, hp⟩
theorem CL.nil (h : AHeap) : CL h (.sl none 0 none) [] := ⟨[], .inl ⟨rfl, rfl, rfl⟩, trivial⟩
/-! ### trust -/

def ancK (x : List UInt8 × List UInt8) : AV := .ag [.s x.1, .s x.2]
theorem keyStr : KeyOK prog 9 (fun l : List UInt8 => AV.s l) := keyOK_str Tryz.underlying9
theorem keyAnc : KeyOK prog 60 ancK := by
  intro a b
  obtain ⟨a1, a2⟩ := a
  obtain ⟨b1, b2⟩ := b
  have hs := aEq_str (P := prog) (d := 62) (kt := 9) Tryz.underlying9
  have hst : prog.stoodInHeld 60 = false := by kernel_rfl
  show aEq prog (63 + 1) 60 (.ag [.s a1, .s a2]) (.ag [.s b1, .s b2]) = _
  unfold aEq
  rw [show prog.underlying 60 = _ from Tryz.underlying60]
  simp only [hst]
  simp [hs, show prog.underlying 9 = _ from Tryz.underlying9]
  rw [Bool.eq_iff_iff]; simp

def ancKV (l : List Cert) : List ((List UInt8 × List UInt8) × AV) := l.foldl (fun kv c => upM kv (c.subject, c.key) (.b true)) []
def autKV (l : List Cert) : List (List UInt8 × AV) := l.foldl (fun kv c => if c.auth = true then upM kv c.subject (.b true) else kv) []
def hasS (l : List Cert) (c : Cert) : Bool := l.any fun t => decide (t.subject = c.subject) && decide (t.key = c.key)
def autS (l : List Cert) (s : List UInt8) : Bool := l.any fun t => t.auth && decide (t.subject = s)
theorem anc_lk (x : List UInt8 × List UInt8) : ∀ (l : List Cert) (kv), lkM (l.foldl (fun kv c => upM kv (c.subject, c.key) (.b true)) kv) x = if (l.any fun t => decide ((t.subject, t.key) = x)) = true then some (.b true) else lkM kv x
  | [], kv => by simp
  | c :: l, kv => by
    rw [List.foldl_cons, anc_lk x l, lkM_up, List.any_cons]
    by_cases h : x = (c.subject, c.key)
    · subst h; simp
    · rw [if_neg h, decide_eq_false (fun e => h e.symm), Bool.false_or]
theorem aut_lk (x : List UInt8) : ∀ (l : List Cert) (kv), lkM (l.foldl (fun kv c => if c.auth = true then upM kv c.subject (.b true) else kv) kv) x = if (l.any fun t => t.auth && decide (t.subject = x)) = true then some (.b true) else lkM kv x
  | [], kv => by simp
  | c :: l, kv => by
    rw [List.foldl_cons, aut_lk x l, List.any_cons]
    cases hc : c.auth with
    | false => simp
    | true =>
      rw [if_pos rfl, lkM_up]
      by_cases h : x = c.subject
      · subst h; simp
      · rw [if_neg h, Bool.true_and, decide_eq_false (fun e => h e.symm), Bool.false_or]
theorem anc_has (l : List Cert) (c : Cert) : (lkM (ancKV l) (c.subject, c.key)).getD (.b false) = .b (hasS l c) := by
  unfold ancKV
  rw [anc_lk]
  have e : (l.any fun t => decide ((t.subject, t.key) = (c.subject, c.key))) = hasS l c := by
    unfold hasS; congr 1; funext t; rw [Bool.eq_iff_iff]; simp
  rw [e]
  cases hasS l c <;> rfl
theorem aut_has (l : List Cert) (s : List UInt8) : (lkM (autKV l) s).getD (.b false) = .b (autS l s) := by
  unfold autKV
  rw [aut_lk]
  have e : (l.any fun t => t.auth && decide (t.subject = s)) = autS l s := rfl
  rw [e]
  cases autS l s <;> rfl

/-- Trust in memory. -/
structure TrAt (h : AHeap) (m1 m2 : Nat) (l : List Cert) : Prop where
  anc : MapAt ancK h m1 (ancKV l)
  aut : MapAt (fun x : List UInt8 => AV.s x) h m2 (autKV l)
theorem TrAt.ext {h h' : AHeap} {m1 m2 : Nat} {l : List Cert} (T : TrAt h m1 m2 l) (U : Upd (fun _ => False) h h') : TrAt h' m1 m2 l := ⟨T.1.upd U fun h => h, T.2.upd U fun h => h⟩

section
variable {h : AHeap} {Q : AV → AHeap → Prop}

theorem newTrust_p0 {v : AV} {l : List Cert} (L : CL h v l) (hl : l.length ≤ 9223372036854775807) : ∀ (r : List Cert) (i : Nat) (hx : AHeap), l.drop i = r → Upd (fun _ => False) h hx → h.length + 4 ≤ hx.length → RecAt hx h.length [.mp none, .mp none] → RecAt hx (h.length + 3) [.mp (some (h.length + 1)), .mp (some (h.length + 2))] →
    TrAt hx (h.length + 1) (h.length + 2) (l.take i) → (∀ h', Upd (fun _ => False) h h' → h.length + 4 ≤ h'.length → TrAt h' (h.length + 1) (h.length + 2) l → Q (.ag [.mp (some (h.length + 1)), .mp (some (h.length + 2))]) h') →
    G_certcheck_newTrust.p0 (kRet h Q) (.p (some ⟨h.length, 2, 0⟩)) (.p (some ⟨h.length + 3, 2, 0⟩)) v l.length i hx := by
  intro r
  induction r with
  | nil =>
    intro i hx hr U hlx R2 R3 T hq
    have hle := drop_end hr
    rw [List.take_of_length_le hle] at T
    refine G_certcheck_newTrust.i0 ?_
    simp only [G_certcheck_newTrust.t0, G_certcheck_newTrust.j1]
    refine bif_f (by simp; omega) (st_loadN R3 rfl (st_storeN R2 rfl rfl rfl fun h1 hl1 U1 R2' => st_loadN R2' rfl (.inl (hq h1 (U.own U1 (Nat.le_refl _)) (by omega) ⟨T.1.upd U1 (by omega), T.2.upd U1 (by omega)⟩))))
  | cons c r ih =>
    intro i hx hr U hlx R2 R3 T hq
    have hlt := drop_lt hr
    have hn := drop_next hr
    have hci := at_of_drop hr
    obtain ⟨p, rw_, A, B, hp⟩ := (L.ext U).at hci
    have hA := A.ok
    obtain ⟨w, rfl, hw⟩ := A
    have htk := take_snoc hci
    refine G_certcheck_newTrust.i0 ?_
    simp only [G_certcheck_newTrust.t0, G_certcheck_newTrust.j1]
    refine bif_t (by simp; omega) (hp _ hx _ (Upd.refl _ _) (B.loadN (st_alloc fun h1 hl1 U1 Rc => st_storeN Rc rfl rfl hA fun h2 hl2 U2 Rc => ?_)))
    have U02 : Upd (fun _ => False) hx h2 := U1.own U2 (Nat.le_refl _)
    have R2 := R2.upd U02 fun h => h
    have R3 := R3.upd U02 fun h => h
    have T := T.ext U02
    refine st_fld (st_load R3 rfl rfl (st_fld (st_load Rc rfl rfl (st_asS (st_fld (st_load Rc rfl rfl (st_asS ?_)))))))
    refine st_mapset (κ := ancK) (x := (c.subject, c.key)) T.1 keyAnc (by kernel_rfl) rfl fun h3 hl3 U3 M1 => ?_
    have R2 := R2.upd U3 (by omega)
    have R3 := R3.upd U3 (by omega)
    have Rc := Rc.upd U3 (by omega)
    have M2 := T.2.upd U3 (by omega)
    have e1 : upM (ancKV (l.take i)) (c.subject, c.key) (.b true) = ancKV (l.take (i + 1)) := by rw [htk]; simp [ancKV]
    rw [e1] at M1
    have U03 : Upd (fun _ => False) h h3 := (U.then U02).own U3 (by omega)
    refine st_fld (st_load Rc rfl rfl (st_asB (bif_both (fun e => ?_) fun e => ?_)))
    · refine st_fld (st_load R3 rfl rfl (st_fld (st_load Rc rfl rfl (st_asS ?_))))
      refine st_mapset (κ := fun x : List UInt8 => AV.s x) (x := c.subject) M2 keyStr (by kernel_rfl) rfl fun h4 hl4 U4 M2 => ?_
      have e2 : upM (autKV (l.take i)) c.subject (.b true) = autKV (l.take (i + 1)) := by rw [htk]; simp [autKV, e]
      rw [e2] at M2
      refine G_certcheck_newTrust.i1 ?_
      simp only [G_certcheck_newTrust.t1, G_certcheck_newTrust.j0]
      exact inc (by omega) (ih (i + 1) h4 hn (U03.own U4 (by omega)) (by have := U02.1; omega) (R2.upd U4 (by omega)) (R3.upd U4 (by omega)) ⟨M1.upd U4 (by omega), M2⟩ hq)
    · have e2 : autKV (l.take i) = autKV (l.take (i + 1)) := by rw [htk]; simp [autKV, e]
      rw [e2] at M2
      refine G_certcheck_newTrust.i1 ?_
      simp only [G_certcheck_newTrust.t1, G_certcheck_newTrust.j0]
      exact inc (by omega) (ih (i + 1) h3 hn U03 (by have := U02.1; omega) R2 R3 ⟨M1, M2⟩ hq)

theorem newTrust_c {v : AV} {l : List Cert} (L : CL h v l) (hl : l.length ≤ 9223372036854775807) (hq : ∀ m1 m2 h', Upd (fun _ => False) h h' → TrAt h' m1 m2 l → h.length ≤ m1 → h.length ≤ m2 → Q (.ag [.mp (some m1), .mp (some m2)]) h') : C G_certcheck_newTrust.id [v] h Q := by
  refine G_certcheck_newTrust.call ?_
  simp only [G_certcheck_newTrust.t, G_certcheck_newTrust.j0]
  refine st_alloc fun h1 hl1 U1 R2 => st_makeMap ancK fun h2 hl2 U2 M1 => st_makeMap (fun x : List UInt8 => AV.s x) fun h3 hl3 U3 M2 => st_pb (cs := [.mp (some h1.length), .mp (some h2.length)]) rfl ?_
  refine st_alloc fun h4 hl4 U4 R3 => st_storeN R3 rfl rfl rfl fun h5 hl5 U5 R3 => L.len ?_
  have e1 : h1.length = h.length + 1 := hl1
  have e2 : h2.length = h.length + 2 := by omega
  have e3 : h3.length = h.length + 3 := by omega
  rw [e3, e2, e1] at R3
  rw [e1] at M1
  rw [e2] at M2
  rw [e3]
  have U := (((U1.then U2).then U3).then U4).own U5 (by omega)
  have U25 : Upd (fun _ => False) h1 h5 := (((U2).then U3).then U4).own U5 (by omega)
  have U35 : Upd (fun _ => False) h2 h5 := (U3.then U4).own U5 (by omega)
  have U45 : Upd (fun _ => False) h3 h5 := U4.own U5 (by omega)
  exact newTrust_p0 L hl l 0 h5 rfl U (by omega) (R2.upd U25 fun h => h) R3 ⟨M1.upd U35 fun h => h, M2.upd U45 fun h => h⟩ fun h' U' hl' T => hq _ _ _ U' T (by omega) (by omega)

theorem has_c {m1 m2 : Nat} {l : List Cert} {c : Cert} {cs : List AV} (T : TrAt h m1 m2 l) (A : CV h c cs) (hq : Q (.b (hasS l c)) h) : C G_certcheck_trust_has.id [.ag [.mp (some m1), .mp (some m2)], .ag cs] h Q := by
  obtain ⟨w, rfl, hw⟩ := A
  refine G_certcheck_trust_has.call ?_
  simp only [G_certcheck_trust_has.t]
  refine st_box rfl fun h1 hl1 U1 R1 => st_box rfl fun h2 hl2 U2 R2 => ?_
  have R1 := R1.upd U2 fun h => h
  refine st_fld (st_load R1 rfl rfl (st_fld (st_load R2 rfl rfl (st_asS (st_fld (st_load R2 rfl rfl (st_asS ?_)))))))
  refine st_lookup (κ := ancK) (x := (c.subject, c.key)) (z := .b false) ((T.ext (U1.then U2)).1) keyAnc (by kernel_rfl) (by kernel_rfl) ?_
  rw [anc_has]
  exact st_asB (kRet_pure rfl (U1.then U2).ext hq)
end
end Go.Proofs.YtomghnmoomodiaaGreatDoor

/- names; Check, the program's. -/
set_option linter.unusedVariables false
set_option linter.unusedSimpArgs false
set_option linter.unusedSectionVars false
set_option maxRecDepth 20000
namespace Go.GAM
/-- A number. -/
def num (n : Nat) : AV := .i .i64 (n : Int)
end Go.GAM
namespace Go.Proofs.YtomghnmoomodiaaGreatDoor
open Go.GAM Go.RowKit

/-- The texts of a certificate are short enough. -/
def shortC (c : Cert) : Prop := ∀ n ∈ c.names, n.length ≤ 9223372036854775807
def nmS (cm : List UInt8 → List UInt8) (c : Cert) (x : List UInt8) : Bool := if c.names = [] then matchS (cm c.subject) x else c.names.any fun n => matchS n x
/-- What is known of Common at a text. -/
def CommonAt (hb : AHeap) (cm : List UInt8 → List UInt8) (s : List UInt8) : Prop := (cm s).length ≤ 9223372036854775807 ∧ ∀ (h : AHeap) (Q : AV → AHeap → Prop), Upd (fun _ => False) hb h → (∀ h', Upd (fun _ => False) h h' → Q (.s (cm s)) h') → C G_certificate_Common.id [.s s] h Q
theorem CommonAt.ext {hb h' : AHeap} {cm : List UInt8 → List UInt8} {s : List UInt8} (C : CommonAt hb cm s) (U : Upd (fun _ => False) hb h') : CommonAt h' cm s := ⟨C.1, fun h Q U' hq => C.2 h Q (U.trans U' fun _ _ h => h) hq⟩


/-- A finding at a place. -/
def fAt (tr : List Cert) (at' : Int) (ch : List Cert) (f i : Nat) : Bool := match ch[i]? with
  | none => false
  | some c => if f = 1 then decide (c.til < at') else if f = 2 then decide (at' < c.frm) else if f = 4 then decide (c.issuer = c.subject) && !hasS tr c else
      if f = 6 then (match ch[i + 1]? with
        | none => false
        | some d => !decide (c.issuer = d.subject)) else if f = 7 then decide (0 < i) && !c.auth else false
def fAny (tr : List Cert) (at' : Int) (ch : List Cert) (f : Nat) : Bool := (List.range ch.length).any (fAt tr at' ch f)
def holdS (cm : List UInt8 → List UInt8) (tr : List Cert) (x : List UInt8) (ch : List Cert) (f : Nat) : Bool :=
  if f = 3 then !decide (x = []) && (match ch[0]? with
    | none => false
    | some c => !nmS cm c x) else if f = 5 then (match ch[ch.length - 1]? with
    | none => false
    | some c => !hasS tr c && !autS tr c.issuer) else false
def foundS (cm : List UInt8 → List UInt8) (tr : List Cert) (x : List UInt8) (at' : Int) (ch : List Cert) (f : Nat) : Bool := holdS cm tr x ch f || fAny tr at' ch f
def outS (cm : List UInt8 → List UInt8) (tr : List Cert) (x : List UInt8) (at' : Int) (ch : List Cert) (k : Nat) : List Nat := ((List.range k).map (· + 1)).filter (foundS cm tr x at' ch)
theorem outS_succ (cm tr x at' ch) (k : Nat) : outS cm tr x at' ch (k + 1) = outS cm tr x at' ch k ++ if foundS cm tr x at' ch (k + 1) = true then [k + 1] else [] := by
  unfold outS
  rw [List.range_succ, List.map_append, List.filter_append]
  congr 1
  simp only [List.map_cons, List.map_nil, List.filter_cons, List.filter_nil]
theorem outS_len (cm tr x at' ch) (k : Nat) : (outS cm tr x at' ch k).length ≤ k := by
  unfold outS
  have := List.length_filter_le (foundS cm tr x at' ch) ((List.range k).map (· + 1))
  simpa using this
/-- What Check hands back. -/
def checkS (cm : List UInt8 → List UInt8) (tr : List Cert) (x : List UInt8) (at' : Int) (ch : List Cert) : List Nat := if ch = [] then [5] else outS cm tr x at' ch 7

section
variable {cm : List UInt8 → List UInt8} {h : AHeap} {Q : AV → AHeap → Prop}

theorem names_p0 {c : Cert} {x : List UInt8} {v : AV} {h0 : AHeap} (R : RdI 1 h v (c.names.map .s) c.names.length) (hc : shortC c) (hx : x.length ≤ 9223372036854775807) (hl : c.names.length ≤ 9223372036854775807) : ∀ (r : List (List UInt8)) (i : Nat), c.names.drop i = r → kRet h0 Q (.b (r.any fun n => matchS n x)) h → G_certcheck_names.p0 (kRet h0 Q) x v c.names.length i h := by
  intro r
  induction r with
  | nil =>
    intro i hr hq
    have := drop_end hr
    refine G_certcheck_names.i0 ?_
    simp only [G_certcheck_names.t0]
    exact bif_f (by simp; omega) hq
  | cons n r ih =>
    intro i hr hq
    have hlt := drop_lt hr
    have hn := drop_next hr
    have hni := at_of_drop hr
    refine G_certcheck_names.i0 ?_
    simp only [G_certcheck_names.t0, G_certcheck_names.j0]
    refine bif_t (by simp; omega) (R.str (Upd.refl _ _) hni (match_c (hc n (List.mem_of_getElem? hni)) hx (st_asB ?_)))
    rw [List.any_cons] at hq
    cases hm : matchS n x with
    | true => rw [hm] at hq; exact bif_t rfl hq
    | false => rw [hm, Bool.false_or] at hq; exact bif_f rfl (inc (by omega) (ih (i + 1) hn hq))
theorem names_c {c : Cert} {cs : List AV} {x : List UInt8} (A : CV h c cs) (hc : shortC c) (hx : x.length ≤ 9223372036854775807) (hl : c.names.length ≤ 9223372036854775807) (hcm : c.names = [] → CommonAt h cm c.subject) (hq : ∀ h', Upd (fun _ => False) h h' → Q (.b (nmS cm c x)) h') : C G_certcheck_names.id [.ag cs, .s x] h Q := by
  obtain ⟨w, rfl, hw⟩ := A
  refine G_certcheck_names.call ?_
  simp only [G_certcheck_names.t, G_certcheck_names.j0]
  refine st_box rfl fun h1 hl1 U1 R1 => st_fld (st_load R1 rfl rfl (hw.len ?_))
  have hw1 := hw.ext U1
  unfold nmS at hq
  by_cases hn : c.names = []
  · rw [if_pos hn] at hq
    refine bif_t (by simp [hn]) (st_fld (st_load R1 rfl rfl (st_asS ((hcm hn).2 _ _ U1 fun h2 U2 => st_asS (match_c (hcm hn).1 hx (st_asB (.inl (hq h2 (U1.then U2)))))))))
  · rw [if_neg hn] at hq
    refine bif_f (by simp [hn]) (st_fld (st_load R1 rfl rfl (hw1.len (names_p0 hw1 hc hx hl c.names 0 rfl ?_))))
    exact .inl (hq h1 U1)

/-- The closure's captured places. -/
structure Cap (h : AHeap) (b1 b2 b3 b4 : Nat) (x : List UInt8) (v : AV) (m1 m2 n : Nat) : Prop where
  c1 : RecAt h b1 [.s x]
  c2 : RecAt h b2 [v]
  c3 : RecAt h b3 [.mp (some m1), .mp (some m2)]
  c4 : RecAt h b4 [num n]
theorem Cap.ext {h h' : AHeap} {b1 b2 b3 b4 : Nat} {x : List UInt8} {v : AV} {m1 m2 n : Nat} (A : Cap h b1 b2 b3 b4 x v m1 m2 n) (U : Upd (fun _ => False) h h') : Cap h' b1 b2 b3 b4 x v m1 m2 n :=
  ⟨A.1.upd U fun h => h, A.2.upd U fun h => h, A.3.upd U fun h => h, A.4.upd U fun h => h⟩

theorem hold_c {b1 b2 b3 b4 m1 m2 f : Nat} {v : AV} {x : List UInt8} {ch tr : List Cert} (A : Cap h b1 b2 b3 b4 x v m1 m2 (ch.length - 1)) (T : TrAt h m1 m2 tr) (L : CL h v ch) (hne : ch ≠ []) (hs : ∀ c ∈ ch, shortC c ∧ c.names.length ≤ 9223372036854775807) (hx : x.length ≤ 9223372036854775807) (hcm : ∀ c, ch[0]? = some c → c.names = [] → CommonAt h cm c.subject)
    (hq : ∀ h', Upd (fun _ => False) h h' → Q (.b (holdS cm tr x ch f)) h') : C G_certcheck_Check_1.id [.i .i64 (f : Int), .p (some ⟨b1, 1, 0⟩), .p (some ⟨b2, 1, 0⟩), .p (some ⟨b3, 2, 0⟩), .p (some ⟨b4, 1, 0⟩)] h Q := by
  have hpos := List.length_pos_iff.2 hne
  refine G_certcheck_Check_1.call ?_
  simp only [G_certcheck_Check_1.t, G_certcheck_Check_1.j0, G_certcheck_Check_1.j1]
  have p0 : ∀ b hx, kRet h Q (.b b) hx → G_certcheck_Check_1.p0 (kRet h Q) b hx := by
    intro b hx hb
    refine G_certcheck_Check_1.i0 ?_
    simp only [G_certcheck_Check_1.t0]
    exact hb
  have p1 : ∀ b hx, kRet h Q (.b b) hx → G_certcheck_Check_1.p1 (kRet h Q) b hx := by
    intro b hx hb
    refine G_certcheck_Check_1.i1 ?_
    simp only [G_certcheck_Check_1.t1]
    exact hb
  unfold holdS at hq
  by_cases h3 : f = 3
  · subst h3
    rw [if_pos rfl] at hq
    obtain ⟨c, hc⟩ : ∃ c, ch[0]? = some c := ⟨_, List.getElem?_eq_getElem hpos⟩
    simp only [hc] at hq
    refine bif_t rfl (st_load A.1 rfl rfl (st_asS ?_))
    cases hd : decide (x = []) with
    | true => rw [hd] at hq; exact bif_f rfl (p0 _ _ (.inl (hq h (Upd.refl _ _))))
    | false =>
      rw [hd] at hq
      obtain ⟨p, r, D, B, hp⟩ := L.at hc
      have hmem := hs c (List.mem_of_getElem? hc)
      refine bif_t rfl (st_load A.2 rfl rfl (hp _ h _ (Upd.refl _ _) (B.loadN (st_load A.1 rfl rfl (st_asS ?_)))))
      refine names_c D hmem.1 hx hmem.2 (hcm c hc) fun h1 U1 => st_asB (hp _ h1 _ U1 ⟨rfl, st_load (A.ext U1).2 rfl rfl ⟨rfl, st_load (A.ext U1).1 rfl rfl (st_asS ⟨rfl, p0 _ _ (.inl (hq h1 U1))⟩)⟩⟩)
  · rw [if_neg h3] at hq
    refine bif_f (by simp; omega) ?_
    by_cases h5 : f = 5
    · subst h5
      rw [if_pos rfl] at hq
      obtain ⟨c, hc⟩ : ∃ c, ch[ch.length - 1]? = some c := ⟨_, List.getElem?_eq_getElem (by omega)⟩
      simp only [hc] at hq
      obtain ⟨p, r, D, B, hp⟩ := L.at hc
      refine bif_t rfl (st_loadN A.3 rfl (st_load A.2 rfl rfl (st_load A.4 rfl rfl (st_asI (hp _ h _ (Upd.refl _ _) (B.loadN ?_))))))
      refine has_c T D (st_asB (hp _ h _ (Upd.refl _ _) ⟨rfl, st_load A.4 rfl rfl (st_asI ⟨rfl, st_load A.2 rfl rfl ⟨rfl, ?_⟩⟩)⟩))
      cases hh : hasS tr c with
      | true => rw [hh] at hq; exact bif_f rfl (p1 _ _ (.inl (hq h (Upd.refl _ _))))
      | false =>
        rw [hh] at hq
        obtain ⟨w, rfl, hw⟩ := D
        refine bif_t rfl (st_fld (st_load A.3 rfl rfl (st_load A.2 rfl rfl (st_load A.4 rfl rfl (st_asI (hp _ h _ (Upd.refl _ _) (B.fld (o := 1) rfl (st_asS ?_))))))))
        refine st_lookup (κ := fun x : List UInt8 => AV.s x) (x := c.issuer) (z := .b false) T.2 keyStr (by kernel_rfl) (by kernel_rfl) ?_
        rw [aut_has]
        exact st_asB (p1 _ _ (.inl (hq h (Upd.refl _ _))))
    · rw [if_neg h5] at hq
      exact bif_f (by simp; omega) (.inl (hq h (Upd.refl _ _)))

/-- The list of findings. -/
def Outs (h0 h : AHeap) (v : AV) (l : List Nat) : Prop := NewA 1 h0 h v (l.map num) l.length
theorem Outs.push {ty : Option TypeId} {h0 h : AHeap} {v : AV} {l : List Nat} (A : Outs h0 h v l) {n : Nat} (hl : l.length ≤ 1000) {K : AV → AHeap → Prop} (hk : ∀ v' h', Outs h0 h' v' (l ++ [n]) → Upd (SlAt v) h h' → K v' h') : pBuildSl 1 1 [.i .i64 0] [(0, 1, .i .i64 (n : Int))] h fun y h' => pAppend ty 1 8 v y h' K := by
  refine st_build (cs := [num n]) rfl rfl fun y h1 hl1 U1 R1 F1 => ?_
  have A1 : NewA 1 h0 h1 v (l.map num) l.length := ⟨A.upd.trans U1 fun _ _ h => h, A.arr.upd U1 fun _ _ h => h, A.new⟩
  refine A1.append Nat.one_pos (ns := [num n]) (k := 1) (fun K hK => R1.news hK) rfl rfl (by omega) (by omega) fun v' h' A' U => hk v' h' ?_ ((U1.mono fun _ _ h => h.elim).trans U fun _ _ h => h)
  unfold Outs
  rw [List.map_append, List.length_append]; exact A'
theorem Outs.ext {h0 h h' : AHeap} {v : AV} {l : List Nat} (A : Outs h0 h v l) (U : Upd (fun _ => False) h h') : Outs h0 h' v l := ⟨A.upd.then U, A.arr.upd U fun _ _ h => h, A.new⟩
end
end Go.Proofs.YtomghnmoomodiaaGreatDoor

/- DER values, smaller things (as in wip/r33). -/
set_option linter.unusedVariables false
set_option linter.unusedSimpArgs false
set_option linter.unusedSectionVars false
set_option maxRecDepth 20000
namespace Go.GAM
theorem Rd.at {sz : Nat} {h : AHeap} {v : AV} {cs : List AV} {len : Nat} (R : Rd sz h v cs len) (hl : len ≠ 0) : ∃ id ver off cap b, v = .sl (some ⟨id, ver, off⟩) len cap ∧ RdAt sz h id ver off b cs len := by
  rcases R with ⟨_, h0, _⟩ | ⟨id, ver, off, cap, b, h1, h2, h3, h4, h5, h6, h7⟩
  · exact absurd h0 hl
  · exact ⟨id, ver, off, cap, b, h1, h2, h3, h4, h5, h6, h7⟩
theorem NewA.store {h0 h : AHeap} {v x : AV} {cs : List AV} {len : Nat} (A : NewA 1 h0 h v cs len) {k : IntKind} {i : Nat} (hi : i < len) (hx : x.parts = [x]) (hs : x.sizeOK = true) (hc : x.cellOK = true) {K : AHeap → Prop} (hk : ∀ h', NewA 1 h0 h' v (cs.set i x) len → K h') :
    pIdxAddrSl 1 v (.i k (i : Int)) h fun p => pStore 1 p x h K :=
  A.arr.store hi hx hs hc fun h' U A' => hk h' ⟨A.upd.trans U fun j hj hs => absurd (A.new j hs) (by omega), A', A.new⟩
theorem st_num {h : AHeap} {id ver off : Nat} {b : ABlk} {l : List Nat} {len i n : Nat} {K : Int → Prop} (R : RdAt 1 h id ver off b (l.map num) len) (hi : i < len) (hn : l[i]? = some n) (hk : K (n : Int)) : pLoad1 (.p (some ⟨id, ver, off + i * 1⟩)) h fun y => asI .i64 y K :=
  st_elem (o := 0) R hi Nat.one_pos (c := num n) (by rw [Nat.mul_one, Nat.add_zero, List.getElem?_map, hn]; rfl) (st_asI hk)
theorem Rd.nat {h : AHeap} {v : AV} {l : List Nat} {len i n : Nat} {k : IntKind} {K : Int → Prop} (R : Rd 1 h v (l.map num) len) (hi : i < len) (hn : l[i]? = some n) (hk : K (n : Int)) : pIdxAddrSl 1 v (.i k (i : Int)) h fun a => pLoad1 a h fun y => asI .i64 y K :=
  R.cell Nat.one_pos hi (c := num n) (by rw [Nat.mul_one, List.getElem?_map, hn]; rfl) (st_asI hk)
end Go.GAM
namespace Go.Proofs.YtomghnmoomodiaaGreatDoor
open Go.GAM Go.RowKit
section
variable {h0 : AHeap} {Q : AV → AHeap → Prop}
def Der.data : Der → List UInt8 | .mk _ _ _ s _ => s
def dPlain (tag : Int) : Der → Bool | .mk c t m s ks => decide (c = 0) && (decide (t = tag) && (!m && decide (ks.length = 0)))
/-- The cells of a value without kids. -/
def leafC (c t : Int) (m : Bool) (s : List UInt8) : List AV := [.i .i64 c, .i .i64 t, .b m, .s s, .sl none 0 none]
theorem plain_c {d : Der} {cs : List AV} {F : Nat → Prop} {tag : Int} {h : AHeap} (D : DV h F d cs) (hq : Q (.b (dPlain tag d)) h) : C G_der_plain.id [.ag cs, .i .i64 tag] h Q := by
  cases D with
  | @mk c t m s ks v rows Dk sv fv ov =>
  refine G_der_plain.call ?_
  simp only [G_der_plain.t, G_der_plain.j0]
  refine st_box rfl fun h1 hl1 U1 B => ?_
  have S1 := sv.upd U1 fun _ _ _ h => h
  have p0 : ∀ b, b = (decide (c = 0) && (decide (t = tag) && (!m && decide (ks.length = 0)))) → G_der_plain.p0 (kRet h Q) b h1 := by
    intro b hb
    refine G_der_plain.i0 ?_
    simp only [G_der_plain.t0]
    subst hb
    exact kRet_pure rfl U1.ext hq
  refine st_fld (st_load B rfl rfl (st_asI ?_))
  refine bif_both (fun e1 => st_fld (st_load B rfl rfl (st_asI ?_))) fun e1 => p0 _ (by rw [e1]; rfl)
  refine bif_both (fun e2 => st_fld (st_load B rfl rfl (st_asB ?_))) fun e2 => p0 _ (by rw [e1, e2]; rfl)
  refine bif_both (fun e3 => st_fld (st_load B rfl rfl (S1.len (p0 _ ?_)))) fun e3 => p0 _ (by rw [e1, e2, e3]; rfl)
  rw [e1, e2, e3, ← Dk.length]
  simp
/-- The value in a box of its own, read. -/
theorem DV.box {ty : Option TypeId} {d : Der} {cs : List AV} {F : Nat → Prop} {h : AHeap} (D : DV h F d cs) {K : AV → AHeap → Prop} (hk : ∀ h1, h1.length = h.length + 1 → Upd (fun _ => False) h h1 → RecAt h1 h.length cs → DV h1 F d cs → K (.p (some ⟨h.length, 5, 0⟩)) h1) : pBox ty (.ag cs) h K := by
  refine st_box rfl fun h1 hl1 U1 B => ?_
  have hp : (AV.ag cs).parts.length = 5 := D.len
  rw [hp]
  exact hk h1 hl1 U1 B (D.ext U1)
theorem DV.dat {d : Der} {cs : List AV} {F : Nat → Prop} {h : AHeap} (D : DV h F d cs) : cs[3]? = some (.s d.data) := by cases D; rfl
theorem quo_n {a b : Nat} {K : Int → Prop} (hb : b ≠ 0) (ha : a < 9223372036854775808) (hk : K ((a / b : Nat) : Int)) : pQuo .i64 (a : Int) (b : Int) K := by
  have h := Nat.div_le_self a b
  refine st_quo (by omega) ?_ hk
  rw [Int.tdiv_eq_ediv_of_nonneg (by omega), ← Int.natCast_ediv]
  generalize a / b = y at h
  rw [wrap_i64 (by omega) (by omega)]
def digB (c : UInt8) : Bool := decide (48 ≤ c.toNat) && decide (c.toNat ≤ 57)
theorem digB_bd {c : UInt8} (h : digB c = true) : 48 ≤ c.toNat ∧ c.toNat ≤ 57 := by
  unfold digB at h; simpa using h
/-- The numbers that bytes to the base 128 hold. -/
def oidD : List UInt8 → Nat → Bool → Option (List Nat)
  | [], _, begun => if begun = true then none else some []
  | c :: r, n, begun => if begun = false ∧ c.toNat = 128 then none else if 268435456 ≤ n * 128 + c.toNat % 128 then none else
      if 128 ≤ c.toNat then oidD r (n * 128 + c.toNat % 128) true else match oidD r 0 false with
        | none => none
        | some l => some ((n * 128 + c.toNat % 128) :: l)
def oidTxt : List Nat → List UInt8
  | [] => []
  | a :: r => Lib.decDigits (min (a / 40) 2) ++ [46] ++ Lib.decDigits (a - 40 * min (a / 40) 2) ++ r.flatMap fun n => 46 :: Lib.decDigits n
def oidS (d : Der) : List UInt8 × Bool := if dPlain 6 d = true ∧ d.data ≠ [] then (match oidD d.data 0 false with
  | none => ([], false)
  | some l => (oidTxt l, true)) else ([], false)
theorem decDigits_len {n : Nat} (h : n < 1000000000) : (Lib.decDigits n).length ≤ 10 := by
  have key : ∀ k n, n < 10 ^ k → 1 ≤ k → (Lib.decDigits n).length ≤ k := by
    intro k
    induction k with
    | zero => intro n _ h; omega
    | succ k ih =>
      intro n hn _
      rw [Lib.decDigits]
      split
      · simp
      · rename_i h10
        have hk : 1 ≤ k := by
          rcases Nat.eq_zero_or_pos k with h | h
          · subst h; simp at hn; omega
          · exact h
        have := ih (n / 10) (by rw [Nat.pow_succ] at hn; omega) hk
        simp only [List.length_append, List.length_singleton]; omega
  exact key 10 n (by omega) (by omega)
theorem mmI_min (a b : Nat) : mmI false (a : Int) (b : Int) = ((min a b : Nat) : Int) := by
  unfold mmI
  simp only [cond_false]
  split <;> omega
def oidT (x : List UInt8 × Bool) : AV := .tu [.s x.1, .b x.2]
def oidX : Option (List Nat) → List Nat → List UInt8 × Bool
  | none, _ => ([], false)
  | some l, done => (oidTxt (done ++ l), true)

end
end Go.Proofs.YtomghnmoomodiaaGreatDoor

/- OidOf, the program's. -/
set_option linter.unusedVariables false
set_option linter.unusedSimpArgs false
set_option linter.unusedSectionVars false
set_option maxRecDepth 20000
namespace Go.GAM
theorem RdAt.drop {sz : Nat} {h : AHeap} {id ver off : Nat} {b : ABlk} {cs : List AV} {len lo : Nat} {cap : Option Nat} {K : AV → Prop} (A : RdAt sz h id ver off b cs len) (hz : 0 < sz) (h1 : lo ≤ len) (hk : K (.sl (some ⟨id, ver, off + lo * sz⟩) (len - lo) (cap.map (· - lo)))) : pSliceSl sz (.sl (some ⟨id, ver, off⟩) len cap) (some (.i .i64 (lo : Int))) none none h K := by
  refine ⟨hz, fun h => by simp at h, by omega, by simpa using h1, b, A.blk, by have := A.flo; have := A.vle; omega, A.flo, .inl A.siz, .inl (Nat.le_refl _), by simpa using hk⟩
theorem RdAt.dropRd {sz : Nat} {h : AHeap} {id ver off : Nat} {b : ABlk} {cs : List AV} {len lo : Nat} (A : RdAt sz h id ver off b cs len) (h1 : lo ≤ len) (cap : Option Nat) : Rd sz h (.sl (some ⟨id, ver, off + lo * sz⟩) (len - lo) cap) (cs.drop (lo * sz)) (len - lo) := by
  have e1 : lo * sz ≤ len * sz := Nat.mul_le_mul_right _ h1
  have e3 : (len - lo) * sz = len * sz - lo * sz := Nat.sub_mul _ _ _
  have e4 := A.end_
  refine .inr ⟨id, ver, off + lo * sz, cap, b, rfl, A.blk, A.siz, A.flo, A.vle, by omega, ?_⟩
  rw [← A.cel, List.drop_take, List.drop_drop, e3]
/-- An array of one element that is made. -/
theorem NewA.one {h0 h : AHeap} (U : Upd (fun _ => False) h0 h) {x : AV} {zeros : List AV} (hf : fillA zeros [(0, 1, x)] = some [x]) {K : AV → AHeap → Prop} (hk : ∀ v h', NewA 1 h0 h' v [x] 1 → Upd (fun _ => False) h h' → (∀ i, SlAt v i → h.length ≤ i) → K v h') : pBuildSl 1 1 zeros [(0, 1, x)] h K := by
  unfold pBuildSl
  rw [hf]
  refine ⟨rfl, hk _ _ ⟨U.trans (Upd.app _ _) fun _ _ h => h, .inr ⟨h.length, newBlk [x] 1 true, rfl, by simp, rfl, rfl, rfl, Nat.le_refl _, rfl, rfl⟩, fun i hi => ?_⟩ (Upd.app _ _) fun i hi => ?_⟩
  · cases hi; exact U.1
  · cases hi; exact Nat.le_refl _
end Go.GAM
namespace Go.Proofs.YtomghnmoomodiaaGreatDoor
open Go.GAM Go.RowKit

def nat10 (l : List UInt8) : Nat := l.foldl (fun n c => n * 10 + (c.toNat - 48)) 0
theorem nat10_snoc (l : List UInt8) (c : UInt8) : nat10 (l ++ [c]) = nat10 l * 10 + (c.toNat - 48) := by simp [nat10]
theorem nat10_bd : ∀ n (l : List UInt8), l.length = n → l.all digB = true → nat10 l < 10 ^ n := by
  intro n
  induction n with
  | zero => intro l hl _; rw [List.eq_nil_of_length_eq_zero hl]; decide
  | succ n ih =>
    intro l hl ha
    have hne : l ≠ [] := fun h => by rw [h] at hl; simp at hl
    have e := List.dropLast_concat_getLast hne
    rw [← e, List.all_append, Bool.and_eq_true] at ha
    have h1 := ih l.dropLast (by rw [List.length_dropLast]; omega) ha.1
    have h2 := ha.2
    simp only [List.all_cons, List.all_nil, Bool.and_true] at h2
    have h2 := digB_bd h2
    rw [← e, nat10_snoc, Nat.pow_succ]
    omega
def lead0 (s : List UInt8) : Prop := s.getD 0 0 = 48 ∧ 1 < s.length
instance (s : List UInt8) : Decidable (lead0 s) := by unfold lead0; infer_instance
def decN (s : List UInt8) : Option Nat := if s ≠ [] ∧ s.length ≤ 9 ∧ ¬ lead0 s ∧ s.all digB = true ∧ nat10 s < 268435456 then some (nat10 s) else none

/-- The bytes of a number to the base 128: k that go on, then the last. -/
def arcK : Nat → Nat → List UInt8
  | 0, n => [UInt8.ofNat (n % 128)]
  | k + 1, n => UInt8.ofNat (n / 2 ^ (7 * (k + 1)) % 128 + 128) :: arcK k n
def arcN (n : Nat) : Nat := if n < 128 then 0 else if n < 16384 then 1 else if n < 2097152 then 2 else 3
def arcS (n : Nat) : List UInt8 := arcK (arcN n) n

def decAll : List (List UInt8) → Option (List Nat)
  | [] => some []
  | w :: r => match decN w with
    | none => none
    | some n => match decAll r with
      | none => none
      | some l => some (n :: l)
def oidL (l : List Nat) : Except Int (List UInt8) := match l with
  | a :: b :: r => if 2 < a ∨ (a < 2 ∧ 40 ≤ b) ∨ 268435456 ≤ 40 * a + b then .error 2 else .ok (((40 * a + b) :: r).flatMap arcS)
  | _ => .error 2
def oidOfS (s : List UInt8) : Except Int (List UInt8) :=
  if 256 < s.length then .error 3 else match decAll (splitS 46 s) with
    | none => .error 2
    | some l => oidL l

theorem decAll_cons (w : List UInt8) (r : List (List UInt8)) : decAll (w :: r) = match decN w with
    | none => none
    | some n => match decAll r with
      | none => none
      | some l => some (n :: l) := by rw [decAll]
theorem oidL_short {l : List Nat} (h : l.length < 2) : oidL l = .error 2 := by
  match l, h with
  | [], _ => rfl
  | [a], _ => rfl
theorem two_of {l : List Nat} (h : ¬ l.length < 2) : ∃ a b r, l = a :: b :: r := by
  match l, h with
  | [], h => simp at h
  | [a], h => simp at h
  | a :: b :: r, _ => exact ⟨a, b, r, rfl⟩
theorem decN_bd {s : List UInt8} {n : Nat} (h : decN s = some n) : n < 268435456 := by
  unfold decN at h
  split at h
  · rename_i hc; cases h; exact hc.2.2.2.2
  · cases h
theorem decAll_bd : ∀ {ws : List (List UInt8)} {l : List Nat}, decAll ws = some l → (∀ n ∈ l, n < 268435456) ∧ l.length = ws.length
  | [], l, h => by cases h; simp
  | w :: r, l, h => by
    unfold decAll at h
    split at h
    · cases h
    · rename_i n hn
      split at h
      · cases h
      · rename_i l' hl
        cases h
        have := decAll_bd hl
        refine ⟨fun m hm => ?_, by simp [this.2]⟩
        rcases List.mem_cons.1 hm with rfl | hm
        · exact decN_bd hn
        · exact this.1 m hm

section
variable {h0 : AHeap} {Q : AV → AHeap → Prop}

def NOut (h : AHeap) (Q : AV → AHeap → Prop) : Option Nat → Prop
  | some n => Q (.tu [.i .i64 (n : Int), .b true]) h
  | none => ∀ x, Q (.tu [.i .i64 x, .b false]) h

theorem number_c {s : List UInt8} {h : AHeap} (hq : NOut h Q (decN s)) : C G_der_number.id [.s s] h Q := by
  refine G_der_number.call ?_
  simp only [G_der_number.t, G_der_number.j0]
  have p0bad : decN s = none → G_der_number.p0 (kRet h Q) s true h := by
    intro hn
    rw [hn] at hq
    refine G_der_number.i0 ?_
    simp only [G_der_number.t0]
    exact bif_t rfl (.inl (hq 0))
  have p0ok : s ≠ [] → s.length ≤ 9 → ¬ lead0 s → G_der_number.p0 (kRet h Q) s false h := by
    intro hne hl h48
    have go : ∀ (r : List UInt8) (i : Nat), s.drop i = r → i ≤ s.length → (s.take i).all digB = true → G_der_number.p1 (kRet h Q) s (nat10 (s.take i) : Nat) s.length i h := by
      intro r
      induction r with
      | nil =>
        intro i hr hi ha
        have hle := drop_end hr
        rw [List.take_of_length_le hle] at ha ⊢
        have hb := nat10_bd s.length s rfl ha
        have hp : 10 ^ s.length ≤ 10 ^ 9 := Nat.pow_le_pow_right (by omega) hl
        refine G_der_number.i1 ?_
        simp only [G_der_number.t1]
        refine bif_f (by simp; omega) (.inl ?_)
        unfold decN at hq
        by_cases h28 : nat10 s < 268435456
        · rw [if_pos ⟨hne, hl, h48, ha, h28⟩] at hq
          rw [decide_eq_true (by omega)]; exact hq
        · rw [if_neg (fun hh => h28 hh.2.2.2.2)] at hq
          rw [decide_eq_false (by omega)]; exact hq _
      | cons c r ih =>
        intro i hr hi ha
        have hlt := drop_lt hr
        have hn := drop_next hr
        have hci := at_of_drop hr
        have hb := nat10_bd i (s.take i) (by rw [List.length_take]; omega) ha
        have hp : 10 ^ i ≤ 10 ^ 9 := Nat.pow_le_pow_right (by omega) (by omega)
        have p2 : ∀ b, b = !digB c → G_der_number.p2 (kRet h Q) s (nat10 (s.take i) : Nat) i s.length i b h := by
          intro b hb2
          refine G_der_number.i2 ?_
          simp only [G_der_number.t2, G_der_number.j1]
          cases hd : digB c with
          | false =>
            rw [hd] at hb2
            have : decN s = none := by
              unfold decN
              rw [if_neg (fun hh => ?_)]
              have h3 := hh.2.2.2.1
              rw [← List.take_append_drop i s, List.all_append, hr, List.all_cons, hd] at h3
              simp at h3
            rw [this] at hq
            exact bif_t hb2 (.inl (hq 0))
          | true =>
            rw [hd] at hb2
            have hdb := digB_bd hd
            refine bif_f hb2 ?_
            refine withI_is (n := ((nat10 (s.take i) * 10 : Nat) : Int)) (by rw [wrap_i64 (by omega) (by omega)]; omega) (st_at hr ?_)
            refine withI_is (n := ((c.toNat - 48 : Nat) : Int)) (by rw [wrap_u8 (by omega) (by omega)]; omega) ?_
            refine withI_is (n := ((nat10 (s.take (i + 1)) : Nat) : Int)) ?_ (inc (by omega) (ih (i + 1) hn (by omega) ?_))
            · rw [take_snoc hci, nat10_snoc, wrap_i64 (n := ((c.toNat - 48 : Nat) : Int)) (by omega) (by omega), wrap_i64 (by omega) (by omega)]; omega
            · rw [take_snoc hci, List.all_append, ha]; simp [hd]
        unfold digB at p2
        refine G_der_number.i1 ?_
        simp only [G_der_number.t1, G_der_number.j2]
        refine bif_t (by simp; omega) (st_at hr ?_)
        refine bif_both (fun e => p2 _ ?_) fun e => st_at hr (p2 _ ?_)
        · simp only [decide_eq_true_eq] at e
          rw [decide_eq_false (by omega : ¬ 48 ≤ c.toNat)]; rfl
        · simp only [decide_eq_false_iff_not] at e
          rw [decide_eq_true (by omega : 48 ≤ c.toNat), Bool.true_and, ← decide_not, decide_eq_decide]; omega
    refine G_der_number.i0 ?_
    simp only [G_der_number.t0, G_der_number.j1]
    exact bif_f rfl (go s 0 rfl (by omega) rfl)
  by_cases hne : s = []
  · exact bif_t (by simp [hne]) (p0bad (by unfold decN; rw [if_neg (fun hh => hh.1 hne)]))
  refine bif_f (by simp [hne]) ?_
  by_cases hl : 9 < s.length
  · exact bif_t (by simp; omega) (p0bad (by unfold decN; rw [if_neg (fun hh => by have := hh.2.1; omega)]))
  refine bif_f (by simp; omega) ?_
  obtain ⟨c, hc⟩ : ∃ c, s[0]? = some c := ⟨_, List.getElem?_eq_getElem (List.length_pos_iff.2 hne)⟩
  have hg : s.getD 0 0 = c := getD_some hc
  refine idxStr (i := 0) hc ?_
  rw [show (48 : Int) = (((48 : UInt8).toNat : Nat) : Int) from rfl, eq_byte]
  by_cases h48 : c = 48
  · refine bif_t (by simp [h48]) ?_
    by_cases h1 : 1 < s.length
    · rw [decide_eq_true (by omega)]
      refine p0bad ?_
      unfold decN
      rw [if_neg (fun hh => hh.2.2.1 ⟨by rw [hg, h48], h1⟩)]
    · rw [decide_eq_false (by omega)]
      exact p0ok hne (by omega) (fun hh => h1 hh.2)
  · refine bif_f (by simp [h48]) (p0ok hne (by omega) (fun hh => h48 (by rw [← hg]; exact hh.1)))

/-! ### OidOf -/

/-- What OidOf hands back. -/
def oidR : Except Int (List UInt8) → AV
  | .error e => .tu [.ag z5, .i .i64 e]
  | .ok l => .tu [.ag (leafC 0 6 false l), .i .i64 0]

theorem and127 {x : Nat} (hx : x < 2 ^ 62) : bitsOp .and .i64 (x : Int) 127 = ((x % 128 : Nat) : Int) := bits_and_mod (n := 7) hx (by omega)
theorem or128 {x : Nat} (hx : x < 128) : bitsOp .or .i64 (x : Int) 128 = ((x + 128 : Nat) : Int) := by
  have h : ∀ x, x < 128 → x ||| 128 = x + 128 := by decide +kernel
  have := bits_or (x := x) (y := 128) (by omega) (by omega)
  rw [h x hx] at this
  exact this

/-- A value is stored and handed back in a tuple. -/
theorem ret_tu {h h1 hx : AHeap} {id : Nat} {z : List AV} {c t e : Int} {s : List UInt8} (hz : z.length = 5) (R : RecAt hx id z) (hid : h.length ≤ id) (U : Upd (fun _ => False) h hx) (hq : ∀ h', Upd (fun _ => False) h h' → Q (.tu [.ag (leafC c t false s), .i .i64 e]) h') :
    pStore 5 (.p (some ⟨id, 5, 0⟩)) (.ag [.i .i64 c, .i .i64 t, .b false, .s s, .sl none 0 none]) hx fun h5 => pLoadN 5 (.p (some ⟨id, 5, 0⟩)) h5 fun v7 => kRet h Q (.tu [v7, .i .i64 e]) h5 := by
  refine st_storeN R hz.symm rfl rfl fun h5 hl5 U5 R5 => st_loadN R5 rfl (.inl (hq h5 ?_))
  exact (U.trans U5 fun i hi he => absurd he (by omega))

theorem oid_p2 {h h1 h2 : AHeap} {id : Nat} {w : AV} {l : List Nat} (hid : h.length ≤ id) (U1 : Upd (fun _ => False) h h1) (U2 : Upd (fun _ => False) h h2) (R : RecAt h2 id z5) (W : Rd 1 h2 w (l.map num) l.length) (hll : l.length ≤ 1000) (hb : ∀ n ∈ l, n < 268435456)
    (hq : ∀ h', Upd (fun _ => False) h h' → Q (.tu [.ag (leafC 0 6 false (l.flatMap arcS)), .i .i64 0]) h') :
    ∀ (r : List Nat) (i : Nat) (v : AV) (o : List UInt8) (hx : AHeap), l.drop i = r → i ≤ l.length → o.length ≤ 4 * i → o ++ r.flatMap arcS = l.flatMap arcS → Tx h2 hx v o → G_der_OidOf.p2 (kRet h Q) (.p (some ⟨id, 5, 0⟩)) v w l.length i hx := by
  intro r
  induction r with
  | nil =>
    intro i v o hx hr hi hol ho T
    have hle := drop_end hr
    refine G_der_OidOf.i2 ?_
    simp only [G_der_OidOf.t2]
    rw [List.flatMap_nil, List.append_nil] at ho
    subst ho
    exact bif_f (by simp; omega) (T.str (ret_tu (h1 := h1) rfl (R.upd T.upd fun h => h) hid (U2.trans T.upd fun _ _ h => h) hq))
  | cons n r ih =>
    intro i v o hx hr hi hol ho T
    have hlt := drop_lt hr
    have hn := drop_next hr
    have hni := at_of_drop hr
    have hnb := hb n (List.mem_of_getElem? hni)
    have W' := W.upd T.upd fun _ _ h => h
    rw [List.flatMap_cons] at ho
    -- the bytes
    have p4 : ∀ (k : Nat) (v : AV) (o' : List UInt8) (hx : AHeap), k ≤ 3 → o'.length + k ≤ 4 * i + 3 → o' ++ arcK k n = o ++ arcS n → Tx h2 hx v o' → G_der_OidOf.p4 (kRet h Q) (.p (some ⟨id, 5, 0⟩)) v n k w l.length i hx := by
      intro k
      induction k with
      | zero =>
        intro v o' hx hk hol' ho' T
        refine G_der_OidOf.i4 ?_
        simp only [G_der_OidOf.t4, G_der_OidOf.j2]
        refine bif_f (by simp) (withI_is (and127 (by omega)) ?_)
        rw [wrap_u8_nat, Nat.mod_eq_of_lt (show n % 128 < 256 by omega)]
        have e : ((n % 128 : Nat) : Int) = ((UInt8.ofNat (n % 128)).toNat : Int) := by rw [UInt8.toNat_ofNat']; omega
        rw [e]
        refine T.push (by omega) fun v' h' T' => inc (by omega) (ih (i + 1) v' _ h' hn (by omega) (by simp; omega) ?_ T')
        rw [show o' ++ [UInt8.ofNat (n % 128)] = o ++ arcS n from ho', List.append_assoc]
        exact ho
      | succ k ihk =>
        intro v o' hx hk hol' ho' T
        refine G_der_OidOf.i4 ?_
        simp only [G_der_OidOf.t4, G_der_OidOf.j4]
        refine bif_t (by simp) ?_
        refine withI_is (n := ((7 * (k + 1) : Nat) : Int)) (by rw [wrap_i64 (by omega) (by omega)]; omega) (st_shr (k := .i64) (by show 7 * (k + 1) ≤ 64; omega) ?_)
        have hd : n / 2 ^ (7 * (k + 1)) ≤ n := Nat.div_le_self _ _
        unfold arcK at ho'
        generalize n / 2 ^ (7 * (k + 1)) = y at hd ho'
        refine withI_is (and127 (by omega)) (withI_is (or128 (Nat.mod_lt _ (by omega))) ?_)
        have hm : y % 128 < 128 := Nat.mod_lt _ (by omega)
        rw [wrap_u8_nat, Nat.mod_eq_of_lt (show y % 128 + 128 < 256 by omega)]
        have e : ((y % 128 + 128 : Nat) : Int) = ((UInt8.ofNat (y % 128 + 128)).toNat : Int) := by rw [UInt8.toNat_ofNat']; omega
        rw [e]
        refine T.push (by omega) fun v' h' T' => withI_is (n := (k : Int)) (by rw [wrap_i64 (by omega) (by omega)]; omega) (ihk v' _ h' (by omega) (by simp; omega) ?_ T')
        rw [← ho']; simp
    have hk3 : arcN n ≤ 3 := by unfold arcN; repeat' split
                                all_goals omega
    have p3 : ∀ m k, k + m = arcN n → G_der_OidOf.p3 (kRet h Q) (.p (some ⟨id, 5, 0⟩)) v n k w l.length i hx := by
      intro m
      induction m with
      | zero =>
        intro k hk
        have hk : k = arcN n := by omega
        refine G_der_OidOf.i3 ?_
        simp only [G_der_OidOf.t3, G_der_OidOf.j4]
        refine inc (by omega) (withI_is (n := ((7 * (k + 1) : Nat) : Int)) (by rw [wrap_i64 (by omega) (by omega)]; omega) (st_shr (k := .i64) (by show 7 * (k + 1) ≤ 64; omega) ?_))
        have : n / 2 ^ (7 * (k + 1)) = 0 := by
          apply Nat.div_eq_of_lt
          rw [hk]
          unfold arcN
          repeat' split
          all_goals omega
        rw [this]
        refine bif_f rfl (p4 k v o hx (by omega) (by omega) ?_ T)
        unfold arcS; rw [hk]
      | succ m ihm =>
        intro k hk
        refine G_der_OidOf.i3 ?_
        simp only [G_der_OidOf.t3, G_der_OidOf.j3]
        refine inc (by omega) (withI_is (n := ((7 * (k + 1) : Nat) : Int)) (by rw [wrap_i64 (by omega) (by omega)]; omega) (st_shr (k := .i64) (by show 7 * (k + 1) ≤ 64; omega) ?_))
        have : 0 < n / 2 ^ (7 * (k + 1)) := by
          apply Nat.div_pos _ (Nat.two_pow_pos _)
          have hk' : k < arcN n := by omega
          unfold arcN at hk'
          have : k = 0 ∨ k = 1 ∨ k = 2 := by
            revert hk'
            repeat' split
            all_goals omega
          rcases this with rfl | rfl | rfl
          · split at hk' <;> omega
          · split at hk'
            · omega
            · split at hk' <;> omega
          · split at hk'
            · omega
            · split at hk'
              · omega
              · split at hk' <;> omega
        refine bif_t (by rw [decide_eq_true_eq]; generalize n / 2 ^ (7 * (k + 1)) = y at this; omega) (inc (by omega) (ihm (k + 1) (by omega)))
    refine G_der_OidOf.i2 ?_
    simp only [G_der_OidOf.t2, G_der_OidOf.j3]
    exact bif_t (by simp; omega) (W'.nat hlt hni (p3 (arcN n) 0 (by omega)))

theorem oidOf_c {s : List UInt8} {h : AHeap} (hq : ∀ h', Upd (fun _ => False) h h' → Q (oidR (oidOfS s)) h') : C G_der_OidOf.id [.s s] h Q := by
  refine G_der_OidOf.call ?_
  simp only [G_der_OidOf.t, G_der_OidOf.j0]
  refine st_alloc fun h1 hl1 U1 R => ?_
  unfold oidOfS at hq
  by_cases hl : 256 < s.length
  · rw [if_pos hl] at hq
    exact bif_t (by simp; omega) (ret_tu (h1 := h1) rfl R (Nat.le_refl _) U1 hq)
  rw [if_neg hl] at hq
  refine bif_f (by simp; omega) (split_c (sp := 46) (by omega) fun w h2 S => ?_)
  have hsl := split_len (sp := 46) s
  have hcb : Lib.countByte s 46 ≤ s.length := List.count_le_length
  have W := S.stk.rd
  rw [List.length_map] at W
  have R2 := R.upd S.upd fun h => h
  have U2 := U1.trans S.upd fun _ _ h => h
  refine W.len ?_
  generalize splitS 46 s = ws at *
  have bad : ∀ hx, Upd (fun _ => False) h2 hx → decAll ws = none → pStore 5 (.p (some ⟨h.length, 5, 0⟩)) (.ag [.i .i64 0, .i .i64 0, .b false, .s [], .sl none 0 none]) hx fun h5 => pLoadN 5 (.p (some ⟨h.length, 5, 0⟩)) h5 fun v7 => kRet h Q (.tu [v7, .i .i64 2]) h5 := by
    intro hx U hd
    rw [hd] at hq
    exact ret_tu (h1 := h1) rfl (R2.upd U fun h => h) (Nat.le_refl _) (U2.trans U fun _ _ h => h) hq
  have go : ∀ (r : List (List UInt8)) (i : Nat) (done : List Nat) (v : AV) (hx : AHeap), ws.drop i = r → i ≤ ws.length → done.length = i → (decAll ws = match decAll r with | none => none | some l => some (done ++ l)) → NewA 1 h2 hx v (done.map num) done.length → G_der_OidOf.p0 (kRet h Q) (.p (some ⟨h.length, 5, 0⟩)) v w ws.length i hx := by
    intro r
    induction r with
    | nil =>
      intro i done v hx hr hi hdl hd A
      have hle := drop_end hr
      have hd : decAll ws = some done := by rw [hd]; simp [decAll]
      rw [hd] at hq
      have hbd := (decAll_bd hd).1
      have R3 := R2.upd A.upd fun h => h
      have U3 := U2.trans A.upd fun _ _ h => h
      refine G_der_OidOf.i0 ?_
      simp only [G_der_OidOf.t0, G_der_OidOf.j1]
      refine bif_f (by simp; omega) (A.arr.rd.len ?_)
      -- a wrong list
      have p1bad : oidL done = .error 2 → G_der_OidOf.p1 (kRet h Q) (.p (some ⟨h.length, 5, 0⟩)) v true hx := by
        intro he
        have hq : ∀ h', Upd (fun _ => False) h h' → Q (oidR (oidL done)) h' := hq
        rw [he] at hq
        refine G_der_OidOf.i1 ?_
        simp only [G_der_OidOf.t1]
        exact bif_t rfl (ret_tu (h1 := h1) rfl R3 (Nat.le_refl _) U3 hq)
      have p1ok : ∀ a b l, done = a :: b :: l → ¬ (2 < a ∨ (a < 2 ∧ 40 ≤ b) ∨ 268435456 ≤ 40 * a + b) → G_der_OidOf.p1 (kRet h Q) (.p (some ⟨h.length, 5, 0⟩)) v false hx := by
        intro a b l hdone hg
        have ha := hbd a (by rw [hdone]; simp)
        have hb := hbd b (by rw [hdone]; simp)
        have hq : ∀ h', Upd (fun _ => False) h h' → Q (oidR (oidL done)) h' := hq
        have he : oidL done = .ok (((40 * a + b) :: l).flatMap arcS) := by
          rw [hdone]; unfold oidL; simp only; rw [if_neg hg]
        rw [he] at hq
        obtain ⟨id, ver, off, cap, blk, hv, RA⟩ := A.arr.rd.at (by rw [hdone]; simp)
        have hidv : h2.length ≤ id := A.new id (by rw [hv]; rfl)
        have h0' : done[0]? = some a := by rw [hdone]; rfl
        have h1' : done[1]? = some b := by rw [hdone]; rfl
        have hlen2 : 2 ≤ done.length := by rw [hdone]; simp
        rw [hv]
        refine G_der_OidOf.i1 ?_
        simp only [G_der_OidOf.t1, G_der_OidOf.j2]
        refine bif_f rfl (st_idx RA (i := 0) (by omega) (st_num RA (by omega) h0' ?_))
        refine withI_is (n := ((40 * a : Nat) : Int)) (by rw [wrap_i64 (by omega) (by omega)]; omega) (st_idx RA (i := 1) (by omega) (st_num RA (by omega) h1' ?_))
        refine withI_is (n := ((40 * a + b : Nat) : Int)) (by rw [wrap_i64 (by omega) (by omega)]; omega) ?_
        refine RA.drop Nat.one_pos (lo := 2) hlen2 ?_
        refine NewA.one (Upd.refl _ _) (x := num (40 * a + b)) rfl fun v2 h3 A2 Ux Fx => ?_
        have RA3 := RA.upd Ux fun h => h
        refine RA3.drop Nat.one_pos (lo := 2) hlen2 ⟨rfl, st_num RA3 (by omega) h1' ⟨rfl, st_idx RA3 (i := 1) (by omega) ⟨rfl, st_num RA3 (by omega) h0' ⟨rfl, st_idx RA3 (i := 0) (by omega) ⟨rfl, ?_⟩⟩⟩⟩⟩
        have RD := RA3.dropRd (lo := 2) hlen2 (cap.map (· - 2))
        have hdr : (done.map num).drop (2 * 1) = l.map num := by rw [hdone]; rfl
        rw [hdr] at RD
        refine A2.append Nat.one_pos (ns := l.map num) (k := done.length - 2) (fun K hK => RD.news hK) (by rw [hdone]; simp) (by simp [num, AV.cellOK]) (by omega) (by omega) fun v3 h4 A3 Uy => ?_
        have RA4 := RA3.upd Uy fun hs => by have := Fx id hs; have := RA.lt; omega
        refine st_num RA4 (by omega) h1' ⟨rfl, st_idx RA4 (i := 1) (by omega) ⟨rfl, st_num RA4 (by omega) h0' ⟨rfl, st_idx RA4 (i := 0) (by omega) ⟨rfl, A3.arr.rd.len ?_⟩⟩⟩⟩
        have U4 := A3.upd
        have e : 1 + (done.length - 2) = ((40 * a + b) :: l).length := by rw [hdone]; simp; omega
        rw [e]
        refine oid_p2 (l := (40 * a + b) :: l) (h1 := h1) (Nat.le_refl _) U1 (U3.trans U4 fun _ _ h => h) (R3.upd U4 fun h => h) ?_ ?_ ?_ hq _ 0 _ [] h4 rfl (by omega) (by simp) rfl (Tx.start h4)
        · have := A3.arr.rd
          rw [e] at this
          exact this
        · rw [← e]; omega
        · intro n hn
          rcases List.mem_cons.1 hn with rfl | hn
          · omega
          · exact hbd n (by rw [hdone]; simp [hn])
      by_cases hl2 : done.length < 2
      · exact bif_t (by simp; omega) (p1bad (oidL_short hl2))
      refine bif_f (by simp; omega) ?_
      obtain ⟨a, b, l, hdone⟩ := two_of hl2
      have h0' : done[0]? = some a := by rw [hdone]; rfl
      have h1' : done[1]? = some b := by rw [hdone]; rfl
      have ha := hbd a (by rw [hdone]; simp)
      have hb := hbd b (by rw [hdone]; simp)
      have p1 : ∀ bb : Bool, (bb = true ↔ (2 < a ∨ (a < 2 ∧ 40 ≤ b) ∨ 268435456 ≤ 40 * a + b)) → G_der_OidOf.p1 (kRet h Q) (.p (some ⟨h.length, 5, 0⟩)) v bb hx := by
        intro bb hbb
        cases bb with
        | true =>
          refine p1bad ?_
          rw [hdone]; unfold oidL; simp only
          rw [if_pos (hbb.1 rfl)]
        | false => exact p1ok a b l hdone (fun hh => by have := hbb.2 hh; cases this)
      have RV := A.arr.rd
      refine RV.nat (i := 0) (by omega) h0' ?_
      refine bif_both (fun e1 => p1 _ ?_) fun e1 => RV.nat (i := 0) (by omega) h0' ?_
      · simp only [decide_eq_true_eq] at e1; simp; omega
      simp only [decide_eq_false_iff_not] at e1
      have fin : ∀ K : Int → Prop, K ((40 * a + b : Nat) : Int) → pIdxAddrSl 1 v (.i .i64 0) hx fun v52 => pLoad1 v52 hx fun v53 => asI .i64 v53 fun n54 => withI (IntKind.wrap .i64 (40 * n54)) fun n55 => pIdxAddrSl 1 v (.i .i64 1) hx fun v56 => pLoad1 v56 hx fun v57 => asI .i64 v57 fun n58 => withI (IntKind.wrap .i64 (n55 + n58)) K := by
        intro K hK
        refine RV.nat (i := 0) (by omega) h0' ?_
        refine withI_is (n := ((40 * a : Nat) : Int)) (by rw [wrap_i64 (by omega) (by omega)]; omega) (RV.nat (i := 1) (by omega) h1' ?_)
        exact withI_is (n := ((40 * a + b : Nat) : Int)) (by rw [wrap_i64 (by omega) (by omega)]; omega) hK
      refine bif_both (fun e2 => RV.nat (i := 1) (by omega) h1' ?_) fun e2 => fin _ (p1 _ ?_)
      · simp only [decide_eq_true_eq] at e2
        refine bif_both (fun e3 => p1 _ ?_) fun e3 => fin _ (p1 _ ?_)
        · simp only [decide_eq_true_eq] at e3; simp; omega
        · simp only [decide_eq_false_iff_not] at e3
          rw [decide_eq_true_eq]; omega
      · simp only [decide_eq_false_iff_not] at e2
        rw [decide_eq_true_eq]; omega
    | cons x r ih =>
      intro i done v hx hr hi hdl hd A
      have hlt := drop_lt hr
      have hn := drop_next hr
      have hxi := at_of_drop hr
      have W' := W.upd A.upd fun _ _ h => h
      refine G_der_OidOf.i0 ?_
      simp only [G_der_OidOf.t0, G_der_OidOf.j0]
      refine bif_t (by simp; omega) (W'.str hxi (number_c ?_))
      rw [decAll_cons] at hd
      cases hx2 : decN x with
      | none =>
        rw [hx2] at hd
        intro y
        show pExtract 0 (.tu [.i .i64 y, .b false]) _
        refine st_ext0 (st_asI (st_ext1 (st_asB (bif_t rfl (bad hx A.upd (by rw [hd]))))))
      | some n =>
        rw [hx2] at hd
        simp only at hd
        unfold NOut
        show pExtract 0 (.tu [.i .i64 (n : Int), .b true]) _
        refine st_ext0 (st_asI (st_ext1 (st_asB (bif_f rfl ?_))))
        refine NewA.build A (by decide) (ns := [num n]) rfl rfl rfl (by omega) (by omega) fun v' h' A' => inc (by omega) (ih (i + 1) (done ++ [n]) v' h' hn (by omega) (by simp [hdl]) ?_ ?_)
        · rw [hd]
          cases decAll r with
          | none => rfl
          | some l => simp
        · rw [List.map_append, List.length_append]; exact A'
  exact go ws 0 [] _ h2 rfl (by omega) rfl (by cases decAll ws <;> simp) (NewA.start 1 h2)

end
end Go.Proofs.YtomghnmoomodiaaGreatDoor

/- Oid, the program's. -/
set_option linter.unusedVariables false
set_option linter.unusedSimpArgs false
set_option linter.unusedSectionVars false
set_option maxRecDepth 20000
namespace Go.Proofs.YtomghnmoomodiaaGreatDoor
open Go.GAM Go.RowKit

section
variable {h0 : AHeap} {Q : AV → AHeap → Prop}

theorem oid_p4 {l : List Nat} {w : AV} {h hx : AHeap} (E : Ext h hx) (W : Rd 1 hx w (l.map num) l.length) (hl : l.length ≤ 100000) (hb : ∀ n ∈ l, n < 268435456) : ∀ (r : List Nat) (i : Nat) (x : List UInt8), l.drop i = r → i ≤ l.length → x.length ≤ 30 + 11 * i →
    Q (.tu [.s (x ++ r.flatMap fun n => 46 :: Lib.decDigits n), .b true]) h → G_der_Oid.p4 (kRet h Q) x w l.length i hx := by
  intro r
  induction r with
  | nil =>
    intro i x hr hi hxl hq
    have hle := drop_end hr
    refine G_der_Oid.i4 ?_
    simp only [G_der_Oid.t4]
    refine bif_f (by simp; omega) (kRet_pure rfl E ?_)
    simpa using hq
  | cons n r ih =>
    intro i x hr hi hxl hq
    have hlt := drop_lt hr
    have hn := drop_next hr
    have hni := at_of_drop hr
    have hnb := hb n (List.mem_of_getElem? hni)
    have d1 := decDigits_len (n := n) (by omega)
    refine G_der_Oid.i4 ?_
    simp only [G_der_Oid.t4, G_der_Oid.j4]
    refine bif_t (by simp; omega) (W.nat hlt hni (itoa_c (by omega) (st_asS ⟨by simp; omega, ⟨by simp; omega, inc (by omega) ?_⟩⟩)))
    refine ih (i + 1) _ hn (by omega) (by simp; omega) ?_
    simpa [List.flatMap_cons] using hq

theorem or_add {x y : Nat} (hy : y < 128) (hx : x < 268435456) : bitsOp .or .i64 ((x * 128 : Nat) : Int) (y : Int) = ((x * 128 + y : Nat) : Int) := by
  rw [bits_or (by omega) (by omega)]
  have := Nat.two_pow_add_eq_or_of_lt (i := 7) (b := y) (by omega) x
  rw [Nat.mul_comm x 128, this]

theorem oid_loop {s : List UInt8} {cs : List AV} {h h1 : AHeap} {id : Nat} (E : Ext h h1) (B : RecAt h1 id cs) (hcl : cs.length = 5) (hc3 : cs[3]? = some (.s s)) (hs : s.length ≤ 100000) (hne : s ≠ []) :
    ∀ (r : List UInt8) (i n : Nat) (begun : Bool) (done : List Nat) (v : AV) (hx : AHeap), s.drop i = r → i ≤ s.length → n < 268435456 → (begun = false → i = 0 ∨ done ≠ []) → done.length ≤ i → (∀ m ∈ done, m < 268435456) → NewA 1 h1 hx v (done.map num) done.length →
    Q (oidT (oidX (oidD r n begun) done)) h → G_der_Oid.p1 (kRet h Q) (.p (some ⟨id, 5, 0⟩)) v n begun s.length i hx := by
  intro r
  induction r with
  | nil =>
    intro i n begun done v hx hr hi hn hb hd hbd A hq
    have hle := drop_end hr
    have Ex := E.trans A.upd.ext
    refine G_der_Oid.i1 ?_
    simp only [G_der_Oid.t1, G_der_Oid.j4]
    refine bif_f (by simp; omega) ?_
    cases begun with
    | true => exact bif_t rfl (kRet_pure rfl Ex hq)
    | false =>
      have hlp := List.length_pos_iff.2 hne
      have hdn : done ≠ [] := by
        rcases hb rfl with h | h
        · omega
        · exact h
      obtain ⟨z, dn, hdone⟩ : ∃ z dn, done = z :: dn := by
        cases done with
        | nil => exact absurd rfl hdn
        | cons z dn => exact ⟨z, dn, rfl⟩
      have hzb := hbd z (by rw [hdone]; simp)
      have hdl : done.length = dn.length + 1 := by rw [hdone]; simp
      obtain ⟨id', ver, off, cap, blk, hv, RA⟩ := A.arr.rd.at (by omega)
      have hz0 : done[0]? = some z := by rw [hdone]; rfl
      have d1 := decDigits_len (n := min (z / 40) 2) (by omega)
      have d2 := decDigits_len (n := z - 40 * min (z / 40) 2) (by omega)
      rw [hv]
      refine bif_f rfl (st_idx RA (i := 0) (by omega) (st_num RA (by omega) hz0 (quo_n (b := 40) (by omega) (by omega) ?_)))
      rw [show mmI false 2 ((z / 40 : Nat) : Int) = ((min (z / 40) 2 : Nat) : Int) by rw [Nat.min_comm]; exact mmI_min 2 _]
      refine st_idx RA (i := 0) (by omega) (st_num RA (by omega) hz0 ?_)
      refine withI_is (n := ((40 * min (z / 40) 2 : Nat) : Int)) (by rw [wrap_i64 (by omega) (by omega)]; omega) ?_
      refine withI_is (n := ((z - 40 * min (z / 40) 2 : Nat) : Int)) (by rw [wrap_i64 (by omega) (by omega)]; omega) ?_
      refine itoa_c (by omega) (st_asS (st_num RA (by omega) hz0 ⟨rfl, st_idx RA (i := 0) (by omega) ⟨rfl, ⟨by simp; omega, ?_⟩⟩⟩))
      refine itoa_c (by omega) (st_asS (st_num RA (by omega) hz0 ⟨rfl, st_idx RA (i := 0) (by omega) ⟨rfl, ⟨by simp; omega, ?_⟩⟩⟩))
      have RD := RA.dropRd (lo := 1) (by omega) (cap.map (· - 1))
      have hdr : (done.map num).drop (1 * 1) = dn.map num := by rw [hdone]; rfl
      rw [hdr, show done.length - 1 = dn.length by omega] at RD
      refine RA.drop Nat.one_pos (lo := 1) (by omega) ?_
      rw [show done.length - 1 = dn.length by omega]
      refine RD.len (oid_p4 Ex RD (by omega) (fun m hm => hbd m (by rw [hdone]; simp [hm])) dn 0 _ rfl (by omega) (by simp; omega) ?_)
      have hq : Q (.tu [.s (oidTxt (done ++ [])), .b true]) h := hq
      rw [List.append_nil, hdone] at hq
      simpa [oidTxt] using hq
  | cons c r ih =>
    intro i n begun done v hx hr hi hn hb hd hbd A hq
    have hlt := drop_lt hr
    have hnx := drop_next hr
    have hci := at_of_drop hr
    have hc := c.toNat_lt
    have Ex := E.trans A.upd.ext
    have Bx := B.upd A.upd fun h => h
    have hm := Nat.mod_lt c.toNat (show 0 < 128 by omega)
    have p3 : ∀ (o : List Nat) (n' : Nat) (b' : Bool) (v' : AV) (h' : AHeap), n' < 268435456 → (b' = false → o ≠ []) → o.length ≤ i + 1 → (∀ m ∈ o, m < 268435456) → NewA 1 h1 h' v' (o.map num) o.length → Q (oidT (oidX (oidD r n' b') o)) h → G_der_Oid.p3 (kRet h Q) (.p (some ⟨id, 5, 0⟩)) v' n' b' s.length i h' := by
      intro o n' b' v' h' hn' hb' ho hob A' hq
      refine G_der_Oid.i3 ?_
      simp only [G_der_Oid.t3, G_der_Oid.j1]
      exact inc (by omega) (ih (i + 1) n' b' o v' h' hnx (by omega) hn' (fun hh => .inr (hb' hh)) ho hob A' hq)
    have p2 : ∀ b, b = decide (begun = false ∧ c.toNat = 128) → G_der_Oid.p2 (kRet h Q) (.p (some ⟨id, 5, 0⟩)) v n (c.toNat : Int) s.length i b hx := by
      intro b hbb
      unfold oidD at hq
      refine G_der_Oid.i2 ?_
      simp only [G_der_Oid.t2, G_der_Oid.j3]
      refine bif_both (fun e => ?_) fun e => ?_
      · subst e
        rw [if_pos (of_decide_eq_true hbb.symm)] at hq
        exact kRet_pure rfl Ex hq
      · subst e
        rw [if_neg (of_decide_eq_false hbb.symm)] at hq
        refine st_shlI (b := 7) (n := ((n * 128 : Nat) : Int)) (by omega) (by omega) (by omega) (by omega) ?_
        refine withI_is (and127 (by omega)) (withI_is (or_add hm hn) ?_)
        by_cases h28 : 268435456 ≤ n * 128 + c.toNat % 128
        · rw [if_pos h28] at hq
          exact bif_t (by simp; omega) (kRet_pure rfl Ex hq)
        rw [if_neg h28] at hq
        refine bif_f (by simp; omega) ?_
        by_cases h128 : 128 ≤ c.toNat
        · rw [if_pos h128] at hq
          have e128 : decide ((128 : Int) ≤ (c.toNat : Int)) = true := decide_eq_true (by omega)
          rw [e128]
          exact bif_f rfl (p3 done _ true v hx (by omega) (fun hh => by cases hh) (by omega) hbd A hq)
        rw [if_neg h128] at hq
        have e128 : decide ((128 : Int) ≤ (c.toNat : Int)) = false := decide_eq_false (by omega)
        rw [e128]
        generalize n * 128 + c.toNat % 128 = z at *
        have hq : Q (oidT (oidX (oidD r 0 false) (done ++ [z]))) h := by
          have : oidX (match oidD r 0 false with | none => none | some l => some (z :: l)) done = oidX (oidD r 0 false) (done ++ [z]) := by
            cases oidD r 0 false <;> simp [oidX]
          rw [← this]; exact hq
        refine bif_t rfl (NewA.build A (by decide) (ns := [num z]) rfl rfl rfl (by omega) (by omega) fun v' h' A' => ?_)
        refine p3 (done ++ [z]) 0 false v' h' (by omega) (fun _ => by simp) (by simp; omega) ?_ ?_ hq
        · intro m hm
          rcases List.mem_append.1 hm with h | h
          · exact hbd m h
          · simp at h; omega
        · rw [List.map_append, List.length_append]; exact A'
    refine G_der_Oid.i1 ?_
    simp only [G_der_Oid.t1, G_der_Oid.j2]
    refine bif_t (by simp; omega) (st_fld (st_load Bx hcl.symm hc3 (st_asS (st_at hr ?_))))
    rw [wrap_i64 (by omega) (by omega)]
    cases begun with
    | false => exact bif_t rfl (p2 _ (by rw [decide_eq_decide]; simp; omega))
    | true => exact bif_f rfl (p2 _ (by simp))

theorem oid_c {d : Der} {cs : List AV} {F : Nat → Prop} {h : AHeap} (D : DV h F d cs) (hs : d.data.length ≤ 100000) (hq : Q (oidT (oidS d)) h) : C G_der_Oid.id [.ag cs] h Q := by
  refine G_der_Oid.call ?_
  simp only [G_der_Oid.t, G_der_Oid.j0]
  refine D.box fun h1 hl1 U1 B D1 => st_loadN B D.len.symm ((plain_c D1 (st_asB ?_)))
  unfold oidS at hq
  have hc3 := D.dat
  have hcl := D.len
  generalize d.data = s at *
  refine bif_both (fun e => ?_) fun e => st_fld (st_load B hcl.symm hc3 (st_asS ?_))
  · refine G_der_Oid.i0 ?_
    simp only [G_der_Oid.t0]
    rw [if_neg (fun hh => by rw [hh.1] at e; cases e)] at hq
    exact bif_t rfl (kRet_pure rfl U1.ext hq)
  have hp : dPlain 6 d = true := by simpa using e
  refine G_der_Oid.i0 ?_
  simp only [G_der_Oid.t0, G_der_Oid.j1]
  by_cases hne : s = []
  · rw [if_neg (fun hh => hh.2 hne)] at hq
    exact bif_t (by simp [hne]) (kRet_pure rfl U1.ext hq)
  rw [if_pos ⟨hp, hne⟩] at hq
  refine bif_f (by simp [hne]) (st_fld (st_load B hcl.symm hc3 (st_asS ?_)))
  refine oid_loop U1.ext B hcl hc3 hs hne s 0 0 false [] _ h1 rfl (by omega) (by omega) (fun _ => .inl rfl) (by simp) (by simp) (NewA.start 1 h1) ?_
  have : oidX (oidD s 0 false) [] = (match oidD s 0 false with | none => ([], false) | some l => (oidTxt l, true)) := by
    cases oidD s 0 false <;> rfl
  rw [this]; exact hq

end
end Go.Proofs.YtomghnmoomodiaaGreatDoor

/- der.Text (as in wip/r33). -/
set_option linter.unusedVariables false
set_option linter.unusedSimpArgs false
set_option linter.unusedSectionVars false
set_option maxRecDepth 20000
namespace Go.Proofs.YtomghnmoomodiaaGreatDoor
open Go.GAM Go.RowKit
section
variable {h0 : AHeap} {Q : AV → AHeap → Prop}
theorem all_byte_c {f : Nat} {p : UInt8 → Bool} {v : AV} {l : List UInt8} {h : AHeap} (hf : Nat.blt f yid0 = true) (hc : ∀ (c : UInt8) (h : AHeap) (K : AV → AHeap → Prop), K (.b (p c)) h → C f [.i .u8 (c.toNat : Int)] h K) (B : Byt h v l) (hl : l.length ≤ 100000) (hq : Q (.b (l.all p)) h) :
    C G_der_all_byte_.id [v, .fn (.func f) [] []] h Q := by
  refine G_der_all_byte_.call ?_
  simp only [G_der_all_byte_.t, G_der_all_byte_.j0]
  refine Rd.len B ?_
  have go : ∀ (r : List UInt8) (i : Nat), l.drop i = r → i ≤ l.length → (l.all p = r.all p) → G_der_all_byte_.p0 (kRet h Q) (.fn (.func f) [] []) v l.length i h := by
    intro r
    induction r with
    | nil =>
      intro i hr hi he
      have := drop_end hr
      refine G_der_all_byte_.i0 ?_
      simp only [G_der_all_byte_.t0]
      rw [he] at hq
      exact bif_f (by simp; omega) (.inl hq)
    | cons c r ih =>
      intro i hr hi he
      have hlt := drop_lt hr
      have hn := drop_next hr
      refine G_der_all_byte_.i0 ?_
      simp only [G_der_all_byte_.t0, G_der_all_byte_.j0]
      refine bif_t (by simp; omega) (Rd.byte B (at_of_drop hr) (callV_c hf (hc c h _ (st_asB ?_))))
      rw [List.all_cons] at he
      cases hp : p c with
      | false =>
        rw [hp] at he
        rw [he] at hq
        exact bif_t rfl (.inl hq)
      | true =>
        rw [hp, Bool.true_and] at he
        exact bif_f rfl (inc (by omega) (ih (i + 1) hn (by omega) he))
  exact go l 0 rfl (by omega) rfl
def textB (c : UInt8) : Bool := decide (32 ≤ c.toNat) && decide (c.toNat ≤ 126)
def dtxtS (d : Der) : List UInt8 × Bool := if (dPlain 12 d || (dPlain 19 d || dPlain 22 d)) = true ∧ d.data.all textB = true then (d.data, true) else ([], false)
def textR (x : List UInt8 × Bool) : AV := .tu [.s x.1, .b x.2]
theorem text1_c (c : UInt8) (h : AHeap) (K : AV → AHeap → Prop) (hk : K (.b (textB c)) h) : C G_der_Text_1.id [.i .u8 (c.toNat : Int)] h K := by
  refine G_der_Text_1.call ?_
  simp only [G_der_Text_1.t, G_der_Text_1.j0]
  have p0 : ∀ b, b = textB c → G_der_Text_1.p0 (kRet h K) b h := by
    intro b hb
    refine G_der_Text_1.i0 ?_
    simp only [G_der_Text_1.t0]
    subst hb
    exact .inl hk
  unfold textB at p0
  refine bif_both (fun e => p0 _ ?_) fun e => p0 _ ?_
  · simp only [decide_eq_true_eq] at e
    rw [decide_eq_true (by omega : 32 ≤ c.toNat), Bool.true_and, decide_eq_decide]; omega
  · simp only [decide_eq_false_iff_not] at e
    rw [decide_eq_false (by omega : ¬ 32 ≤ c.toNat)]; rfl
theorem dtxt_c {d : Der} {cs : List AV} {F : Nat → Prop} {h : AHeap} (D : DV h F d cs) (hs : d.data.length ≤ 100000) (hq : Q (textR (dtxtS d)) h) : C G_der_Text.id [.ag cs] h Q := by
  refine G_der_Text.call ?_
  simp only [G_der_Text.t, G_der_Text.j0]
  refine D.box fun h1 hl1 U1 B D1 => ?_
  unfold dtxtS at hq
  have p0 : ∀ b, b = !(dPlain 12 d || (dPlain 19 d || dPlain 22 d)) → G_der_Text.p0 (kRet h Q) (.p (some ⟨h.length, 5, 0⟩)) b h1 := by
    intro b hb
    refine G_der_Text.i0 ?_
    simp only [G_der_Text.t0]
    refine bif_both (fun e => ?_) fun e => ?_
    · subst e
      rw [if_neg (fun hh => by rw [hh.1] at hb; cases hb)] at hq
      exact kRet_pure rfl U1.ext hq
    · subst e
      have hp : (dPlain 12 d || (dPlain 19 d || dPlain 22 d)) = true := by
        revert hb
        generalize (dPlain 12 d || (dPlain 19 d || dPlain 22 d)) = x
        cases x <;> simp
      refine st_fld (st_load B D.len.symm D.dat (st_asS (Tx.ofStr fun v h2 T => ?_)))
      refine all_byte_c (p := textB) rfl text1_c T.byt hs (st_asB ?_)
      have E := (U1.trans T.upd fun _ _ h => h).ext
      have B2 := B.upd T.upd fun h => h
      cases ha : d.data.all textB with
      | false =>
        rw [if_neg (fun hh => by rw [ha] at hh; cases hh.2)] at hq
        exact bif_t rfl (kRet_pure rfl E hq)
      | true =>
        rw [if_pos ⟨hp, ha⟩] at hq
        exact bif_f rfl (st_fld (st_load B2 D.len.symm D.dat (st_asS (kRet_pure rfl E hq))))
  refine st_loadN B D.len.symm (plain_c D1 (st_asB ?_))
  refine bif_both (fun e => st_loadN B D.len.symm (plain_c D1 (st_asB ?_))) fun e => p0 _ ?_
  · have e : dPlain 12 d = false := by simpa using e
    rw [e, Bool.false_or] at p0
    refine bif_both (fun e => st_loadN B D.len.symm (plain_c D1 (st_asB (p0 _ ?_)))) fun e => p0 _ ?_
    · have e : dPlain 19 d = false := by simpa using e
      rw [e]; rfl
    · have e : dPlain 19 d = true := by simpa using e
      rw [e]; rfl
  · have e : dPlain 12 d = true := by simpa using e
    rw [e]; rfl

end
end Go.Proofs.YtomghnmoomodiaaGreatDoor

/- Check, the program's. -/
set_option linter.unusedVariables false
set_option linter.unusedSimpArgs false
set_option linter.unusedSectionVars false
set_option maxRecDepth 20000
namespace Go.Proofs.YtomghnmoomodiaaGreatDoor
open Go.GAM Go.RowKit

section
variable {cm : List UInt8 → List UInt8} {h hS : AHeap} {Q : AV → AHeap → Prop} {b1 b2 b3 b4 m1 m2 : Nat} {v : AV} {x : List UInt8} {at' : Int} {ch tr : List Cert}

/-- What stands while Check goes through the findings. -/
structure Ctx (cm : List UInt8 → List UInt8) (hS : AHeap) (b1 b2 b3 b4 m1 m2 : Nat) (v : AV) (x : List UInt8) (ch tr : List Cert) : Prop where
  cap : Cap hS b1 b2 b3 b4 x v m1 m2 (ch.length - 1)
  tr : TrAt hS m1 m2 tr
  cl : CL hS v ch
  ne : ch ≠ []
  len : ch.length ≤ 9223372036854775807
  short : ∀ c ∈ ch, shortC c ∧ c.names.length ≤ 9223372036854775807
  xl : x.length ≤ 9223372036854775807
  com : ∀ c, ch[0]? = some c → c.names = [] → CommonAt hS cm c.subject


theorem any_none {tr : List Cert} {at' : Int} {ch : List Cert} {f : Nat} (h : ∀ j, j < ch.length → fAt tr at' ch f j = false) : fAny tr at' ch f = false := by
  unfold fAny
  rw [List.any_eq_false]
  intro j hj
  rw [h j (by simpa using hj)]; simp
theorem any_some {tr : List Cert} {at' : Int} {ch : List Cert} {f i : Nat} (hi : i < ch.length) (h : fAt tr at' ch f i = true) : fAny tr at' ch f = true := by
  unfold fAny
  rw [List.any_eq_true]
  exact ⟨i, by simpa using hi, h⟩

theorem check_p3 {w : AV} {hx : AHeap} {k : Nat} (hk : k ≤ 100) (hn : G_certcheck_Check.p0 (kRet h Q) at' (.p (some ⟨b2, 1, 0⟩)) (.p (some ⟨b3, 2, 0⟩)) (.p (some ⟨b4, 1, 0⟩)) (.fn (.func G_certcheck_Check_1.id) [] [.p (some ⟨b1, 1, 0⟩), .p (some ⟨b2, 1, 0⟩), .p (some ⟨b3, 2, 0⟩), .p (some ⟨b4, 1, 0⟩)]) w (k + 1 + 1 : Nat) hx) : G_certcheck_Check.p3 (kRet h Q) at' (.p (some ⟨b2, 1, 0⟩)) (.p (some ⟨b3, 2, 0⟩)) (.p (some ⟨b4, 1, 0⟩)) (.fn (.func G_certcheck_Check_1.id) [] [.p (some ⟨b1, 1, 0⟩), .p (some ⟨b2, 1, 0⟩), .p (some ⟨b3, 2, 0⟩), .p (some ⟨b4, 1, 0⟩)]) w (k + 1 : Nat) hx := by
  refine G_certcheck_Check.i3 ?_
  simp only [G_certcheck_Check.t3, G_certcheck_Check.j0]
  exact inc (by omega) hn

theorem check_p1 (X : Ctx cm hS b1 b2 b3 b4 m1 m2 v x ch tr) {k : Nat} (hk : k < 7) (hhold : holdS cm tr x ch (k + 1) = false)
    (next : ∀ w hx, Outs hS hx w (outS cm tr x at' ch (k + 1)) → G_certcheck_Check.p0 (kRet h Q) at' (.p (some ⟨b2, 1, 0⟩)) (.p (some ⟨b3, 2, 0⟩)) (.p (some ⟨b4, 1, 0⟩)) (.fn (.func G_certcheck_Check_1.id) [] [.p (some ⟨b1, 1, 0⟩), .p (some ⟨b2, 1, 0⟩), .p (some ⟨b3, 2, 0⟩), .p (some ⟨b4, 1, 0⟩)]) w (k + 1 + 1 : Nat) hx) :
    ∀ (r : List Cert) (i : Nat) (w : AV) (hx : AHeap), ch.drop i = r → i ≤ ch.length → Outs hS hx w (outS cm tr x at' ch k) → (∀ j, j < i → fAt tr at' ch (k + 1) j = false) →
    G_certcheck_Check.p1 (kRet h Q) at' (.p (some ⟨b2, 1, 0⟩)) (.p (some ⟨b3, 2, 0⟩)) (.p (some ⟨b4, 1, 0⟩)) (.fn (.func G_certcheck_Check_1.id) [] [.p (some ⟨b1, 1, 0⟩), .p (some ⟨b2, 1, 0⟩), .p (some ⟨b3, 2, 0⟩), .p (some ⟨b4, 1, 0⟩)]) w (k + 1 : Nat) v ch.length i hx := by
  intro r
  have hlen := X.len
  have hol := outS_len cm tr x at' ch k
  induction r with
  | nil =>
    intro i w hx hr hi O hj
    have hle := drop_end hr
    refine G_certcheck_Check.i1 ?_
    simp only [G_certcheck_Check.t1, G_certcheck_Check.j3]
    refine bif_f (by simp; omega) (check_p3 (by omega) (next w hx ?_))
    have hf : foundS cm tr x at' ch (k + 1) = false := by unfold foundS; rw [hhold, any_none fun j hj' => hj j (by omega)]; rfl
    rw [outS_succ, hf]
    simpa using O
  | cons c r ih =>
    intro i w hx hr hi O hj
    have hlt := drop_lt hr
    have hn := drop_next hr
    have hci := at_of_drop hr
    have p2 : ∀ (b : Bool) (hy : AHeap), b = fAt tr at' ch (k + 1) i → Outs hS hy w (outS cm tr x at' ch k) → G_certcheck_Check.p2 (kRet h Q) at' (.p (some ⟨b2, 1, 0⟩)) (.p (some ⟨b3, 2, 0⟩)) (.p (some ⟨b4, 1, 0⟩)) (.fn (.func G_certcheck_Check_1.id) [] [.p (some ⟨b1, 1, 0⟩), .p (some ⟨b2, 1, 0⟩), .p (some ⟨b3, 2, 0⟩), .p (some ⟨b4, 1, 0⟩)]) w (k + 1 : Nat) b v ch.length i hy := by
      intro b hy hb Oy
      refine G_certcheck_Check.i2 ?_
      simp only [G_certcheck_Check.t2, G_certcheck_Check.j1, G_certcheck_Check.j3]
      refine bif_both (fun e => ?_) fun e => ?_
      · refine Oy.push (by omega) fun w' hz O' U' => check_p3 (by omega) (next w' hz ?_)
        have hf : foundS cm tr x at' ch (k + 1) = true := by unfold foundS; rw [any_some hlt (by rw [← hb]; exact e)]; simp
        rw [outS_succ, hf, if_pos rfl]
        exact O'
      · refine inc (by omega) (ih (i + 1) w hy hn (by omega) Oy fun j hj' => ?_)
        by_cases hji : j = i
        · subst hji; rw [← hb]; exact e
        · exact hj j (by omega)
    have hfat : fAt tr at' ch (k + 1) i = if k + 1 = 1 then decide (c.til < at') else if k + 1 = 2 then decide (at' < c.frm) else if k + 1 = 4 then decide (c.issuer = c.subject) && !hasS tr c else
      if k + 1 = 6 then (match ch[i + 1]? with
        | none => false
        | some d => !decide (c.issuer = d.subject)) else if k + 1 = 7 then decide (0 < i) && !c.auth else false := by
      rw [fAt, hci] <;> rfl
    have Lx := X.cl.ext O.upd
    obtain ⟨p, rw_, A, B, hp⟩ := Lx.at hci
    have hA := A.ok
    obtain ⟨wn, rfl, hw⟩ := A
    refine G_certcheck_Check.i1 ?_
    simp only [G_certcheck_Check.t1, G_certcheck_Check.j2]
    refine bif_t (by simp; omega) (hp _ hx _ (Upd.refl _ _) (B.loadN (st_alloc fun h1 hl1 U1 Rc => st_storeN Rc rfl rfl hA fun h2 hl2 U2 Rc => ?_)))
    have U02 : Upd (fun _ => False) hx h2 := U1.own U2 (Nat.le_refl _)
    have O2 := O.ext U02
    have C2 := X.cap.ext O2.upd
    have T2 := X.tr.ext O2.upd
    have hkk : k = 0 ∨ k = 1 ∨ k = 3 ∨ k = 5 ∨ k = 6 ∨ (k = 2 ∨ k = 4) := by omega
    rcases hkk with rfl | rfl | rfl | rfl | rfl | hkk
    · exact bif_t rfl (st_fld (st_load Rc rfl rfl (st_asI (p2 _ _ hfat.symm O2))))
    · exact bif_f rfl (bif_t rfl (st_fld (st_load Rc rfl rfl (st_asI (p2 _ _ hfat.symm O2)))))
    · refine bif_f rfl (bif_f rfl (bif_t rfl (st_fld (st_load Rc rfl rfl (st_asS (st_fld (st_load Rc rfl rfl (st_asS ?_))))))))
      have hfat : fAt tr at' ch 4 i = (decide (c.issuer = c.subject) && !hasS tr c) := hfat
      cases hd : decide (c.issuer = c.subject) with
      | false => exact bif_f rfl (p2 _ _ (by rw [hfat, hd]; rfl) O2)
      | true => exact bif_t rfl (st_loadN C2.3 rfl (st_loadN Rc rfl (has_c T2 ⟨wn, rfl, hw.ext U02⟩ (st_asB (p2 _ _ (by rw [hfat, hd]; rfl) O2)))))
    · refine bif_f rfl (bif_f rfl (bif_f rfl (bif_t rfl (st_load C2.4 rfl rfl (st_asI ?_)))))
      have hfat : fAt tr at' ch 6 i = (match ch[i + 1]? with
        | none => false
        | some d => !decide (c.issuer = d.subject)) := hfat
      by_cases hlast : i < ch.length - 1
      · obtain ⟨d, hd⟩ : ∃ d, ch[i + 1]? = some d := ⟨_, List.getElem?_eq_getElem (by omega)⟩
        rw [hd] at hfat
        obtain ⟨p', r', A', B', hp'⟩ := (X.cl.ext O2.upd).at hd
        obtain ⟨wn', rfl, hw'⟩ := A'
        exact bif_t (by simp; omega) (st_fld (st_load Rc rfl rfl (st_asS (st_load C2.2 rfl rfl (inc (by omega) (hp' _ h2 _ (Upd.refl _ _) (B'.fld (o := 2) rfl (st_asS (p2 _ _ hfat.symm O2)))))))))
      · rw [List.getElem?_eq_none (show ch.length ≤ i + 1 by omega)] at hfat
        exact bif_f (by simp; omega) (p2 _ _ hfat.symm O2)
    · refine bif_f rfl (bif_f rfl (bif_f rfl (bif_f rfl (bif_t rfl ?_))))
      have hfat : fAt tr at' ch 7 i = (decide (0 < i) && !c.auth) := hfat
      by_cases h0 : 0 < i
      · rw [decide_eq_true h0] at hfat
        exact bif_t (by simp; omega) (st_fld (st_load Rc rfl rfl (st_asB (p2 _ _ (by rw [hfat]; rfl) O2))))
      · rw [decide_eq_false h0] at hfat
        exact bif_f (by simp; omega) (p2 _ _ (by rw [hfat]; rfl) O2)
    · have hf : fAt tr at' ch (k + 1) i = false := by
        rw [hfat]
        rcases hkk with rfl | rfl <;> rfl
      rcases hkk with rfl | rfl
      · exact bif_f rfl (bif_f rfl (bif_f rfl (bif_f rfl (bif_f rfl (p2 _ _ hf.symm O2)))))
      · exact bif_f rfl (bif_f rfl (bif_f rfl (bif_f rfl (bif_f rfl (p2 _ _ hf.symm O2)))))

theorem check_p0 (X : Ctx cm hS b1 b2 b3 b4 m1 m2 v x ch tr) (fin : ∀ w hx, Outs hS hx w (outS cm tr x at' ch 7) → kRet h Q w hx) :
    ∀ (d k : Nat) (w : AV) (hx : AHeap), k + d = 7 → Outs hS hx w (outS cm tr x at' ch k) → G_certcheck_Check.p0 (kRet h Q) at' (.p (some ⟨b2, 1, 0⟩)) (.p (some ⟨b3, 2, 0⟩)) (.p (some ⟨b4, 1, 0⟩)) (.fn (.func G_certcheck_Check_1.id) [] [.p (some ⟨b1, 1, 0⟩), .p (some ⟨b2, 1, 0⟩), .p (some ⟨b3, 2, 0⟩), .p (some ⟨b4, 1, 0⟩)]) w (k + 1 : Nat) hx := by
  intro d
  induction d with
  | zero =>
    intro k w hx hk O
    obtain rfl : k = 7 := by omega
    refine G_certcheck_Check.i0 ?_
    simp only [G_certcheck_Check.t0, G_certcheck_Check.j3, G_certcheck_Check.j1]
    exact bif_f rfl (fin w hx O)
  | succ d ih =>
    intro k w hx hk O
    have hol := outS_len cm tr x at' ch k
    refine G_certcheck_Check.i0 ?_
    simp only [G_certcheck_Check.t0, G_certcheck_Check.j3, G_certcheck_Check.j1]
    refine bif_t (by simp; omega) (callV_c rfl ?_)
    refine hold_c (f := k + 1) (X.cap.ext O.upd) (X.tr.ext O.upd) (X.cl.ext O.upd) X.ne X.short X.xl (fun c hc hn => (X.com c hc hn).ext O.upd) fun h1 U1 => st_asB ?_
    have O1 := O.ext U1
    refine bif_both (fun e => ?_) fun e => ?_
    · refine O1.push (by omega) fun w' hz O' U' => check_p3 (by omega) (ih (k + 1) w' hz (by omega) ?_)
      have hf : foundS cm tr x at' ch (k + 1) = true := by unfold foundS; rw [e]; rfl
      rw [outS_succ, hf, if_pos rfl]
      exact O'
    · refine st_load (X.cap.ext O1.upd).2 rfl rfl ((X.cl.ext O1.upd).len ?_)
      exact check_p1 X (by omega) e (fun w' hz O' => ih (k + 1) w' hz (by omega) O') ch 0 w h1 rfl (by omega) O1 fun j hj => by omega

theorem check_c {vt : AV} (L : CL h v ch) (LT : CL h vt tr) (hlen : ch.length ≤ 9223372036854775807) (htl : tr.length ≤ 9223372036854775807) (hs : ∀ c ∈ ch, shortC c ∧ c.names.length ≤ 9223372036854775807) (hx : x.length ≤ 9223372036854775807) (hcm : ∀ c, ch[0]? = some c → c.names = [] → CommonAt h cm c.subject)
    (hq : ∀ w h', Upd (fun _ => False) h h' → Rd 1 h' w ((checkS cm tr x at' ch).map num) (checkS cm tr x at' ch).length → Q w h') : C G_certcheck_Check.id [v, .s x, .i .i64 at', vt] h Q := by
  obtain ⟨rs, hR, hrs⟩ := id L
  obtain ⟨a, n, kk, rfl⟩ := hR.isSl
  refine G_certcheck_Check.call ?_
  simp only [G_certcheck_Check.t, G_certcheck_Check.j0]
  refine st_box rfl fun h1 hl1 U1 R2 => st_box rfl fun h2 hl2 U2 R1 => ?_
  have R2 := R2.upd U2 fun h => h
  have U12 := U1.then U2
  refine st_load R2 rfl rfl ((L.ext U12).len ?_)
  unfold checkS at hq
  by_cases hne : ch = []
  · rw [if_pos hne] at hq
    refine bif_t (by simp [hne]) (st_build (cs := [num 5]) rfl rfl fun y h3 hl3 U3 R3 F3 => .inl (hq y h3 (U12.then U3) R3))
  rw [if_neg hne] at hq
  have hpos := List.length_pos_iff.2 hne
  refine bif_f (by simp [hne]) (newTrust_c (LT.ext U12) htl fun m1 m2 h3 U3 T hm1 hm2 => st_alloc fun h4 hl4 U4 R3 => st_storeN R3 rfl rfl rfl fun h5 hl5 U5 R3 => ?_)
  have U35 : Upd (fun _ => False) h3 h5 := U4.own U5 (Nat.le_refl _)
  have R2 := R2.upd (U3.then U35) fun h => h
  have R1 := R1.upd (U3.then U35) fun h => h
  have U05 := (U12.then U3).then U35
  refine st_load R2 rfl rfl ((L.ext U05).len (withI_is (n := ((ch.length - 1 : Nat) : Int)) (by rw [wrap_i64 (by omega) (by omega)]; omega) ?_))
  refine st_alloc fun h6 hl6 U6 R4 => st_store R4 rfl (by simp) rfl rfl rfl fun h7 hl7 U7 R4 => ?_
  have U57 : Upd (fun _ => False) h5 h7 := U6.own U7 (Nat.le_refl _)
  have X : Ctx cm h7 h1.length h.length h3.length h5.length m1 m2 (.sl a n kk) x ch tr :=
    ⟨⟨R1.upd U57 fun h => h, R2.upd U57 fun h => h, R3.upd U57 fun h => h, R4⟩, T.ext (U35.then U57), L.ext (U05.then U57), hne, hlen, hs, hx, fun c hc hn => (hcm c hc hn).ext (U05.then U57)⟩
  refine check_p0 (h := h) (Q := Q) (cm := cm) (at' := at') X (fun w hx O => .inl (hq w hx ((U05.then U57).then O.upd) O.arr.rd)) 7 0 _ h7 rfl (NewA.start 1 h7)
end
end Go.Proofs.YtomghnmoomodiaaGreatDoor

/- awake; equal lists of findings. -/
set_option linter.unusedVariables false
set_option linter.unusedSimpArgs false
set_option linter.unusedSectionVars false
set_option maxRecDepth 20000
namespace Go.Proofs.YtomghnmoomodiaaGreatDoor
open Go.GAM Go.RowKit

section
variable {h : AHeap} {Q : AV → AHeap → Prop}

theorem rd_num {v : AV} {l : List Nat} {len : Nat} (R : Rd 1 h v (l.map num) len) {k : IntKind} {i n : Nat} (hn : l[i]? = some n) {K : Int → Prop} (hk : K (n : Int)) : pIdxAddrSl 1 v (.i k (i : Int)) h fun a => pLoad1 a h fun y => asI .i64 y K := by
  have hl := R.length
  rw [List.length_map, Nat.mul_one] at hl
  exact R.cell Nat.one_pos (by have := lt_of_some hn; omega) (c := num n) (by rw [Nat.mul_one, List.getElem?_map, hn]; rfl) (st_asI hk)

theorem ints_p0 {v w : AV} {a b : List Nat} {h0 : AHeap} (R : Rd 1 h v (a.map num) a.length) (S : Rd 1 h w (b.map num) b.length) (hl : a.length = b.length) (ha : a.length ≤ 1000000) : ∀ (r s : List Nat) (i : Nat), a.drop i = r → b.drop i = s → kRet h0 Q (.b (decide (r = s))) h → G_law35_ints.p0 (kRet h0 Q) v w a.length i h := by
  intro r
  induction r with
  | nil =>
    intro s i hr hs hq
    have h1 := drop_end hr
    have : s = [] := by rw [← hs]; exact List.drop_eq_nil_of_le (by omega)
    subst this
    refine G_law35_ints.i0 ?_
    simp only [G_law35_ints.t0]
    exact bif_f (by simp; omega) (by simpa using hq)
  | cons x r ih =>
    intro s i hr hs hq
    have h1 := drop_lt hr
    have hx := at_of_drop hr
    obtain ⟨y, hy⟩ : ∃ y, b[i]? = some y := ⟨_, List.getElem?_eq_getElem (by omega)⟩
    have hs' := drop_of_at hy
    rw [hs] at hs'
    refine G_law35_ints.i0 ?_
    simp only [G_law35_ints.t0, G_law35_ints.j0]
    refine bif_t (by simp; omega) (rd_num R hx (rd_num S hy ?_))
    by_cases hxy : x = y
    · subst hxy
      refine bif_f (by simp) (inc (by omega) (ih (b.drop (i + 1)) (i + 1) (drop_next hr) rfl ?_))
      rw [hs'] at hq
      have : decide (x :: r = x :: b.drop (i + 1)) = decide (r = b.drop (i + 1)) := by rw [decide_eq_decide]; simp
      rwa [this] at hq
    · refine bif_t (by simp; omega) ?_
      rw [hs', decide_eq_false (by simp [hxy])] at hq
      exact hq
theorem ints_c {v w : AV} {a b : List Nat} (R : Rd 1 h v (a.map num) a.length) (S : Rd 1 h w (b.map num) b.length) (ha : a.length ≤ 1000000) (hq : Q (.b (decide (a = b))) h) : C G_law35_ints.id [v, w] h Q := by
  refine G_law35_ints.call ?_
  simp only [G_law35_ints.t, G_law35_ints.j0]
  refine R.len (S.len ?_)
  by_cases hl : a.length = b.length
  · exact bif_f (by simp [hl]) (R.len (ints_p0 R S hl ha a b 0 rfl rfl (.inl hq)))
  · rw [decide_eq_false (fun e => hl (by rw [e]))] at hq
    exact bif_t (by simp; omega) (.inl hq)

def c0 : Cert := ⟨[], [67, 78, 61, 97], [67, 78, 61, 97], 1, 9, [[120, 46, 97, 46, 98]], false, [107]⟩
def cm0 : List UInt8 → List UInt8 := fun _ => []

theorem awake_c (hq : ∀ h', Upd (fun _ => False) h h' → Q (.b true) h') : C G_law35_awake.id [] h Q := by
  refine G_law35_awake.call ?_
  simp only [G_law35_awake.t, G_law35_awake.j0]
  refine st_build (cs := [.s [120, 46, 97, 46, 98]]) rfl rfl fun v1 h1 hl1 U1 R1 F1 => ?_
  obtain ⟨aa, nn, kk, rfl⟩ := R1.i.isSl
  refine st_pb (cs := certC c0 (.sl aa nn kk)) rfl (st_alloc fun h2 hl2 U2 Rc => st_storeN Rc rfl rfl rfl fun h3 hl3 U3 Rc => st_loadN Rc rfl (st_build (cs := certC c0 (.sl aa nn kk)) rfl rfl fun v9 h4 hl4 U4 R9 F9 => ?_))
  have U13 : Upd (fun _ => False) h1 h3 := U2.own U3 (Nat.le_refl _)
  have U04 := (U1.then U13).then U4
  have L : CL h4 v9 [c0] := ⟨[certC c0 (.sl aa nn kk)], by simpa using R9.i, ⟨⟨_, rfl, (R1.i.ext (U13.then U4))⟩, trivial⟩⟩
  have hs : ∀ c ∈ [c0], shortC c ∧ c.names.length ≤ 9223372036854775807 := by
    intro c hc
    simp only [List.mem_singleton] at hc
    subst hc
    exact ⟨fun n hn => by simp [c0] at hn; subst hn; simp, by simp [c0]⟩
  have hcm : ∀ (h : AHeap) (c), [c0][0]? = some c → c.names = [] → CommonAt h cm0 c.subject := by
    intro h c hc hn
    simp at hc; subst hc
    simp [c0] at hn
  refine match_c (by simp) (by simp) (st_asB (bif_t (by decide) (match_c (by simp) (by simp) (st_asB (bif_t (by decide) (match_c (by simp) (by simp) (st_asB (bif_t (by decide) (match_c (by simp) (by simp) (st_asB (bif_t (by decide) ?_)))))))))))
  refine check_c (cm := cm0) L L (by simp) (by simp) hs (by simp) (hcm _) fun w5 h5 U5 R5 => ?_
  have e1 : checkS cm0 [c0] [120, 46, 97, 46, 98] 5 [c0] = [] := by decide
  rw [e1] at R5
  refine R5.len (bif_t rfl ?_)
  refine check_c (cm := cm0) (L.ext U5) (CL.nil _) (by simp) (by simp) hs (by simp) (hcm _) fun w6 h6 U6 R6 => ?_
  have e2 : checkS cm0 [] [121, 46, 97, 46, 98] 10 [c0] = [1, 3, 4, 5] := by decide
  rw [e2] at R6
  refine st_build (cs := [num 1, num 3, num 4, num 5]) rfl rfl fun v7 h7 hl7 U7 R7 F7 => ?_
  refine ints_c (a := [1, 3, 4, 5]) (b := [1, 3, 4, 5]) (R6.upd U7 fun _ _ h => h) R7 (by simp) (st_asB (bif_t (by decide) ?_))
  refine check_c (cm := cm0) (CL.nil _) ((L.ext (U5.then U6)).ext U7) (by simp) (by simp) (by simp) (by simp) (by simp) fun w8 h8 U8 R8 => ?_
  have e3 : checkS cm0 [c0] [] 0 [] = [5] := by decide
  rw [e3] at R8
  refine st_build (cs := [num 5]) rfl rfl fun v9' h9 hl9 U9 R9' F9' => ?_
  refine ints_c (a := [5]) (b := [5]) (R8.upd U9 fun _ _ h => h) R9' (by simp) (st_asB (bif_t (by decide) ?_))
  refine text_c (st_asS (withB_is (n := true) (by decide) ?_))
  refine G_law35_awake.i0 ?_
  simp only [G_law35_awake.t0]
  exact .inl (hq _ (((((U04.then U5).then U6).then U7).then U8).then U9))
end
end Go.Proofs.YtomghnmoomodiaaGreatDoor

/- MatchName, the reference's. -/
set_option linter.unusedVariables false
set_option linter.unusedSimpArgs false
set_option linter.unusedSectionVars false
set_option maxRecDepth 20000
namespace Go.Proofs.YtomghnmoomodiaaGreatDoor
open Go.GAM Go.RowKit

section
variable {s : List UInt8} {h0 : AHeap} {Q : AV → AHeap → Prop}

end
end Go.Proofs.YtomghnmoomodiaaGreatDoor

/- strings.Builder's methods; certificate.split and plain. -/
set_option linter.unusedVariables false
set_option linter.unusedSimpArgs false
set_option linter.unusedSectionVars false
set_option maxRecDepth 20000
namespace Go.Proofs.YtomghnmoomodiaaGreatDoor
open Go.GAM Go.RowKit

section
variable {h : AHeap} {Q : AV → AHeap → Prop}

/-! ### Builder -/

abbrev Bld (h : AHeap) (id off : Nat) (cs : List AV) (buf : AV) (l : List UInt8) : Prop := BldAt prog 88 5 h id off cs buf l

theorem same_c {f : FuncId} {v : AV} (hm : (f, xSame) ∈ extT) (hk : Q v h) : C f [v] h Q := row_c hm hk
theorem set_same {α : Type} {l : List α} {i : Nat} {a : α} (h : l[i]? = some a) : l.set i a = l := by
  apply List.ext_getElem?
  intro j
  by_cases hj : i = j
  · subst hj; rw [List.getElem?_set_self (lt_of_some h), h]
  · rw [List.getElem?_set_ne hj]

theorem copyCheck_c {id off n : Nat} {cs : List AV} {buf : AV} {l : List UInt8} (B : Bld h id off cs buf l) (hn : n = cs.length)
    (hq : ∀ h', h'.length = h.length → Upd (· = id) h h' → Bld h' id off (cs.set off (.p (some ⟨id, n, off⟩))) buf l → Q (.tu []) h') : C G_strings_Builder_copyCheck.id [.p (some ⟨id, n, off⟩)] h Q := by
  subst hn
  refine G_strings_Builder_copyCheck.call ?_
  simp only [G_strings_Builder_copyCheck.t]
  have hr := B.room
  have hne : off ≠ off + 1 := by omega
  have cell1 : ∀ v : AV, (cs.set off v)[off + 1]? = some buf := fun v => by rw [List.getElem?_set_ne hne]; exact B.cell
  have cell0 : ∀ v : AV, (cs.set off v)[off]? = some v := fun v => by rw [List.getElem?_set_self (by omega)]
  rcases B.addr with h0 | h0
  · refine st_nil (st_fld (st_load B.rec' rfl h0 (st_nilEq (by kernel_rfl) (st_asB (bif_t rfl ?_)))))
    refine st_unsafe B.rec' rfl (by omega) (same_c G_i_abi_NoEscape.row ?_)
    refine B.fromUnsafe (st_nil (st_fld ?_))
    refine B.store (by omega) rfl rfl rfl (.inr (cell0 _)) (cell1 _) B.is B.own fun h1 hl1 U1 B1 => ?_
    exact .inl (hq h1 hl1 U1 B1)
  · refine st_nil (st_fld (st_load B.rec' rfl h0 (st_someEq (by kernel_rfl) (st_asB (bif_f rfl ?_)))))
    refine st_nil (st_fld (st_load B.rec' rfl h0 (st_selfNe (by kernel_rfl) (st_asB (bif_f rfl ?_)))))
    have e : cs.set off (.p (some ⟨id, cs.length, off⟩)) = cs := set_same h0
    refine .inl (hq h rfl (Upd.refl _ _) ?_)
    rw [e]; exact B

/-- What a write leaves of the cells. -/
def wrB (cs : List AV) (id off : Nat) (buf : AV) : List AV := (cs.set off (.p (some ⟨id, cs.length, off⟩))).set (off + 1) buf
theorem wrB_len {cs : List AV} {id off : Nat} {buf : AV} : (wrB cs id off buf).length = cs.length := by simp [wrB]
theorem writeByte_c {id off n : Nat} {cs : List AV} {buf : AV} {l : List UInt8} {c : UInt8} {k : Int} (B : Bld h id off cs buf l) (hn : n = cs.length) (hk : k = (c.toNat : Int)) (hl : l.length < 100000000)
    (hq : ∀ buf' h', Upd (fun i => i = id ∨ SlAt buf i) h h' → Bld h' id off (wrB cs id off buf') buf' (l ++ [c]) → (∀ i, SlAt buf' i → SlAt buf i ∨ h.length ≤ i) → Q .ni h') : C G_strings_Builder_WriteByte.id [.p (some ⟨id, n, off⟩), .i .u8 k] h Q := by
  subst hn; subst hk
  refine G_strings_Builder_WriteByte.call ?_
  simp only [G_strings_Builder_WriteByte.t]
  refine copyCheck_c B rfl fun h1 hl1 U1 B1 => ?_
  have hr := B.room
  have hlt := B.lt
  have hcl : cs.length = (cs.set off (.p (some ⟨id, cs.length, off⟩))).length := by simp
  refine st_nil (st_fld (st_load B1.rec' hcl B1.cell ?_))
  refine st_build (cs := [byteAV c]) rfl rfl fun y h2 hl2 U2 R2 F2 => ?_
  have B2 := B1.upd U2 (fun h => h) fun _ _ h => h
  refine B2.is.append (t := [c]) (fun K hK => R2.news hK) (by simp; omega) fun v' h3 U3 T3 F3 => ?_
  have hown : ¬ SlAt v' id := fun hi => by
    rcases F3 id hi with h | h
    · exact B.own h
    · omega
  have hUall : Upd (fun i => i = id ∨ SlAt buf i) h h3 := ((U1.mono fun _ _ h => Or.inl h).trans (U2.mono fun _ _ h => h.elim) fun _ _ h => h).trans (U3.mono fun _ _ h => .inr h) fun _ _ h => h
  refine st_nil (st_fld ?_)
  rw [hcl]
  refine B2.put U3 T3 hown fun h4 hl4 U4 B4 => ?_
  refine .inl (hq v' h4 (hUall.trans (U4.mono fun _ _ h => .inl h) fun _ _ h => h) B4 fun i hi => ?_)
  rcases F3 i hi with h | h
  · exact .inl h
  · exact .inr (by omega)

theorem bstring_c {id off n : Nat} {cs : List AV} {buf : AV} {l : List UInt8} (B : Bld h id off cs buf l) (hn : n = cs.length) (hl : l.length ≤ 100000000) (hq : ∀ h', Upd (SlAt buf) h h' → h'.length = h.length → Q (.s l) h') : C G_strings_Builder_String.id [.p (some ⟨id, n, off⟩)] h Q := by
  subst hn
  refine G_strings_Builder_String.call ?_
  simp only [G_strings_Builder_String.t]
  have hlen : ∀ K : Int → Prop, K (l.length : Int) → pLenSl buf K := fun K hk => by
    rcases B.is with ⟨rfl, rfl⟩ | ⟨_, _, rfl, _⟩ <;> exact hk
  refine st_nil (st_fld (st_load B.rec' rfl B.cell (st_nil (st_fld (st_load B.rec' rfl B.cell (hlen _ ?_))))))
  refine B.is.data ?_
  refine st_load B.rec' rfl B.cell ⟨rfl, ?_⟩
  refine B.is.text (by kernel_rfl) (by kernel_rfl) (by omega) fun h1 hl1 U1 => ?_
  refine st_asS ?_
  have R1 := B.rec'.upd U1 B.own
  refine st_load R1 rfl B.cell ⟨rfl, st_load R1 rfl B.cell ⟨rfl, .inl (hq h1 U1 hl1)⟩⟩

/-! ### split and plain -/

/-- The parts of a text at the commas before which no backslash stands; 'cur': what has been read of the part. -/
def splitE : List UInt8 → List UInt8 → List (List UInt8)
  | cur, [] => [cur]
  | cur, [c] => if c = 44 then [cur, []] else [cur ++ [c]]
  | cur, c :: d :: r => if c = 92 then splitE (cur ++ [c, d]) r else if c = 44 then cur :: splitE [] (d :: r) else splitE (cur ++ [c]) (d :: r)
theorem splitE_len : ∀ (cur s : List UInt8), (splitE cur s).length ≤ s.length + 1
  | cur, [] => by simp [splitE]
  | cur, [c] => by unfold splitE; split <;> simp
  | cur, c :: d :: r => by
    have h1 := splitE_len (cur ++ [c, d]) r
    have h2 := splitE_len [] (d :: r)
    have h3 := splitE_len (cur ++ [c]) (d :: r)
    unfold splitE
    simp only [List.length_cons] at *
    split
    · omega
    · split
      · simp only [List.length_cons]; omega
      · omega

def plainE : List UInt8 → List UInt8
  | [] => []
  | [c] => [c]
  | c :: d :: r => if c = 92 then d :: plainE r else c :: plainE (d :: r)
theorem plainE_len : ∀ s : List UInt8, (plainE s).length ≤ s.length
  | [] => by simp [plainE]
  | [c] => by simp [plainE]
  | c :: d :: r => by
    have h1 := plainE_len r
    have h2 := plainE_len (d :: r)
    unfold plainE
    split <;> simp only [List.length_cons] at * <;> omega

theorem split_p0 {s : List UInt8} (hs : s.length ≤ 1000000) (hq : ∀ v h', NewS h h' v ((splitE [] s).map .s) → Q v h') :
    ∀ (k i : Nat) (v : AV) (frm : Nat) (done : List (List UInt8)) (hx : AHeap), s.length ≤ i + k → i ≤ s.length + 1 → frm ≤ i → frm ≤ s.length → NewS h hx v (done.map .s) → done.length ≤ i → done ++ splitE ((s.take i).drop frm) (s.drop i) = splitE [] s →
    G_certificate_split.p0 (kRet h Q) s v (frm : Int) (i : Int) hx := by
  intro k
  induction k using Nat.strongRecOn with
  | _ k ih =>
    intro i v frm done hx hk hi hf hf2 S hd he
    refine G_certificate_split.i0 ?_
    simp only [G_certificate_split.t0, G_certificate_split.j1]
    by_cases hlt : i < s.length
    · refine bif_t (decide_eq_true (by omega)) ?_
      obtain ⟨c, hc⟩ : ∃ c, s[i]? = some c := ⟨s[i], List.getElem?_eq_getElem hlt⟩
      have hdr := drop_of_at hc
      refine st_at hdr ?_
      have p1 : ∀ (v : AV) (frm j : Nat) (done : List (List UInt8)) (hy : AHeap), i ≤ j → j ≤ s.length → frm ≤ j + 1 → frm ≤ s.length → NewS h hy v (done.map .s) → done.length ≤ j + 1 → done ++ splitE ((s.take (j + 1)).drop frm) (s.drop (j + 1)) = splitE [] s →
          G_certificate_split.p1 (kRet h Q) s v (frm : Int) (j : Int) hy := by
        intro v frm j done hy hij hjs hf hf2 S hd he
        refine G_certificate_split.i1 ?_
        simp only [G_certificate_split.t1, G_certificate_split.j0]
        exact inc (by omega) (ih (s.length - (j + 1)) (by omega) (j + 1) v frm done hy (by omega) (by omega) hf hf2 S hd he)
      rw [hdr] at he
      have htk : ∀ frm, frm ≤ i → (s.take (i + 1)).drop frm = (s.take i).drop frm ++ [c] := fun frm hf => by
        rw [take_snoc hc, List.drop_append_of_le_length (by simp; omega)]
      refine bif_both (fun e => ?_) fun e => ?_
      · have e92 : c = 92 := by rw [show (92 : Int) = ((92 : UInt8).toNat : Int) by rfl, eq_byte] at e; exact of_decide_eq_true e
        refine withI_is (show IntKind.wrap .i64 ((i : Int) + 1) = ((i + 1 : Nat) : Int) by rw [wrap_i64 (by omega) (by omega)]; omega) ?_
        refine p1 v frm (i + 1) done hx (by omega) (by omega) (by omega) hf2 S (by omega) ?_
        rw [← he]
        cases hr : s.drop (i + 1) with
        | nil =>
          have hl1 := drop_end hr
          have e1 : s.take (i + 1 + 1) = s.take (i + 1) := by rw [List.take_of_length_le (by omega), List.take_of_length_le (by omega)]
          have e2 : s.drop (i + 1 + 1) = [] := List.drop_eq_nil_of_le (by omega)
          rw [e1, e2, htk frm hf, e92]
          simp [splitE]
        | cons d r =>
          have hd1 := at_of_drop hr
          have e2 := drop_next hr
          rw [take_snoc hd1, List.drop_append_of_le_length (by have := drop_lt hr; simp; omega), htk frm hf, e2, e92]
          conv => rhs; rw [splitE, if_pos rfl]
          simp
      · have e92 : c ≠ 92 := by rw [show (92 : Int) = ((92 : UInt8).toNat : Int) by rfl, eq_byte] at e; exact of_decide_eq_false e
        refine bif_both (fun e2 => ?_) fun e2 => ?_
        · have e44 : c = 44 := by rw [show (44 : Int) = ((44 : UInt8).toNat : Int) by rfl, eq_byte] at e2; exact of_decide_eq_true e2
          refine st_subs2 hf (by omega) ?_
          refine NewS.push S rfl rfl (by simp; omega) (by simp; omega) fun v' h' S' _ _ => ?_
          refine withI_is (show IntKind.wrap .i64 ((i : Int) + 1) = ((i + 1 : Nat) : Int) by rw [wrap_i64 (by omega) (by omega)]; omega) ?_
          refine p1 v' (i + 1) i (done ++ [(s.take i).drop frm]) h' (Nat.le_refl _) (by omega) (Nat.le_refl _) (by omega) (by simpa using S') (by simp; omega) ?_
          rw [← he]
          have e3 : (s.take (i + 1)).drop (i + 1) = [] := List.drop_eq_nil_of_le (by simp; omega)
          rw [e3]
          cases hr : s.drop (i + 1) with
          | nil => simp [splitE, e44]
          | cons d r => simp [splitE, e44]
        · have e44 : c ≠ 44 := by rw [show (44 : Int) = ((44 : UInt8).toNat : Int) by rfl, eq_byte] at e2; exact of_decide_eq_false e2
          refine p1 v frm i done hx (Nat.le_refl _) (by omega) (by omega) hf2 S (by omega) ?_
          rw [← he, htk frm hf]
          cases hr : s.drop (i + 1) with
          | nil => simp [splitE, e44]
          | cons d r => simp [splitE, e44, e92]
    · refine bif_f (decide_eq_false (by omega)) ?_
      have e1 : s.take i = s := List.take_of_length_le (by omega)
      have e2 : s.drop i = [] := List.drop_eq_nil_of_le (by omega)
      rw [e1, e2] at he
      refine st_subs hf2 ?_
      refine NewS.push S rfl rfl (by simp; omega) (by simp; omega) fun v' h' S' _ _ => ?_
      refine .inl (hq v' h' ?_)
      rw [← he]
      simpa [splitE] using S'

theorem csplit_c {s : List UInt8} (hs : s.length ≤ 1000000) (hq : ∀ v h', NewS h h' v ((splitE [] s).map .s) → Q v h') : C G_certificate_split.id [.s s] h Q := by
  refine G_certificate_split.call ?_
  simp only [G_certificate_split.t, G_certificate_split.j0]
  exact split_p0 hs hq s.length 0 _ 0 [] h (by omega) (by omega) (by omega) (by omega) (NewS.start h) (by simp) (by simp)

theorem plain_p0 {s : List UInt8} (hs : s.length ≤ 1000000) (hq : Q (.s (plainE s)) h) {id : Nat} (hid : h.length ≤ id) :
    ∀ (k i : Nat) (cs : List AV) (buf : AV) (done : List UInt8) (hx : AHeap), s.length ≤ i + k → i ≤ s.length → cs.length = 2 → Upd (fun _ => False) h hx → (∀ j, SlAt buf j → h.length ≤ j) → Bld hx id 0 cs buf done → done.length ≤ i → done ++ plainE (s.drop i) = plainE s →
    G_certificate_plain.p0 (kRet h Q) s (.p (some ⟨id, 2, 0⟩)) (i : Int) hx := by
  intro k
  induction k using Nat.strongRecOn with
  | _ k ih =>
    intro i cs buf done hx hk hi hcl U hb B hd he
    refine G_certificate_plain.i0 ?_
    simp only [G_certificate_plain.t0, G_certificate_plain.j1]
    by_cases hlt : i < s.length
    · refine bif_t (decide_eq_true (by omega)) ?_
      obtain ⟨c, hc⟩ : ∃ c, s[i]? = some c := ⟨s[i], List.getElem?_eq_getElem hlt⟩
      have hdr := drop_of_at hc
      refine st_at hdr ?_
      rw [hdr] at he
      have p2 : ∀ (j : Nat) (d : UInt8), i ≤ j → s[j]? = some d → done ++ d :: plainE (s.drop (j + 1)) = plainE s → G_certificate_plain.p2 (kRet h Q) s (.p (some ⟨id, 2, 0⟩)) (j : Int) hx := by
        intro j d hij hjd he
        have hjl := lt_of_some hjd
        refine G_certificate_plain.i2 ?_
        simp only [G_certificate_plain.t2, G_certificate_plain.j0]
        refine st_at (drop_of_at hjd) ?_
        refine writeByte_c B hcl.symm rfl (by omega) fun buf' h' U' B' F' => ?_
        refine inc (by omega) ?_
        have hlen := U.1
        refine ih (s.length - (j + 1)) (by omega) (j + 1) _ buf' _ h' (by omega) (by omega) (by rw [wrB_len, hcl]) (U.trans U' fun j hj hm => ?_) (fun j hj => ?_) B' (by simp; omega) (by simpa using he)
        · rcases hm with rfl | hm
          · omega
          · have := hb j hm; omega
        · rcases F' j hj with h | h
          · exact hb j h
          · omega
      have p1t : ∀ d, s[i + 1]? = some d → c = 92 → G_certificate_plain.p1 (kRet h Q) s (.p (some ⟨id, 2, 0⟩)) (i : Int) true hx := by
        intro d hd1 hc92
        refine G_certificate_plain.i1 ?_
        simp only [G_certificate_plain.t1, G_certificate_plain.j2]
        refine bif_t rfl (withI_is (show IntKind.wrap .i64 ((i : Int) + 1) = ((i + 1 : Nat) : Int) by rw [wrap_i64 (by omega) (by omega)]; omega) ?_)
        refine p2 (i + 1) d (by omega) hd1 ?_
        rw [← he, drop_of_at hd1, hc92]
        simp [plainE]
      have p1f : (c ≠ 92 ∨ s.drop (i + 1) = []) → G_certificate_plain.p1 (kRet h Q) s (.p (some ⟨id, 2, 0⟩)) (i : Int) false hx := by
        intro hn
        refine G_certificate_plain.i1 ?_
        simp only [G_certificate_plain.t1, G_certificate_plain.j2]
        refine bif_f rfl (p2 i c (Nat.le_refl _) hc ?_)
        rw [← he]
        cases hr : s.drop (i + 1) with
        | nil => simp [plainE]
        | cons d r =>
          rw [hr] at hn
          have hn' : c ≠ 92 := hn.resolve_right (by simp)
          simp [plainE, hn']
      refine bif_both (fun e => ?_) fun e => ?_
      · have e92 : c = 92 := by rw [show (92 : Int) = ((92 : UInt8).toNat : Int) by rfl, eq_byte] at e; exact of_decide_eq_true e
        refine withI_is (show IntKind.wrap .i64 ((i : Int) + 1) = ((i + 1 : Nat) : Int) by rw [wrap_i64 (by omega) (by omega)]; omega) ?_
        by_cases h2 : i + 1 < s.length
        · rw [decide_eq_true (by omega : ((i + 1 : Nat) : Int) < (s.length : Int))]
          exact p1t s[i + 1] (List.getElem?_eq_getElem h2) e92
        · rw [decide_eq_false (by omega : ¬ ((i + 1 : Nat) : Int) < (s.length : Int))]
          exact p1f (.inr (List.drop_eq_nil_of_le (by omega)))
      · have e92 : c ≠ 92 := by rw [show (92 : Int) = ((92 : UInt8).toNat : Int) by rfl, eq_byte] at e; exact of_decide_eq_false e
        exact p1f (.inl e92)
    · refine bif_f (decide_eq_false (by omega)) ?_
      rw [List.drop_eq_nil_of_le (by omega)] at he
      simp only [plainE, List.append_nil] at he
      subst he
      refine bstring_c B hcl.symm (by omega) fun h' U' hl' => st_asS ?_
      refine kRet_pure rfl (U.trans U' fun j hj hm => ?_).ext hq
      have := hb j hm; omega

theorem cplain_c {s : List UInt8} (hs : s.length ≤ 1000000) (hq : Q (.s (plainE s)) h) : C G_certificate_plain.id [.s s] h Q := by
  refine G_certificate_plain.call ?_
  simp only [G_certificate_plain.t, G_certificate_plain.j0]
  have U : Upd (fun _ => False) h (h ++ [newBlk [.p none, .sl none 0 none] 1 true (some 88)]) := Upd.app _ _
  refine plain_p0 hs hq (Nat.le_refl _) s.length 0 [.p none, .sl none 0 none] _ [] _ (by omega) (by omega) rfl U (fun j hj => (show SlAt (.sl none 0 none) j from hj).elim) ?_ (by simp) (by simp)
  exact ⟨⟨newBlk [.p none, .sl none 0 none] 1 true (some 88), 88, by simp, rfl, Nat.le_refl _, rfl, rfl, by kernel_rfl⟩, by decide, .inl rfl, rfl, .inl ⟨rfl, rfl⟩, fun h => h.elim⟩

end
end Go.Proofs.YtomghnmoomodiaaGreatDoor

/- The package's variables; shapes; Name. -/
set_option linter.unusedVariables false
set_option linter.unusedSimpArgs false
set_option linter.unusedSectionVars false
set_option maxRecDepth 20000
namespace Go.GAM
/-- A package's variable. -/
def GlAt (h : AHeap) (id : Nat) (cs : List AV) : Prop := ∃ b : ABlk, h[id]? = some b ∧ b.cells = cs ∧ b.floor ≤ cs.length ∧ b.gl = true
theorem GlAt.upd {M : Nat → Prop} {h h' : AHeap} {id : Nat} {cs : List AV} (G : GlAt h id cs) (U : Upd M h h') (hM : ¬ M id) : GlAt h' id cs := by
  obtain ⟨b, h1, h2⟩ := G
  exact ⟨b, (U.2 id (lt_of_some h1) hM).trans h1, h2⟩
theorem GlAt.var {h : AHeap} {id : Nat} {cs : List AV} (G : GlAt h id cs) : gvar h id = .p (some ⟨id, cs.length, 0⟩) := by
  obtain ⟨b, h1, rfl, h3, h4⟩ := G
  unfold gvar
  rw [h1]
  simp only [h4, Bool.true_and, Nat.ble_eq_true_of_le h3, cond_true]
theorem GlAt.loadN {h : AHeap} {id n : Nat} {cs : List AV} {K : AV → Prop} (G : GlAt h id cs) (hn : n = cs.length) (hk : K (.ag cs)) : pLoadN n (gvar h id) h K := by
  rw [G.var]
  obtain ⟨b, h1, rfl, h3, h4⟩ := G
  subst hn
  refine ⟨b, h1, ⟨h3, Nat.le_refl _, by simp⟩, ?_⟩
  simpa using hk
theorem GlAt.load1 {h : AHeap} {id : Nat} {v : AV} {K : AV → Prop} (G : GlAt h id [v]) (hk : K v) : pLoad1 (gvar h id) h K := by
  rw [G.var]
  obtain ⟨b, h1, h2, h3, h4⟩ := G
  refine ⟨b, h1, ⟨h3, by rw [h2]; exact Nat.le_refl _, by simp⟩, ?_⟩
  rw [h2]; exact hk
end Go.GAM
namespace Go.Proofs.YtomghnmoomodiaaGreatDoor
open Go.GAM Go.RowKit

section
variable {h : AHeap} {Q : AV → AHeap → Prop}

theorem RdI.elem {sz : Nat} {h : AHeap} {v : AV} {cs : List AV} {len : Nat} (R : RdI sz h v cs len) {k : IntKind} {i : Int} (h0 : 0 ≤ i) (h1 : i < len) {K : AV → Prop} (hk : K (.ag ((cs.drop (i.toNat * sz)).take sz))) :
    pIdxAddrSl sz v (.i k i) h fun a => pLoadN sz a h K := by
  obtain ⟨j, rfl⟩ : ∃ j : Nat, i = j := ⟨i.toNat, by omega⟩
  obtain ⟨p, A, hp⟩ := R.at (i := j) (by omega)
  exact hp k h _ (Upd.refl _ _) (A.loadN (by simpa using hk))

def attrs : List (List UInt8 × List UInt8) := [([67, 78], [50, 46, 53, 46, 52, 46, 51]), ([79], [50, 46, 53, 46, 52, 46, 49, 48]), ([79, 85], [50, 46, 53, 46, 52, 46, 49, 49]), ([67], [50, 46, 53, 46, 52, 46, 54])]

/-- The package's variables as they are laid. -/
structure CG (h : AHeap) : Prop where
  seq : GlAt h 1 [.i .i64 0, .i .i64 16, .b true]
  set : GlAt h 3 [.i .i64 0, .i .i64 17, .b true]
  att : ∃ v, GlAt h 2 [v] ∧ RdI 2 h v (attrs.flatMap fun x => [.s x.1, .s x.2]) 4
theorem CG.ext {h' : AHeap} (G : CG h) (U : Upd (fun _ => False) h h') : CG h' := by
  obtain ⟨v, g1, g2⟩ := G.att
  exact ⟨G.seq.upd U fun h => h, G.set.upd U fun h => h, v, g1.upd U fun h => h, g2.ext U⟩

def shp (c t : Int) (m : Bool) : AV := .ag [.i .i64 c, .i .i64 t, .b m]

theorem shape_eq {c t c' t' : Int} {m m' : Bool} {K : AV → Prop} (hk : K (.b (decide (c = c') && (decide (t = t') && (m == m'))))) : pBin prog .eql 78 (shp c t m) (shp c' t' m') K := by
  have hg : Program.eqGuardType prog prog.depth 78 = false := by kernel_rfl
  have hst : prog.stoodInHeld 78 = false := by kernel_rfl
  have hi := aEq_int (P := prog) (d := 62) (kt := 3) (q := .i64) (by kernel_rfl)
  have h4 : prog.underlying 4 = some .bool := Tryz.underlying4
  have h3 : prog.underlying 3 = some (.int .i64) := by kernel_rfl
  have e : aEq prog 64 78 (shp c t m) (shp c' t' m') = some (decide (c = c') && (decide (t = t') && (m == m'))) := by
    show aEq prog (63 + 1) 78 (.ag [.i .i64 c, .i .i64 t, .b m]) (.ag [.i .i64 c', .i .i64 t', .b m']) = _
    unfold aEq
    rw [show prog.underlying 78 = _ from Tryz.underlying78]
    simp only [hst]
    have hb : aEq prog 63 4 (.b m) (.b m') = some (m == m') := by
      show aEq prog (62 + 1) 4 (.b m) (.b m') = _
      unfold aEq
      rw [h4]
    simp [hi, hb, h3, h4]
    rw [Bool.eq_iff_iff]; simp
  show (bif Program.eqGuardType prog prog.depth 78 then False else match aEq prog 64 78 (shp c t m) (shp c' t' m') with
    | some r => eqOut .eql r K
    | none => False)
  rw [hg, e]
  exact hk

def isS (c t : Int) (m : Bool) : Der → Bool | .mk c' t' m' _ _ => decide (c' = c) && (decide (t' = t) && (m' == m))
def Der.kids : Der → List Der | .mk _ _ _ _ ks => ks

theorem shapeIs_c {c t : Int} {m : Bool} {d : Der} {cs : List AV} {F : Nat → Prop} (D : DV h F d cs) (hq : Q (.b (isS c t m d)) h) : C G_certificate_shape_is.id [shp c t m, .ag cs] h Q := by
  refine G_certificate_shape_is.call ?_
  simp only [G_certificate_shape_is.t]
  refine st_box rfl fun h1 hl1 U1 R1 => ?_
  have D1 := D.ext U1
  refine D1.box fun h2 hl2 U2 R2 D2 => ?_
  have R1' := R1.upd U2 fun h => h
  have hcl := D.len
  cases D with
  | @mk c' t' m' s ks v rows ks1 sv1 f1 o1 =>
  refine st_fld (st_load R2 hcl.symm rfl (st_asI (st_fld (st_load R2 hcl.symm rfl (st_asI (st_fld (st_load R2 hcl.symm rfl (st_asB ?_))))))))
  refine st_loadN R1' rfl ?_
  refine shape_eq (st_asB ?_)
  exact kRet_pure rfl (U1.trans U2 fun _ _ h => h).ext hq

theorem DV.kidsLen {d : Der} {cs : List AV} {F : Nat → Prop} (D : DV h F d cs) : ∃ v rows, cs[4]? = some v ∧ DVs h F d.kids rows ∧ SArg 5 h v rows.flatten rows.length ∧ rows.length = d.kids.length ∧ (∀ i, SlAt v i → F i ∧ i < h.length) := by
  cases D with
  | @mk c' t' m' s ks v rows ks1 sv1 f1 o1 => exact ⟨v, rows, rfl, ks1, sv1, ks1.length.symm, f1⟩

/-- list: the kids, and whether they are as many. -/
theorem list_c {c t n : Int} {m : Bool} {d : Der} {cs : List AV} {F : Nat → Prop} (D : DV h F d cs) {v : AV} (hv : cs[4]? = some v) (hq : ∀ h', Upd (fun _ => False) h h' → Q (.tu [v, .b (isS c t m d && (decide (n < 0) || decide ((d.kids.length : Int) = n)))]) h') :
    C G_certificate_shape_list.id [shp c t m, .ag cs, .i .i64 n] h Q := by
  refine G_certificate_shape_list.call ?_
  simp only [G_certificate_shape_list.t, G_certificate_shape_list.j0]
  refine st_box rfl fun h1 hl1 U1 R1 => ?_
  have D1 := D.ext U1
  refine D1.box fun h2 hl2 U2 R2 D2 => ?_
  have R1' := R1.upd U2 fun h => h
  have hcl := D.len
  obtain ⟨v', rows, hv', hks, hsa, hrl, _⟩ := D2.kidsLen
  rw [hv] at hv'; cases hv'
  have p0 : ∀ b, b = (isS c t m d && (decide (n < 0) || decide ((d.kids.length : Int) = n))) → G_certificate_shape_list.p0 (kRet h Q) v b h2 := by
    intro b hb
    refine G_certificate_shape_list.i0 ?_
    simp only [G_certificate_shape_list.t0]
    subst hb
    exact .inl (hq h2 (U1.trans U2 fun _ _ h => h))
  refine st_fld (st_load R2 hcl.symm hv (st_loadN R1' rfl (st_loadN R2 hcl.symm ?_)))
  refine shapeIs_c D2 (st_asB (st_load R2 hcl.symm hv ⟨rfl, ?_⟩))
  refine bif_both (fun e => ?_) fun e => p0 _ (by rw [e]; rfl)
  refine bif_both (fun e2 => p0 _ (by rw [e, e2]; rfl)) fun e2 => ?_
  refine st_fld (st_load R2 hcl.symm hv (hsa.len (p0 _ ?_)))
  rw [e, e2, hrl]; rfl

end
end Go.Proofs.YtomghnmoomodiaaGreatDoor

/- certificate.Name. -/
set_option linter.unusedVariables false
set_option linter.unusedSimpArgs false
set_option linter.unusedSectionVars false
set_option maxRecDepth 20000
namespace Go.Proofs.YtomghnmoomodiaaGreatDoor
open Go.GAM Go.RowKit

theorem DV.cells' {h : AHeap} {F : Nat → Prop} {d : Der} {cs : List AV} (D : DV h F d cs) : cs.all AV.cellOK = true := by
  cases D with
  | mk _ _ _ hc => simp [AV.cellOK] at hc ⊢; exact hc

def attrOf (o : List UInt8) : List UInt8 := attrs.foldl (fun n x => if x.2 = o then x.1 else n) []
def sps : List UInt8 := [92, 44, 61]
/-- The text of an attribute. -/
def pairS (a b : Der) : Option (List UInt8) :=
  if (oidS a).2 = true ∧ (dtxtS b).2 = true ∧ attrOf (oidS a).1 ≠ [] then some ((attrOf (oidS a).1 ++ [61]) ++ escS sps (dtxtS b).1) else none
def setS (s : Der) : Option (List UInt8) :=
  if isS 0 17 true s = true then match s.kids with
    | [k] => if isS 0 16 true k = true then match k.kids with
      | [a, b] => pairS a b
      | _ => none
      else none
    | _ => none
  else none
def nameK : List Der → Option (List (List UInt8))
  | [] => some []
  | s :: r => match setS s with
    | none => none
    | some x => match nameK r with
      | none => none
      | some l => some (x :: l)
def nameS (d : Der) : Option (List UInt8) := if isS 0 16 true d = true then (nameK d.kids).map fun l => Lib.join l [44] else none
def nameR : Option (List UInt8) → AV
  | none => .tu [.s [], .i .i64 2]
  | some t => .tu [.s t, .i .i64 0]

/-- The texts within are short. -/
def shortN (d : Der) : Prop := d.kids.length ≤ 4000 ∧ ∀ s ∈ d.kids, ∀ k ∈ s.kids, ∀ x ∈ k.kids, x.data.length ≤ 100000

theorem attrOf_len (o : List UInt8) : (attrOf o).length ≤ 2 := by
  have : ∀ (l : List (List UInt8 × List UInt8)) (n : List UInt8), n.length ≤ 2 → (∀ x ∈ l, x.1.length ≤ 2) → (l.foldl (fun n x => if x.2 = o then x.1 else n) n).length ≤ 2 := by
    intro l
    induction l with
    | nil => intro n hn _; exact hn
    | cons x l ih =>
      intro n hn hl
      rw [List.foldl_cons]
      refine ih _ ?_ fun y hy => hl y (by simp [hy])
      split
      · exact hl x (by simp)
      · exact hn
  exact this attrs [] (by simp) (by decide)
theorem sps_nd : sps.Nodup := by decide
theorem dtxt_len (b : Der) : (dtxtS b).1.length ≤ b.data.length := by unfold dtxtS; split <;> simp
theorem pairS_len {a b : Der} {x : List UInt8} (h : pairS a b = some x) (hb : b.data.length ≤ 100000) : x.length ≤ 200010 := by
  unfold pairS at h
  split at h
  · cases h
    have h1 := attrOf_len (oidS a).1
    have h2 := escS_len sps_nd (dtxtS b).1
    have h3 := sumC_le sps_nd (dtxtS b).1
    have h4 := dtxt_len b
    simp only [List.length_append, List.length_cons, List.length_nil]; omega
  · cases h
theorem setS_len {s : Der} {x : List UInt8} (h : setS s = some x) (hb : ∀ k ∈ s.kids, ∀ x ∈ k.kids, x.data.length ≤ 100000) : x.length ≤ 200010 := by
  unfold setS at h
  split at h
  · split at h
    · rename_i k hk
      split at h
      · split at h
        · rename_i a b hab
          exact pairS_len h (hb k (by rw [hk]; simp) b (by rw [hab]; simp))
        · cases h
      · cases h
    · cases h
  · cases h

theorem join_len (sep : UInt8) (M : Nat) : ∀ l : List (List UInt8), (∀ x ∈ l, x.length ≤ M) → (Lib.join l [sep]).length ≤ l.length * (M + 1)
  | [], _ => by simp [Lib.join_nil]
  | x :: r, h => by
    rw [Lib.join_cons, List.length_append, List.length_cons]
    have hx := h x (by simp)
    have key : ∀ r : List (List UInt8), (∀ x ∈ r, x.length ≤ M) → (Lib.joinTail [sep] r).length ≤ r.length * (M + 1) := by
      intro r
      induction r with
      | nil => intro _; simp [Lib.joinTail]
      | cons y r ih =>
        intro hr
        have := ih fun z hz => hr z (by simp [hz])
        have hy := hr y (by simp)
        unfold Lib.joinTail at *
        simp only [List.map_cons, List.flatten_cons, List.length_append, List.length_cons, List.length_nil, Nat.add_mul, Nat.one_mul] at *
        omega
    have := key r fun z hz => h z (by simp [hz])
    rw [Nat.add_mul, Nat.one_mul]; omega

section
variable {h : AHeap} {Q : AV → AHeap → Prop}

/-- What Name answers from a place on. -/
def restR (ok : Bool) (done : List (List UInt8)) (r : List Der) : Option (List UInt8) := match nameK r with
  | none => none
  | some l => if ok = true then some (Lib.join (done ++ l) [44]) else none

theorem SArg.row {h : AHeap} {F : Nat → Prop} {v : AV} {ks : List Der} {rows : List (List AV)} (hks : DVs h F ks rows) (S : SArg 5 h v rows.flatten rows.length) {i : Nat} {k : Der} (hk : ks[i]? = some k) :
    ∃ id ver off cap r, v = .sl (some ⟨id, ver, off⟩) rows.length cap ∧ DV h F k r ∧
      ∀ h', Upd (fun _ => False) h h' → (∀ (kk : IntKind) (K : AV → Prop), K (.p (some ⟨id, ver, off + i * 5⟩)) → pIdxAddrSl 5 v (.i kk (i : Int)) h' K) ∧ ∀ K : AV → Prop, K (.ag r) → pLoadN 5 (.p (some ⟨id, ver, off + i * 5⟩)) h' K := by
  obtain ⟨r, hr, D⟩ := hks.get hk
  have hi : i < rows.length := lt_of_some hr
  obtain ⟨id, ver, off, cap, b, rfl, RA⟩ := S.at (by omega)
  refine ⟨id, ver, off, cap, r, rfl, D, fun h' U => ?_⟩
  have RA' := RA.upd U fun h => h
  exact ⟨fun kk K hK => st_idx RA' hi hK, fun K hK => st_elemN RA' hi (rows_get rows i r hks.len5 hr) hK⟩

theorem name_p1 {x5 x10 x14 : Bool} {x6 v va : AV} {x12 x13 : List UInt8} {n i : Int} {h0 : AHeap} (hA : RdI 2 h0 va (attrs.flatMap fun x => [.s x.1, .s x.2]) 4)
    (next : ∀ (h' : AHeap) (b : Bool), Upd (fun _ => False) h h' → b = !(x10 && (x14 && !(decide (attrOf x12 = [])))) → G_certificate_Name.p3 Q x5 x6 x13 (attrOf x12) v n i b h') :
    ∀ (k j : Nat) (hx : AHeap), 4 = j + k → Upd (fun _ => False) h0 hx → Upd (fun _ => False) h hx → G_certificate_Name.p1 Q x5 x6 x10 x12 x13 x14 ((attrs.take j).foldl (fun n x => if x.2 = x12 then x.1 else n) []) v n i va 4 (j : Int) hx := by
  intro k
  induction k with
  | zero =>
    intro j hx hj U0 U
    obtain rfl : j = 4 := by omega
    refine G_certificate_Name.i1 ?_
    simp only [G_certificate_Name.t1, G_certificate_Name.j3]
    refine bif_f (by decide) ?_
    have e : (attrs.take 4).foldl (fun n x => if x.2 = x12 then x.1 else n) [] = attrOf x12 := rfl
    rw [e]
    cases x10 with
    | false => exact bif_t rfl (next hx true U (by simp))
    | true =>
      refine bif_f rfl ?_
      cases x14 with
      | false => exact bif_t rfl (next hx true U (by simp))
      | true => exact bif_f rfl (next hx _ U (by simp))
  | succ k ih =>
    intro j hx hj U0 U
    obtain ⟨x, hc⟩ : ∃ x, attrs[j]? = some x := ⟨attrs[j]'(by show j < 4; omega), List.getElem?_eq_getElem _⟩
    have htk := take_snoc hc
    refine G_certificate_Name.i1 ?_
    simp only [G_certificate_Name.t1, G_certificate_Name.j2]
    refine bif_t (decide_eq_true (by omega)) ?_
    have hrow : ((attrs.flatMap fun x => [AV.s x.1, AV.s x.2]).drop (j * 2)).take 2 = [.s x.1, .s x.2] := by
      have : ∀ j x, attrs[j]? = some x → ((attrs.flatMap fun x => [AV.s x.1, AV.s x.2]).drop (j * 2)).take 2 = [.s x.1, .s x.2] := by
        intro j x hjx
        have hj4 : j < 4 := lt_of_some hjx
        match j, hj4 with
        | 0, _ => simp [attrs] at hjx ⊢; subst hjx; simp
        | 1, _ => simp [attrs] at hjx ⊢; subst hjx; simp
        | 2, _ => simp [attrs] at hjx ⊢; subst hjx; simp
        | 3, _ => simp [attrs] at hjx ⊢; subst hjx; simp
      exact this j x hc
    refine RdI.elem (hA.ext U0) (by omega) (by omega) ?_
    simp only [Int.toNat_natCast]
    rw [hrow]
    refine st_alloc fun h1 hl1 U1 R1 => ?_
    refine st_storeN R1 rfl rfl rfl fun h2 hl2 U2 R2 => ?_
    have U02 : Upd (fun _ => False) hx h2 := U1.trans U2 fun i hi e => by omega
    have nxt : ∀ x15, x15 = (attrs.take (j + 1)).foldl (fun n x => if x.2 = x12 then x.1 else n) [] → G_certificate_Name.p2 Q x5 x6 x10 x12 x13 x14 x15 v n i va 4 (j : Int) h2 := by
      intro x15 he
      refine G_certificate_Name.i2 ?_
      simp only [G_certificate_Name.t2, G_certificate_Name.j1]
      subst he
      exact inc (by omega) (ih (j + 1) h2 (by omega) (U0.trans U02 fun _ _ h => h) (U.trans U02 fun _ _ h => h))
    refine st_fld (st_load R2 rfl rfl (st_asS ?_))
    refine bif_both (fun e => ?_) fun e => ?_
    · refine st_fld (st_load R2 rfl rfl (st_asS (nxt _ ?_)))
      rw [htk, List.foldl_append, List.foldl_cons, List.foldl_nil, if_pos (of_decide_eq_true e)]
    · refine nxt _ ?_
      rw [htk, List.foldl_append, List.foldl_cons, List.foldl_nil, if_neg (of_decide_eq_false e)]

theorem pairR (ok : Bool) (done : List (List UInt8)) (s : Der) (r : List Der) : restR ok done (s :: r) = match setS s with
    | none => none
    | some x => restR ok (done ++ [x]) r := by
  have e : nameK (s :: r) = match setS s with
    | none => none
    | some x => match nameK r with
      | none => none
      | some l => some (x :: l) := rfl
  unfold restR
  rw [e]
  cases setS s with
  | none => rfl
  | some x => cases nameK r <;> simp

theorem name_p0 (G : CG h) {F : Nat → Prop} {d : Der} (hB : shortN d) {v : AV} {rows : List (List AV)} (hks : DVs h F d.kids rows) (hsa : SArg 5 h v rows.flatten rows.length) {ok : Bool} :
    ∀ (r : List Der) (i : Nat) (v6 : AV) (done : List (List UInt8)) (hx : AHeap), d.kids.drop i = r → i ≤ d.kids.length → Upd (fun _ => False) h hx → NewS h hx v6 (done.map .s) → done.length ≤ i → (∀ x ∈ done, x.length ≤ 200010) →
    Q (nameR (restR ok done r)) h → G_certificate_Name.p0 (kRet h Q) ok v6 v (rows.length : Int) (i : Int) hx := by
  have hrl := hks.length
  intro r
  induction r with
  | nil =>
    intro i v6 done hx hr hi U S hd hdl hq
    have hle := drop_end hr
    have hN := hB.1
    refine G_certificate_Name.i0 ?_
    simp only [G_certificate_Name.t0]
    refine bif_f (decide_eq_false (by omega)) ?_
    have hq : Q (nameR (if ok = true then some (Lib.join (done ++ []) [44]) else none)) h := hq
    rw [List.append_nil] at hq
    cases ok with
    | false => exact bif_t rfl (kRet_pure rfl U.ext hq)
    | true =>
      refine bif_f rfl (join_c (ls := done) ?_ ?_ (by omega) (st_asS (kRet_pure rfl U.ext hq)))
      · have := S.stk.rd; rwa [List.length_map] at this
      · have h1 := join_len 44 200010 done hdl
        have h2 : done.length * (200010 + 1) ≤ 4000 * (200010 + 1) := Nat.mul_le_mul_right _ (by omega)
        omega
  | cons s r ih =>
    intro i v6 done hx hr hi U S hd hdl hq
    have hN := hB.1
    have hlt := drop_lt hr
    have hnx := drop_next hr
    have hsi := at_of_drop hr
    have hsm := List.mem_of_getElem? hsi
    rw [pairR] at hq
    refine G_certificate_Name.i0 ?_
    simp only [G_certificate_Name.t0, G_certificate_Name.j1]
    refine bif_t (decide_eq_true (by omega)) ?_
    obtain ⟨id, ver, off, cap, rw1, rfl, Ds, hrd⟩ := SArg.row hks hsa hsi
    obtain ⟨k1, k2⟩ := hrd hx U
    refine k1 _ _ (k2 _ ?_)
    have hcl := Ds.len
    refine st_alloc fun h1 hl1 U1 R1 => ?_
    refine st_storeN R1 rfl hcl Ds.cells' fun h2 hl2 U2 R2 => ?_
    have Ux2 : Upd (fun _ => False) hx h2 := U1.trans U2 fun i hi e => by omega
    have U02 : Upd (fun _ => False) h h2 := U.trans Ux2 fun _ _ h => h
    refine (G.ext U02).set.loadN rfl (st_loadN R2 hcl.symm ?_)
    have Ds2 := Ds.ext U02
    obtain ⟨vs, rs, hvs, hkss, hsas, hrls, _⟩ := Ds2.kidsLen
    refine list_c Ds2 hvs fun h3 U3 => ?_
    refine st_ext0 (st_ext1 (st_asB ?_))
    have U03 := U02.trans U3 fun _ _ h => h
    have fail : ∀ hy, Upd (fun _ => False) h hy → setS s = none → kRet h Q (.tu [.s [], .i .i64 2]) hy := by
      intro hy Uy he
      rw [he] at hq
      exact kRet_pure rfl Uy.ext hq
    refine bif_both (fun e => fail _ U03 ?_) fun e => ?_
    · unfold setS
      split
      · rename_i hs
        split
        · rename_i k hk
          rw [hs, hk] at e
          simp at e
        · rfl
      · rfl
    have e : isS 0 17 true s = true ∧ s.kids.length = 1 := by
      simp at e
      exact ⟨e.1, by omega⟩
    obtain ⟨k, hk⟩ : ∃ k, s.kids = [k] := by
      match hh : s.kids with
      | [k] => exact ⟨k, rfl⟩
      | [] => rw [hh] at e; simp at e
      | _ :: _ :: _ => rw [hh] at e; simp at e
    have hset : setS s = if isS 0 16 true k = true then (match k.kids with
      | [a, b] => pairS a b
      | _ => none) else none := by
      unfold setS
      rw [if_pos e.1, hk]
    refine (G.ext U03).seq.loadN rfl ?_
    obtain ⟨id1, ver1, off1, cap1, rw2, rfl, Dk, hrd1⟩ := SArg.row hkss hsas (i := 0) (k := k) (by rw [hk]; rfl)
    obtain ⟨m1, m2⟩ := hrd1 h3 U3
    refine m1 _ _ (m2 _ ?_)
    have Dk3 := Dk.ext U3
    obtain ⟨vk, rk, hvk, hksk, hsak, hrlk, _⟩ := Dk3.kidsLen
    refine list_c Dk3 hvk fun h4 U4 => ?_
    have U04 := U03.trans U4 fun _ _ h => h
    obtain ⟨n1, n2⟩ := hrd1 h4 (U3.trans U4 fun _ _ h => h)
    refine n1 _ _ ⟨rfl, ?_⟩
    refine st_ext0 (st_ext1 (st_asB ?_))
    refine bif_both (fun e2 => fail _ U04 ?_) fun e2 => ?_
    · rw [hset]
      split
      · rename_i hs
        split
        · rename_i a b hab
          rw [hs, hab] at e2
          simp at e2
        · rfl
      · rfl
    have e2 : isS 0 16 true k = true ∧ k.kids.length = 2 := by
      simp at e2
      exact ⟨e2.1, by omega⟩
    obtain ⟨a, b, hab⟩ : ∃ a b, k.kids = [a, b] := by
      match hh : k.kids with
      | [a, b] => exact ⟨a, b, rfl⟩
      | [] => rw [hh] at e2; simp at e2
      | [_] => rw [hh] at e2; simp at e2
      | _ :: _ :: _ :: _ => rw [hh] at e2; simp at e2
    have hset : setS s = pairS a b := by rw [hset, if_pos e2.1, hab]
    have hkm : k ∈ s.kids := by rw [hk]; simp
    have hda := hB.2 s hsm k hkm a (by rw [hab]; simp)
    have hdb := hB.2 s hsm k hkm b (by rw [hab]; simp)
    obtain ⟨id2, ver2, off2, cap2, ra, hva, Da, hrda⟩ := SArg.row hksk hsak (i := 0) (k := a) (by rw [hab]; rfl)
    obtain ⟨id3, ver3, off3, cap3, rb, hvb, Db, hrdb⟩ := SArg.row hksk hsak (i := 1) (k := b) (by rw [hab]; rfl)
    subst hva
    cases hvb
    obtain ⟨a1, a2⟩ := hrda h4 U4
    obtain ⟨b1, b2⟩ := hrdb h4 U4
    refine a1 _ _ (a2 _ ?_)
    refine oid_c (Da.ext U4) hda (st_ext0 (st_asS (st_ext1 (st_asB ?_))))
    refine b1 _ _ (b2 _ ?_)
    refine dtxt_c (Db.ext U4) hdb (st_ext0 (st_asS (st_ext1 (st_asB ?_))))
    obtain ⟨va, g1, g2⟩ := (G.ext U04).att
    refine g1.load1 (g2.len ?_)
    refine name_p1 g2 (fun h5 bb U5 hb => ?_) 4 0 h4 rfl (Upd.refl _ _) (Upd.refl _ _)
    have U05 := U04.trans U5 fun _ _ h => h
    refine G_certificate_Name.i3 ?_
    simp only [G_certificate_Name.t3, G_certificate_Name.j0]
    refine bif_both (fun e3 => fail _ U05 ?_) fun e3 => ?_
    · rw [hset]
      unfold pairS
      rw [if_neg]
      intro hh
      rw [e3, hh.1, hh.2.1] at hb
      simp at hb
      exact hh.2.2 hb
    have hh : (oidS a).2 = true ∧ (dtxtS b).2 = true ∧ attrOf (oidS a).1 ≠ [] := by
      rw [e3] at hb
      have hb := hb.symm
      simp at hb
      exact hb
    have hset : setS s = some ((attrOf (oidS a).1 ++ [61]) ++ escS sps (dtxtS b).1) := by
      rw [hset]; unfold pairS; rw [if_pos hh]
    have hxl := setS_len hset fun k hk x hx => hB.2 s hsm k hk x hx
    rw [hset] at hq
    have hl1 := attrOf_len (oidS a).1
    have hl2 := dtxt_len b
    refine ⟨by simp; omega, ?_⟩
    refine st_build (cs := (pairsS sps).map .s) rfl rfl fun y h6 hl6 U6 R6 F6 => ?_
    refine newRep_c (sp := sps) (by decide) R6 (by decide) fun idp h7 U7 hn7 N7 => ?_
    refine replace_c (sp := sps) (by omega) sps_nd (by decide) (by decide) N7 fun h8 U8 _ => ?_
    refine st_asS ⟨by simp only [List.length_append, List.length_cons, List.length_nil] at hxl ⊢; omega, ?_⟩
    have U58 : Upd (fun _ => False) h5 h8 := ((U6.trans U7 fun _ _ h => h).trans U8 fun i hi e => by have := U6.1; omega)
    have U08 := U05.trans U58 fun _ _ h => h
    have Ux8 : Upd (fun _ => False) hx h8 := (((Ux2.trans U3 fun _ _ h => h).trans U4 fun _ _ h => h).trans U5 fun _ _ h => h).trans U58 fun _ _ h => h
    have S8 : NewS h h8 v6 (done.map .s) := ⟨U08, S.stk.upd Ux8 fun _ _ h => h, S.new⟩
    refine NewS.push S8 rfl rfl (by simp; omega) (by simp; omega) fun v' h9 S9 U9 _ => ?_
    refine inc (by omega) (ih (i + 1) v' (done ++ [(attrOf (oidS a).1 ++ [61]) ++ escS sps (dtxtS b).1]) h9 hnx (by omega) S9.upd (by simpa using S9) (by simp; omega) (fun x hx => ?_) hq)
    rcases List.mem_append.1 hx with h | h
    · exact hdl x h
    · simp at h; subst h; simpa using hxl

theorem name_c (G : CG h) {F : Nat → Prop} {d : Der} {cs : List AV} (D : DV h F d cs) (hB : shortN d) (hq : Q (nameR (nameS d)) h) : C G_certificate_Name.id [.ag cs] h Q := by
  refine G_certificate_Name.call ?_
  simp only [G_certificate_Name.t, G_certificate_Name.j0]
  refine D.box fun h1 hl1 U1 R1 D1 => ?_
  refine (G.ext U1).seq.loadN rfl (st_loadN R1 D.len.symm ?_)
  obtain ⟨v, rows, hv, hks, hsa, hrl, _⟩ := D1.kidsLen
  refine list_c D1 hv fun h2 U2 => st_ext0 (st_ext1 (st_asB ?_))
  have U02 := U1.trans U2 fun _ _ h => h
  obtain ⟨v', rows', hv', hks', hsa', hrl', _⟩ := D.kidsLen
  have hdv : v' = v := by rw [hv] at hv'; exact (Option.some.inj hv').symm
  subst hdv
  have hsl : ∀ K : Int → Prop, K (rows'.length : Int) → pLenSl v' K := fun K hk => hsa'.len hk
  refine hsl _ ?_
  have e : (isS 0 16 true d && (decide ((-1 : Int) < 0) || decide ((d.kids.length : Int) = -1))) = isS 0 16 true d := by
    rw [show decide ((-1 : Int) < 0) = true by decide, Bool.true_or, Bool.and_true]
  rw [e]
  refine name_p0 G hB hks' hsa' d.kids 0 _ [] h2 rfl (by omega) U02 ⟨U02, .inl ⟨rfl, rfl⟩, fun _ h => h.elim⟩ (by simp) (fun x hx => by cases hx) ?_
  have e2 : restR (isS 0 16 true d) [] d.kids = nameS d := by
    unfold restR nameS
    cases nameK d.kids with
    | none => simp
    | some l => by_cases hh : isS 0 16 true d = true <;> simp [hh]
  rw [e2]; exact hq

end
end Go.Proofs.YtomghnmoomodiaaGreatDoor

/- certificate.NameOf and Common. -/
set_option linter.unusedVariables false
set_option linter.unusedSimpArgs false
set_option linter.unusedSectionVars false
set_option maxRecDepth 20000
namespace Go.Proofs.YtomghnmoomodiaaGreatDoor
open Go.GAM Go.RowKit

section
variable {h : AHeap} {Q : AV → AHeap → Prop}

theorem shapeOf_c {c t : Int} {m : Bool} {v : AV} (hv : ∃ a n cap, v = .sl a n cap) (hq : ∀ h', Upd (fun _ => False) h h' → Q (.ag [.i .i64 c, .i .i64 t, .b true, .s [], v]) h') : C G_certificate_shape_of.id [shp c t m, v] h Q := by
  obtain ⟨a, n, cap, rfl⟩ := hv
  refine G_certificate_shape_of.call ?_
  simp only [G_certificate_shape_of.t]
  refine st_box rfl fun h1 hl1 U1 R1 => ?_
  refine st_alloc fun h2 hl2 U2 R2 => ?_
  have R1' := R1.upd U2 fun h => h
  refine st_fld (st_load R1' rfl rfl (st_asI (st_fld (st_load R1' rfl rfl (st_asI ?_)))))
  refine st_pbA (cs := [.i .i64 c, .i .i64 t, .b true, .s [], .sl a n cap]) rfl ?_
  refine st_storeN R2 rfl rfl rfl fun h3 hl3 U3 R3 => st_loadN R3 rfl ?_
  exact .inl (hq h3 ((U1.trans U2 fun _ _ h => h).trans U3 fun i hi e => by omega))

theorem shapeVal_c {c t : Int} {m : Bool} {s : List UInt8} (hq : Q (.ag (leafC c t false s)) h) : C G_certificate_shape_value.id [shp c t m, .s s] h Q := by
  refine G_certificate_shape_value.call ?_
  simp only [G_certificate_shape_value.t]
  refine st_box rfl fun h1 hl1 U1 R1 => ?_
  refine st_alloc fun h2 hl2 U2 R2 => ?_
  have R1' := R1.upd U2 fun h => h
  refine st_fld (st_load R1' rfl rfl (st_asI (st_fld (st_load R1' rfl rfl (st_asI ?_)))))
  refine st_storeN R2 rfl rfl rfl fun h3 hl3 U3 R3 => st_loadN R3 rfl ?_
  exact kRet_pure rfl ((U1.trans U2 fun _ _ h => h).trans U3 fun i hi e => by omega).ext hq

/-- The data of the object identifier of an attribute. -/
def oidDat (o : List UInt8) : List UInt8 := match oidOfS o with
  | .ok l => l
  | .error _ => []
theorem attr_oid : ∀ x ∈ attrs, oidOfS x.2 = .ok (oidDat x.2) ∧ (oidDat x.2).length ≤ 10 := by
  intro x hx
  simp only [attrs, List.mem_cons, List.not_mem_nil, or_false] at hx
  rcases hx with rfl | rfl | rfl | rfl
  · exact ⟨by kernel_rfl, by decide +kernel⟩
  · exact ⟨by kernel_rfl, by decide +kernel⟩
  · exact ⟨by kernel_rfl, by decide +kernel⟩
  · exact ⟨by kernel_rfl, by decide +kernel⟩

def kidOf (o text : List UInt8) : Der := .mk 0 17 true [] [.mk 0 16 true [] [.mk 0 6 false (oidDat o) [], .mk 0 12 false (plainE text) []]]
def kidsOf (part : List UInt8) : List Der := attrs.flatMap fun x => if x.1 = (cutS part 61).1 then [kidOf x.2 (cutS part 61).2.1] else []
def outOf (ks : List Der) : Der := .mk 0 16 true [] ks
def nameOfS (s : List UInt8) : Der × Int :=
  if 512 < s.length then (.zero, 3) else if s = [] then (outOf [], 0) else
    if nameS (outOf ((splitE [] s).flatMap kidsOf)) = some s then (outOf ((splitE [] s).flatMap kidsOf), 0) else (.zero, 5)

theorem Arr.cell {sz : Nat} {h : AHeap} {v : AV} {cs : List AV} {n : Nat} (A : Arr sz h v cs n) : v.parts = [v] ∧ v.sizeOK = true ∧ v.cellOK = true := by
  rcases A with ⟨rfl, _⟩ | ⟨_, _, rfl, _⟩ <;> exact ⟨rfl, rfl, rfl⟩

/-- The list of kids while it is made: the call began at h0, the loop at hb. -/
structure NSt (h0 hb h : AHeap) (id0 id1 : Nat) (v : AV) (ks : List Der) : Prop where
  ub : Upd (fun _ => False) h0 hb
  upd : Upd (· = id1) hb h
  n0 : h0.length ≤ id0
  n1 : h0.length ≤ id1
  l0 : id0 < hb.length
  l1 : id1 < hb.length
  ne : id0 ≠ id1
  r0 : RecAt h id0 z5
  r1 : RecAt h id1 [.i .i64 0, .i .i64 16, .b true, .s [], v]
  arr : ∃ rows, Arr 5 h v rows.flatten rows.length ∧ DVs h (fun i => hb.length ≤ i ∧ ¬ SlAt v i) ks rows
  new : ∀ i, SlAt v i → hb.length ≤ i

theorem NSt.ext {h0 hb h h' : AHeap} {id0 id1 : Nat} {v : AV} {ks : List Der} (S : NSt h0 hb h id0 id1 v ks) (U : Upd (fun _ => False) h h') : NSt h0 hb h' id0 id1 v ks := by
  obtain ⟨rows, A, D⟩ := S.arr
  exact ⟨S.ub, S.upd.trans (U.mono fun _ _ h => h.elim) fun _ _ h => h, S.n0, S.n1, S.l0, S.l1, S.ne, S.r0.upd U fun h => h, S.r1.upd U fun h => h, ⟨rows, A.upd U fun _ _ h => h, D.upd U fun i hi _ => ⟨fun h => h, hi⟩⟩, S.new⟩

theorem NSt.low {h0 hb h : AHeap} {id0 id1 : Nat} {v : AV} {ks : List Der} (S : NSt h0 hb h id0 id1 v ks) : Upd (fun _ => False) h0 h :=
  S.ub.trans S.upd fun i hi e => by have := S.n1; omega

theorem NSt.val {h0 hb h : AHeap} {id0 id1 : Nat} {v : AV} {ks : List Der} (S : NSt h0 hb h id0 id1 v ks) : DV h (fun i => h0.length ≤ i) (outOf ks) [.i .i64 0, .i .i64 16, .b true, .s [], v] := by
  obtain ⟨rows, A, D⟩ := S.arr
  have hb0 := S.ub.1
  exact .mk (D.upd (Upd.refl (fun _ => False) h) fun i hi _ => ⟨fun h => h, by omega⟩) (.inl A.rd) (fun i hi => ⟨by have := S.new i hi; omega, A.rd.lt hi⟩) (Arr.cell A).2.2

/-- A kid is put at the end. -/
theorem NSt.push {h0 hb h : AHeap} {id0 id1 : Nat} {v y : AV} {ks : List Der} {k : Der} {r : List AV} {ty : Option TypeId} (S : NSt h0 hb h id0 id1 v ks) (hn : ks.length ≤ 4000) (R : Rd 5 h y r 1) (hrl : r.length = 5) (hrc : r.all AV.cellOK = true)
    (D : DV h (fun i => hb.length ≤ i ∧ ¬ SlAt v i) k r) {K : AV → AHeap → Prop}
    (hk : ∀ v' h', Upd (SlAt v) h h' → RecAt h' id1 [.i .i64 0, .i .i64 16, .b true, .s [], v] → (v'.parts = [v'] ∧ v'.sizeOK = true ∧ v'.cellOK = true) → (∀ h'', h''.length = h'.length → Upd (· = id1) h' h'' → RecAt h'' id1 [.i .i64 0, .i .i64 16, .b true, .s [], v'] → NSt h0 hb h'' id0 id1 v' (ks ++ [k])) → K v' h') :
    pAppend ty 5 64 v y h K := by
  obtain ⟨rows, A, Ds⟩ := S.arr
  have hrows := Ds.length
  have hl0 := S.l0
  have hl1 := S.l1
  have hbh := S.upd.1
  refine A.append (by decide) (ns := r) (k := 1) (fun K hK => R.news hK) (by omega) hrc (by omega) (by omega) fun v' h' U A' F => ?_
  have out : ∀ i, i < hb.length → ¬ SlAt v i := fun i hi hs => by have := S.new i hs; omega
  refine hk v' h' U (S.r1.upd U (out _ hl1)) (Arr.cell A') fun h'' hl'' U'' R'' => ?_
  have hnew' : ∀ i, SlAt v' i → hb.length ≤ i := fun i hi => by
    rcases F i hi with hh | hh
    · exact S.new i hh
    · omega
  have Dall := Ds.app D
  have e1 : (rows ++ [r]).flatten = rows.flatten ++ r := by simp
  have e2 : (rows ++ [r]).length = rows.length + 1 := by simp
  refine ⟨S.ub, (S.upd.trans U fun i hi hs => absurd hs (out i hi)).trans U'' fun _ _ h => h, S.n0, S.n1, hl0, hl1, S.ne, (S.r0.upd U (out _ hl0)).upd U'' S.ne, R'', ⟨rows ++ [r], ?_, ?_⟩, hnew'⟩
  · rw [e1, e2]
    exact A'.upd U'' fun i hi e => by have := hnew' i hi; omega
  · have D1 : DVs h' (fun i => hb.length ≤ i ∧ ¬ SlAt v' i) (ks ++ [k]) (rows ++ [r]) := Dall.upd U fun i hi hil => ⟨hi.2, hi.1, fun hs => by
      rcases F i hs with hh | hh
      · exact hi.2 hh
      · omega⟩
    exact D1.upd U'' fun i hi _ => ⟨by omega, hi⟩

theorem nameOf_p1 {h0 hb : AHeap} (G : CG h0) {va : AV} (gva : GlAt h0 2 [va]) (hA : RdI 2 h0 va (attrs.flatMap fun x => [.s x.1, .s x.2]) 4) {id0 id1 : Nat} {s name text : List UInt8} {x26 : AV} {n27 i28 : Int} (ht : text.length ≤ 1000000) {ks0 : List Der} (hk0 : ks0.length ≤ 3000)
    (next : ∀ v h', NSt h0 hb h' id0 id1 v (ks0 ++ attrs.flatMap fun x => if x.1 = name then [kidOf x.2 text] else []) → withI (IntKind.wrap .i64 (i28 + 1)) fun n125 => G_certificate_NameOf.p0 (kRet h0 Q) s (.p (some ⟨id0, 5, 0⟩)) (.p (some ⟨id1, 5, 0⟩)) x26 n27 n125 h') :
    ∀ (k j : Nat) (v : AV) (hx : AHeap), 4 = j + k → NSt h0 hb hx id0 id1 v (ks0 ++ (attrs.take j).flatMap fun x => if x.1 = name then [kidOf x.2 text] else []) →
    G_certificate_NameOf.p1 (kRet h0 Q) s (.p (some ⟨id0, 5, 0⟩)) (.p (some ⟨id1, 5, 0⟩)) name text x26 n27 i28 va 4 (j : Int) hx := by
  intro k
  induction k with
  | zero =>
    intro j v hx hj S
    obtain rfl : j = 4 := by omega
    refine G_certificate_NameOf.i1 ?_
    simp only [G_certificate_NameOf.t1, G_certificate_NameOf.j0]
    exact bif_f (by decide) (next v hx S)
  | succ k ih =>
    intro j v hx hj S
    obtain ⟨x, hc⟩ : ∃ x, attrs[j]? = some x := ⟨attrs[j]'(by show j < 4; omega), List.getElem?_eq_getElem _⟩
    have hxm := List.mem_of_getElem? hc
    have htk := take_snoc hc
    refine G_certificate_NameOf.i1 ?_
    simp only [G_certificate_NameOf.t1, G_certificate_NameOf.j2]
    refine bif_t (decide_eq_true (by omega)) ?_
    have hrow : ((attrs.flatMap fun x => [AV.s x.1, AV.s x.2]).drop (j * 2)).take 2 = [.s x.1, .s x.2] := by
      have : ∀ j x, attrs[j]? = some x → ((attrs.flatMap fun x => [AV.s x.1, AV.s x.2]).drop (j * 2)).take 2 = [.s x.1, .s x.2] := by
        intro j x hjx
        have hj4 : j < 4 := lt_of_some hjx
        match j, hj4 with
        | 0, _ => simp [attrs] at hjx ⊢; subst hjx; simp
        | 1, _ => simp [attrs] at hjx ⊢; subst hjx; simp
        | 2, _ => simp [attrs] at hjx ⊢; subst hjx; simp
        | 3, _ => simp [attrs] at hjx ⊢; subst hjx; simp
      exact this j x hc
    refine RdI.elem (hA.ext S.low) (by omega) (by omega) ?_
    simp only [Int.toNat_natCast]
    rw [hrow]
    refine st_alloc fun h1 hl1 U1 R1 => ?_
    refine st_storeN R1 rfl rfl rfl fun h2 hl2 U2 R2 => ?_
    have U02 : Upd (fun _ => False) hx h2 := U1.trans U2 fun i hi e => by omega
    have S2 := S.ext U02
    have nxt : ∀ v' h', NSt h0 hb h' id0 id1 v' (ks0 ++ (attrs.take (j + 1)).flatMap fun x => if x.1 = name then [kidOf x.2 text] else []) → G_certificate_NameOf.p2 (kRet h0 Q) s (.p (some ⟨id0, 5, 0⟩)) (.p (some ⟨id1, 5, 0⟩)) name text x26 n27 i28 va 4 (j : Int) h' := by
      intro v' h' S'
      refine G_certificate_NameOf.i2 ?_
      simp only [G_certificate_NameOf.t2, G_certificate_NameOf.j1]
      exact inc (by omega) (ih (j + 1) v' h' (by omega) S')
    refine st_fld (st_load R2 rfl rfl (st_asS ?_))
    refine bif_both (fun e => ?_) fun e => nxt v h2 (by
      rw [htk, List.flatMap_append]
      simp only [List.flatMap_cons, List.flatMap_nil, List.append_nil, if_neg (of_decide_eq_false e)]
      exact S2)
    have e := of_decide_eq_true e
    obtain ⟨ho1, ho2⟩ := attr_oid x hxm
    refine st_fld (st_load R2 rfl rfl (st_asS ?_))
    refine oidOf_c fun h3 U3 => ?_
    rw [ho1]
    simp only [oidR]
    refine st_ext0 (st_ext1 (st_asI ?_))
    refine st_alloc fun h4 hl4 U4 R4 => ?_
    refine st_storeN R4 rfl rfl rfl fun h5 hl5 U5 R5 => ?_
    have U25 : Upd (fun _ => False) h2 h5 := (U3.trans U4 fun _ _ h => h).trans U5 fun i hi e => by have := U3.1; omega
    have S5 := S2.ext U25
    -- what is read again and again
    have l65 : ∀ hz (K : AV → Prop), Upd (fun _ => False) h5 hz → K (.ag (leafC 0 6 false (oidDat x.2))) → pLoadN 5 (.p (some ⟨h3.length, 5, 0⟩)) hz K := fun hz K U hK => st_loadN (R5.upd U fun h => h) rfl hK
    have l1 : ∀ hz (K : AV → Prop), Upd (fun _ => False) h5 hz → K (shp 0 16 true) → pLoadN 3 (gvar hz 1) hz K := fun hz K U hK => (G.ext (S5.low.trans U fun _ _ h => h)).seq.loadN rfl hK
    have l3 : ∀ hz (K : AV → Prop), Upd (fun _ => False) h5 hz → K (shp 0 17 true) → pLoadN 3 (gvar hz 3) hz K := fun hz K U hK => (G.ext (S5.low.trans U fun _ _ h => h)).set.loadN rfl hK
    have l69 : ∀ hz (K : AV → Prop), Upd (fun _ => False) h5 hz → K v → pLoad1 (.p (some ⟨id1, 5, 0 + 4⟩)) hz K := fun hz K U hK => st_load (S5.r1.upd U fun h => h) rfl rfl hK
    have r0 := Upd.refl (fun _ => False) h5
    refine st_fld (l69 _ _ r0 (l3 _ _ r0 (l1 _ _ r0 (l65 _ _ r0 ?_))))
    refine cplain_c ht (st_asS ?_)
    refine l65 _ _ r0 ⟨rfl, l1 _ _ r0 ⟨rfl, l3 _ _ r0 ⟨rfl, l69 _ _ r0 ⟨rfl, ?_⟩⟩⟩⟩
    refine shapeVal_c (m := false) ?_
    refine l65 _ _ r0 ⟨rfl, l1 _ _ r0 ⟨rfl, l3 _ _ r0 ⟨rfl, l69 _ _ r0 ⟨rfl, ?_⟩⟩⟩⟩
    refine st_build (cs := leafC 0 6 false (oidDat x.2) ++ leafC 0 12 false (plainE text)) rfl rfl fun y1 h6 hl6 U6 R6 F6 => ?_
    refine l1 _ _ U6 ⟨rfl, l3 _ _ U6 ⟨rfl, l69 _ _ U6 ⟨rfl, ?_⟩⟩⟩
    have hy1 : ∃ a n cap, y1 = .sl a n cap := by
      rcases R6 with ⟨rfl, _⟩ | ⟨_, _, _, _, _, rfl, _⟩ <;> exact ⟨_, _, _, rfl⟩
    refine shapeOf_c hy1 fun h7 U7 => ?_
    have U57 := U6.trans U7 fun _ _ h => h
    refine l65 _ _ U57 ⟨rfl, l3 _ _ U57 ⟨rfl, l69 _ _ U57 ⟨rfl, ?_⟩⟩⟩
    refine st_build (cs := [.i .i64 0, .i .i64 16, .b true, .s [], y1]) (by obtain ⟨a, n, cap, rfl⟩ := hy1; rfl) rfl fun y2 h8 hl8 U8 R8 F8 => ?_
    have U58 := U57.trans U8 fun _ _ h => h
    refine l65 _ _ U58 ⟨rfl, l1 _ _ U58 ⟨rfl, l3 _ _ U58 ⟨rfl, l69 _ _ U58 ⟨rfl, ?_⟩⟩⟩⟩
    have hy2 : ∃ a n cap, y2 = .sl a n cap := by
      rcases R8 with ⟨rfl, _⟩ | ⟨_, _, _, _, _, rfl, _⟩ <;> exact ⟨_, _, _, rfl⟩
    refine shapeOf_c hy2 fun h9 U9 => ?_
    have U59 := U58.trans U9 fun _ _ h => h
    refine l65 _ _ U59 ⟨rfl, l1 _ _ U59 ⟨rfl, l69 _ _ U59 ⟨rfl, ?_⟩⟩⟩
    refine st_build (cs := [.i .i64 0, .i .i64 17, .b true, .s [], y2]) (by obtain ⟨a, n, cap, rfl⟩ := hy2; rfl) rfl fun y3 h10 hl10 U10 R10 F10 => ?_
    have U510 := U59.trans U10 fun _ _ h => h
    refine l65 _ _ U510 ⟨rfl, l1 _ _ U510 ⟨rfl, l3 _ _ U510 ⟨rfl, l69 _ _ U510 ⟨rfl, ?_⟩⟩⟩⟩
    have S10 := S5.ext U510
    have hbh5 := S5.upd.1
    have vlt : ∀ i, SlAt v i → i < h5.length := fun i hi => by obtain ⟨rows, A, _⟩ := S5.arr; exact A.rd.lt hi
    have V1 : DV h10 (fun i => hb.length ≤ i ∧ ¬ SlAt v i) (.mk 0 16 true [] [.mk 0 6 false (oidDat x.2) [], .mk 0 12 false (plainE text) []]) [.i .i64 0, .i .i64 16, .b true, .s [], y1] := by
      have hks : DVs h10 (fun i => hb.length ≤ i ∧ ¬ SlAt v i) [.mk 0 6 false (oidDat x.2) [], .mk 0 12 false (plainE text) []] [leafC 0 6 false (oidDat x.2), leafC 0 12 false (plainE text)] := .cons (DV.leaf _ _ _ _ _ _) (.cons (DV.leaf _ _ _ _ _ _) .nil)
      have R6' := R6.upd (((U7.trans U8 fun _ _ h => h).trans U9 fun _ _ h => h).trans U10 fun _ _ h => h) fun _ _ h => h
      refine .mk hks (.inl (by simpa using R6')) (fun i hi => ⟨⟨by have := F6 i hi; omega, fun hs => by have := F6 i hi; have := vlt i hs; omega⟩, R6'.lt hi⟩) (by obtain ⟨a, n, cap, rfl⟩ := hy1; rfl)
    have V2 : DV h10 (fun i => hb.length ≤ i ∧ ¬ SlAt v i) (kidOf x.2 text) [.i .i64 0, .i .i64 17, .b true, .s [], y2] := by
      have hks := DVs.cons V1 DVs.nil
      have R8' := R8.upd (U9.trans U10 fun _ _ h => h) fun _ _ h => h
      have h58 := U57.1
      refine .mk hks (.inl (by simpa using R8')) (fun i hi => ⟨⟨by have := F8 i hi; omega, fun hs => by have := F8 i hi; have := vlt i hs; omega⟩, R8'.lt hi⟩) (by obtain ⟨a, n, cap, rfl⟩ := hy2; rfl)
    have hkl : (ks0 ++ (attrs.take j).flatMap fun x => if x.1 = name then [kidOf x.2 text] else []).length ≤ 4000 := by
      have : ∀ l : List (List UInt8 × List UInt8), (l.flatMap fun x => if x.1 = name then [kidOf x.2 text] else []).length ≤ l.length := by
        intro l
        induction l with
        | nil => simp
        | cons a l ih =>
          rw [List.flatMap_cons, List.length_append, List.length_cons]
          have : (if a.1 = name then [kidOf a.2 text] else []).length ≤ 1 := by split <;> simp
          omega
      have := this (attrs.take j)
      simp only [List.length_append, List.length_take] at *
      omega
    refine S10.push hkl R10 rfl (by obtain ⟨a, n, cap, rfl⟩ := hy2; rfl) V2 fun v' h11 U11 R11 hv' fin => ?_
    have id65 : ¬ SlAt v h3.length := fun hs => by
      obtain ⟨rows, A, _⟩ := S2.arr
      have := A.rd.lt hs; have := U3.1; omega
    have lo : ∀ g, g < h0.length → ¬ SlAt v g := fun g hg hs => by have := S.new g hs; have := S.ub.1; omega
    have G10 := G.ext S10.low
    have G11 : CG h11 := by
      have hu : Upd (fun _ => False) h0 h11 := S10.low.trans U11 fun i hi hs => (lo i hi hs)
      exact G.ext hu
    refine st_loadN ((R5.upd U510 fun h => h).upd U11 id65) rfl ⟨rfl, ?_⟩
    refine G11.seq.loadN rfl ⟨rfl, G11.set.loadN rfl ⟨rfl, ?_⟩⟩
    refine st_fld (st_store R11 rfl (by simp) hv'.1 hv'.2.1 hv'.2.2 fun h12 hl12 U12 R12 => ?_)
    refine nxt v' h12 ?_
    have S12 := fin h12 hl12 U12 R12
    rw [htk, List.flatMap_append]
    simp only [List.flatMap_cons, List.flatMap_nil, List.append_nil, if_pos e]
    rw [List.append_assoc] at S12
    exact S12

theorem kidsOf_len (part : List UInt8) : (kidsOf part).length ≤ 4 := by
  have : ∀ l : List (List UInt8 × List UInt8), (l.flatMap fun x => if x.1 = (cutS part 61).1 then [kidOf x.2 (cutS part 61).2.1] else []).length ≤ l.length := by
    intro l
    induction l with
    | nil => simp
    | cons a l ih =>
      rw [List.flatMap_cons, List.length_append, List.length_cons]
      have : (if a.1 = (cutS part 61).1 then [kidOf a.2 (cutS part 61).2.1] else []).length ≤ 1 := by split <;> simp
      omega
  exact this attrs
theorem kidsOf_short {part : List UInt8} (hp : part.length ≤ 1000) : ∀ s ∈ kidsOf part, ∀ k ∈ s.kids, ∀ x ∈ k.kids, x.data.length ≤ 100000 := by
  intro s hs k hk x hx
  unfold kidsOf at hs
  obtain ⟨a, ha, hs⟩ := List.mem_flatMap.1 hs
  split at hs
  · simp only [List.mem_singleton] at hs
    subst hs
    simp only [kidOf, Der.kids, List.mem_singleton] at hk
    subst hk
    simp only [Der.kids, List.mem_cons, List.not_mem_nil, or_false] at hx
    rcases hx with rfl | rfl
    · have := (attr_oid a ha).2
      simp only [Der.data]; omega
    · have h1 := plainE_len (cutS part 61).2.1
      have h2 : (cutS part 61).2.1.length ≤ part.length := by unfold cutS; split <;> simp
      simp only [Der.data]; omega
  · cases hs

theorem splitE_mem : ∀ (cur s : List UInt8), ∀ x ∈ splitE cur s, x.length ≤ cur.length + s.length
  | cur, [], x, hx => by simp [splitE] at hx; subst hx; simp
  | cur, [c], x, hx => by
    unfold splitE at hx
    split at hx
    · simp at hx; rcases hx with rfl | rfl <;> simp
    · simp at hx; subst hx; simp
  | cur, c :: d :: r, x, hx => by
    unfold splitE at hx
    split at hx
    · have := splitE_mem (cur ++ [c, d]) r x hx
      simp at this ⊢; omega
    · split at hx
      · rcases List.mem_cons.1 hx with rfl | hx
        · simp
        · have := splitE_mem [] (d :: r) x hx
          simp at this ⊢; omega
      · have := splitE_mem (cur ++ [c]) (d :: r) x hx
        simp at this ⊢; omega

/-- What NameOf hands back. -/
def NRet (h : AHeap) (Q : AV → AHeap → Prop) (r : Der × Int) : Prop := ∀ h' cs, Upd (fun _ => False) h h' → DV h' (fun i => h.length ≤ i) r.1 cs → Q (.tu [.ag cs, .i .i64 r.2]) h'

theorem nameOf_end {h0 hb hx : AHeap} {id0 id1 : Nat} {v : AV} {ks : List Der} (S : NSt h0 hb hx id0 id1 v ks) {bad : Bool} (hq : NRet h0 Q (if bad = true then (Der.zero, 5) else (outOf ks, 0))) :
    G_certificate_NameOf.p3 (kRet h0 Q) (.p (some ⟨id0, 5, 0⟩)) (.p (some ⟨id1, 5, 0⟩)) bad hx := by
  refine G_certificate_NameOf.i3 ?_
  simp only [G_certificate_NameOf.t3]
  have hid0 := S.n0
  cases bad with
  | true =>
    refine bif_t rfl ?_
    refine st_storeN S.r0 rfl rfl rfl fun h1 hl1 U1 R1 => st_loadN R1 rfl ?_
    exact .inl (hq h1 z5 (S.low.trans U1 fun i hi e => by omega) (DV.zero _ _))
  | false =>
    refine bif_f rfl (st_loadN S.r1 rfl ?_)
    have V := S.val
    refine st_storeN S.r0 rfl rfl V.cells' fun h1 hl1 U1 R1 => st_loadN R1 rfl ?_
    refine .inl (hq h1 _ (S.low.trans U1 fun i hi e => by omega) ?_)
    have S1 : DV h1 (fun i => h0.length ≤ i) (outOf ks) [.i .i64 0, .i .i64 16, .b true, .s [], v] := by
      obtain ⟨rows, A, D⟩ := S.arr
      have hl0 := S.l0
      have hb0 := S.ub.1
      have A1 := A.upd U1 fun i hi e => by have := S.new i hi; omega
      exact .mk (D.upd U1 fun i hi _ => ⟨by omega, by omega⟩) (.inl A1.rd) (fun i hi => ⟨by have := S.new i hi; omega, A1.rd.lt hi⟩) (Arr.cell A).2.2
    exact S1

theorem nameOf_p0 {h0 hb : AHeap} (G : CG h0) {id0 id1 : Nat} {s : List UInt8} (hs : s.length ≤ 512) {x26 : AV} (P26 : Rd 1 hb x26 ((splitE [] s).map .s) (splitE [] s).length) (hid1 : ¬ SlAt x26 id1) (hne : s ≠ [])
    (hq : NRet h0 Q (nameOfS s)) :
    ∀ (r : List (List UInt8)) (i : Nat) (v : AV) (hx : AHeap), (splitE [] s).drop i = r → i ≤ (splitE [] s).length → NSt h0 hb hx id0 id1 v (((splitE [] s).take i).flatMap kidsOf) →
    G_certificate_NameOf.p0 (kRet h0 Q) s (.p (some ⟨id0, 5, 0⟩)) (.p (some ⟨id1, 5, 0⟩)) x26 ((splitE [] s).length : Int) (i : Int) hx := by
  have hpl := splitE_len [] s
  have hpm := splitE_mem [] s
  have fl : ∀ l : List (List UInt8), (l.flatMap kidsOf).length ≤ 4 * l.length := by
    intro l
    induction l with
    | nil => simp
    | cons a l ih =>
      have := kidsOf_len a
      rw [List.flatMap_cons, List.length_append, List.length_cons]; omega
  intro r
  induction r with
  | nil =>
    intro i v hx hr hi S
    have hle := drop_end hr
    refine G_certificate_NameOf.i0 ?_
    simp only [G_certificate_NameOf.t0, G_certificate_NameOf.j3]
    refine bif_f (decide_eq_false (by omega)) ?_
    rw [List.take_of_length_le hle] at S
    have hsh : shortN (outOf ((splitE [] s).flatMap kidsOf)) := by
      refine ⟨?_, fun t ht k hk x hx => ?_⟩
      · have := fl (splitE [] s)
        show ((splitE [] s).flatMap kidsOf).length ≤ 4000
        omega
      · have ht : t ∈ (splitE [] s).flatMap kidsOf := ht
        obtain ⟨part, hp, ht⟩ := List.mem_flatMap.1 ht
        exact kidsOf_short (by have := hpm part hp; simp at this; omega) t ht k hk x hx
    refine st_loadN S.r1 rfl ?_
    refine name_c (G.ext S.low) S.val hsh ?_
    have hnf : nameOfS s = if nameS (outOf ((splitE [] s).flatMap kidsOf)) = some s then (outOf ((splitE [] s).flatMap kidsOf), 0) else (.zero, 5) := by
      unfold nameOfS
      rw [if_neg (by omega), if_neg hne]
    rw [hnf] at hq
    cases hN : nameS (outOf ((splitE [] s).flatMap kidsOf)) with
    | none =>
      rw [hN, if_neg (by simp)] at hq
      simp only [nameR]
      refine st_ext0 (st_asS (st_ext1 (st_asI (bif_t rfl ?_))))
      exact nameOf_end S (bad := true) (by rw [if_pos rfl]; exact hq)
    | some t =>
      rw [hN] at hq
      simp only [nameR]
      refine st_ext0 (st_asS (st_ext1 (st_asI (bif_f rfl ?_))))
      refine nameOf_end S ?_
      by_cases hts : t = s
      · subst hts
        rw [if_pos rfl] at hq
        rw [if_neg (by simp)]; exact hq
      · rw [if_neg (by simpa using hts)] at hq
        rw [if_pos (by simpa using hts)]; exact hq
  | cons part r ih =>
    intro i v hx hr hi S
    have hlt := drop_lt hr
    have hnx := drop_next hr
    have hpi := at_of_drop hr
    have hpp := hpm part (List.mem_of_getElem? hpi)
    simp only [List.length_nil, Nat.zero_add] at hpp
    have htk := take_snoc hpi
    refine G_certificate_NameOf.i0 ?_
    simp only [G_certificate_NameOf.t0, G_certificate_NameOf.j1]
    refine bif_t (decide_eq_true (by omega)) ?_
    have P1 := P26.upd S.upd fun j hj e => hid1 (e ▸ hj)
    refine P1.cell (by decide) hlt (by rw [Nat.mul_one, List.getElem?_map, hpi]; rfl) (st_asS ?_)
    refine cut_c (by omega) ?_
    refine st_ext0 (st_asS (st_ext1 (st_asS (st_ext2 (st_asB ?_)))))
    obtain ⟨va, g1, g2⟩ := G.att
    refine (g1.upd S.low fun h => h).load1 ((g2.ext S.low).len ?_)
    have hk0 := fl ((splitE [] s).take i)
    have htl : (cutS part 61).2.1.length ≤ part.length := by unfold cutS; split <;> simp
    have htk2 : ((splitE [] s).take i).length ≤ (splitE [] s).length := by rw [List.length_take]; omega
    refine nameOf_p1 (ks0 := ((splitE [] s).take i).flatMap kidsOf) G g1 g2 (by omega) (by omega) (fun v' h' S' => ?_) 4 0 v hx rfl (by simpa using S)
    refine inc (by omega) (ih (i + 1) v' h' hnx (by omega) ?_)
    rw [htk, List.flatMap_append]
    simpa [kidsOf] using S'

theorem nameOf_c {s : List UInt8} (G : CG h) (hs : s.length ≤ 9223372036854775807) (hq : NRet h Q (nameOfS s)) : C G_certificate_NameOf.id [.s s] h Q := by
  refine G_certificate_NameOf.call ?_
  simp only [G_certificate_NameOf.t, G_certificate_NameOf.j0]
  refine st_alloc fun h1 hl1 U1 R1 => ?_
  refine bif_both (fun e => ?_) fun e => ?_
  · have e : 512 < s.length := by have := of_decide_eq_true e; omega
    refine st_storeN R1 rfl rfl rfl fun h2 hl2 U2 R2 => st_loadN R2 rfl (.inl ?_)
    unfold nameOfS at hq
    rw [if_pos e] at hq
    exact hq h2 z5 (U1.trans U2 fun i hi e => by omega) (DV.zero _ _)
  · have e : s.length ≤ 512 := by have := of_decide_eq_false e; omega
    refine (G.ext U1).seq.loadN rfl ?_
    refine shapeOf_c ⟨none, 0, none, rfl⟩ fun h2 U2 => ?_
    have U02 := U1.trans U2 fun _ _ h => h
    refine st_alloc fun h3 hl3 U3 R3 => ?_
    refine st_storeN R3 rfl rfl rfl fun h4 hl4 U4 R4 => ?_
    have U24 : Upd (fun _ => False) h2 h4 := U3.trans U4 fun i hi e => by omega
    have U04 := U02.trans U24 fun _ _ h => h
    have hh1 := U2.1
    refine bif_both (fun e2 => ?_) fun e2 => ?_
    · have e2 := of_decide_eq_true e2
      unfold nameOfS at hq
      rw [if_neg (by omega), if_pos e2] at hq
      refine st_loadN R4 rfl ?_
      refine st_storeN ((R1.upd U2 fun h => h).upd U24 fun h => h) rfl rfl rfl fun h5 hl5 U5 R5 => st_loadN R5 rfl (.inl ?_)
      exact hq h5 _ (U04.trans U5 fun i hi e => by omega) (DV.leaf _ _ _ _ _ _)
    · have e2 := of_decide_eq_false e2
      refine csplit_c (by omega) fun v h5 N5 => ?_
      have hrd := N5.stk.rd
      rw [List.length_map] at hrd
      refine hrd.len ?_
      have hlt : h2.length < h4.length := by omega
      have U45 := N5.upd
      refine nameOf_p0 (hb := h5) G e hrd (fun hi => by have := N5.new _ hi; omega) e2 hq (splitE [] s) 0 _ h5 rfl (by omega) ⟨U04.trans U45 fun _ _ h => h, Upd.refl _ _, Nat.le_refl _, by omega, by have := U45.1; omega, by have := U45.1; omega, by omega, ((R1.upd U2 fun h => h).upd U24 fun h => h).upd U45 fun h => h, R4.upd U45 fun h => h, ⟨[], Arr.nil _ _, .nil⟩, fun i hi => hi.elim⟩

/-! ### Common -/

def commonK : List (List UInt8) → List UInt8
  | [] => []
  | p :: r => if hasPre p [67, 78, 61] = true then plainE (p.drop 3) else commonK r
def commonS (s : List UInt8) : List UInt8 := if (nameOfS s).2 = 0 then commonK (splitE [] s) else []
theorem commonK_len (M : Nat) : ∀ l : List (List UInt8), (∀ x ∈ l, x.length ≤ M) → (commonK l).length ≤ M
  | [], _ => by simp [commonK]
  | p :: r, h => by
    unfold commonK
    split
    · have h1 := plainE_len (p.drop 3)
      have h2 := h p (by simp)
      simp at h1; omega
    · exact commonK_len M r fun x hx => h x (by simp [hx])
theorem commonS_len (s : List UInt8) : (commonS s).length ≤ s.length := by
  unfold commonS
  split
  · refine commonK_len _ _ fun x hx => ?_
    have := splitE_mem [] s x hx
    simpa using this
  · simp

theorem common_c {s : List UInt8} (G : CG h) (hs : s.length ≤ 9223372036854775807) (hq : Q (.s (commonS s)) h) : C G_certificate_Common.id [.s s] h Q := by
  refine G_certificate_Common.call ?_
  simp only [G_certificate_Common.t, G_certificate_Common.j0]
  refine nameOf_c G hs fun h1 cs U1 D1 => ?_
  refine st_ext0 (st_ext1 (st_asI ?_))
  refine st_alloc fun h2 hl2 U2 R2 => ?_
  refine st_storeN R2 rfl D1.len D1.cells' fun h3 hl3 U3 R3 => ?_
  have U03 : Upd (fun _ => False) h h3 := (U1.trans U2 fun _ _ h => h).trans U3 fun i hi e => by have := U1.1; omega
  unfold commonS at hq
  refine bif_both (fun e => ?_) fun e => ?_
  · have e : (nameOfS s).2 ≠ 0 := by simpa using e
    rw [if_neg e] at hq
    exact kRet_pure rfl U03.ext hq
  · have e : (nameOfS s).2 = 0 := by simpa using e
    rw [if_pos e] at hq
    have hs5 : s.length ≤ 512 := by
      apply Classical.byContradiction
      intro hh
      unfold nameOfS at e
      rw [if_pos (by omega)] at e
      cases e
    refine csplit_c (by omega) fun v h4 N4 => ?_
    have hrd := N4.stk.rd
    rw [List.length_map] at hrd
    refine hrd.len ?_
    have hpm := splitE_mem [] s
    have U04 := U03.trans N4.upd fun _ _ h => h
    have go : ∀ (r : List (List UInt8)) (i : Nat), (splitE [] s).drop i = r → i ≤ (splitE [] s).length → Q (.s (commonK r)) h → G_certificate_Common.p0 (kRet h Q) v ((splitE [] s).length : Int) (i : Int) h4 := by
      have hpl := splitE_len [] s
      intro r
      induction r with
      | nil =>
        intro i hr hi hq
        have := drop_end hr
        refine G_certificate_Common.i0 ?_
        simp only [G_certificate_Common.t0]
        exact bif_f (decide_eq_false (by omega)) (kRet_pure rfl U04.ext hq)
      | cons p r ih =>
        intro i hr hi hq
        have hlt := drop_lt hr
        have hpi := at_of_drop hr
        have hpp := hpm p (List.mem_of_getElem? hpi)
        simp only [List.length_nil, Nat.zero_add] at hpp
        refine G_certificate_Common.i0 ?_
        simp only [G_certificate_Common.t0, G_certificate_Common.j0]
        refine bif_t (decide_eq_true (by omega)) ?_
        refine hrd.cell (by decide) hlt (by rw [Nat.mul_one, List.getElem?_map, hpi]; rfl) (st_asS ?_)
        refine cutPrefix_c (by omega) ?_
        refine st_ext0 (st_asS (st_ext1 (st_asB ?_)))
        unfold commonK at hq
        refine bif_both (fun e => ?_) fun e => ?_
        · rw [if_pos e] at hq
          rw [if_pos e]
          exact cplain_c (by simp; omega) (st_asS (kRet_pure rfl U04.ext hq))
        · rw [if_neg (by rw [e]; simp)] at hq
          exact inc (by omega) (ih (i + 1) (drop_next hr) (by omega) hq)
    exact go _ 0 rfl (by omega) hq

end
end Go.Proofs.YtomghnmoomodiaaGreatDoor

/- The laws' arguments: certificates, a question; the laid variables; Check, with Common as it is. -/
set_option linter.unusedVariables false
set_option linter.unusedSimpArgs false
set_option linter.unusedSectionVars false
set_option maxRecDepth 20000
namespace Go.Proofs.YtomghnmoomodiaaGreatDoor
open Go.GAM Go.RowKit Go.ChangeShapes

section
variable {H : Type} {enc : TypeId × Value → H} {w : World}

abbrev hW (w : World) : AHeap := heapC w fun _ => 1

def wfC (c : Cert) : Prop := c.names.length ≤ maxLen ∧ (∀ n ∈ c.names, n.length ≤ maxLen) ∧ c.subject.length ≤ maxLen ∧ c.issuer.length ≤ maxLen

end
end Go.Proofs.YtomghnmoomodiaaGreatDoor

/- The laid variables; a Question. -/
set_option linter.unusedVariables false
set_option linter.unusedSimpArgs false
set_option linter.unusedSectionVars false
set_option maxRecDepth 20000
namespace Go.Proofs.YtomghnmoomodiaaGreatDoor
open Go.GAM Go.RowKit Go.ChangeShapes

section
variable {H : Type} {enc : TypeId × Value → H} {w : World}

theorem gl_of {g : Nat} {cs : Array Value} {n : String} (hg : prog.globalNamed n = some g) (hv : w.var? prog n = some cs) : GlAt (hW w) g (cs.toList.map (absV w fun _ => 1)) := by
  obtain ⟨t, fr, h⟩ := var_shape hg hv
  have hlt : g < w.heap.size := (Array.getElem?_eq_some_iff.1 h).1
  refine ⟨blkC w (fun _ => 1) g, ?_, ?_, ?_, ?_⟩
  · unfold hW heapC
    rw [List.getElem?_append_left (by simpa using hlt), List.getElem?_map, List.getElem?_range hlt]; rfl
  · simp only [blkC, h]
  · simp only [blkC, h]; simp
  · simp only [blkC, h]

theorem shape_row {held : Bool} {fuel : Nat} {cs : List Value} {d : DataW H} {p : List MemPlace} {c t : Int} {m : Bool} (hd : d = .agg [.lit (.int .i64 c), .lit (.int .i64 t), .lit (.bool m)]) (h : DataW.trod enc prog w 0 (fun _ => true) held fuel 78 cs = some (d, p)) :
    cs = [.int .i64 c, .int .i64 t, .bool m] := by
  cases fuel with
  | zero => simp [DataW.trod] at h
  | succ fuel =>
  obtain ⟨xs, n, hn, hx, hlen, hl, hf⟩ := DataW.trod_struct Tryz.underlying78 h
  have c78 : prog.cellsOf 78 = 3 := by kernel_rfl
  have c3 : prog.cellsOf 3 = 1 := by kernel_rfl
  have c4 : prog.cellsOf 4 = 1 := by kernel_rfl
  rw [c78] at hlen
  have hn : fuel = n := by omega
  subst hn
  match cs, hlen with
  | [v0, v1, v2], _ =>
    have hxl : xs.length = 3 := hl
    have f0 : DataW.trod enc prog w 0 (fun _ => true) held fuel 3 (([v0, v1, v2].drop 0).take (prog.cellsOf 3)) = xs[0]? := hf 0 _ rfl
    have f1 : DataW.trod enc prog w 0 (fun _ => true) held fuel 3 (([v0, v1, v2].drop 1).take (prog.cellsOf 3)) = xs[1]? := hf 1 _ rfl
    have f2 : DataW.trod enc prog w 0 (fun _ => true) held fuel 4 (([v0, v1, v2].drop 2).take (prog.cellsOf 4)) = xs[2]? := hf 2 _ rfl
    rw [c3] at f0 f1
    rw [c4] at f2
    match xs, hxl with
    | [y0, y1, y2], _ =>
      obtain ⟨i0, e0, d0, _⟩ := DataW.trod_int (show prog.underlying 3 = some (.int .i64) by kernel_rfl) f0
      obtain ⟨i1, e1, d1, _⟩ := DataW.trod_int (show prog.underlying 3 = some (.int .i64) by kernel_rfl) f1
      obtain ⟨m2, e2, d2⟩ := DataW.trod_bool Tryz.underlying4 f2
      have g0 : v0 = .int .i64 i0 := List.singleton_inj.1 e0
      have g1 : v1 = .int .i64 i1 := List.singleton_inj.1 e1
      have g2 : v2 = .bool m2 := List.singleton_inj.1 e2
      subst g0 g1 g2 d0 d1 d2 hd
      simp at hx
      obtain ⟨⟨rfl, rfl, rfl⟩, _⟩ := hx
      rfl

theorem pair_row {held : Bool} {fuel : Nat} {cs : List Value} {d : DataW H} {p : List MemPlace} {a b : List UInt8} (hd : d = .agg [.lit (.string a), .lit (.string b)]) (h : DataW.trod enc prog w 0 (fun _ => true) held fuel 82 cs = some (d, p)) :
    cs.map (absV w fun _ => 1) = [.s a, .s b] := by
  cases fuel with
  | zero => simp [DataW.trod] at h
  | succ fuel =>
  obtain ⟨xs, n, hn, hx, hlen, hl, hf⟩ := DataW.trod_struct Tryz.underlying82 h
  have c82 : prog.cellsOf 82 = 2 := by kernel_rfl
  have c9 : prog.cellsOf 9 = 1 := by kernel_rfl
  rw [c82] at hlen
  have hn : fuel = n := by omega
  subst hn
  match cs, hlen with
  | [v0, v1], _ =>
    have hxl : xs.length = 2 := hl
    have f0 : DataW.trod enc prog w 0 (fun _ => true) held fuel 9 (([v0, v1].drop 0).take (prog.cellsOf 9)) = xs[0]? := hf 0 _ rfl
    have f1 : DataW.trod enc prog w 0 (fun _ => true) held fuel 9 (([v0, v1].drop 1).take (prog.cellsOf 9)) = xs[1]? := hf 1 _ rfl
    rw [c9] at f0 f1
    match xs, hxl with
    | [y0, y1], _ =>
      obtain ⟨s0, e0, d0, _⟩ := DataW.trod_string Tryz.underlying9 f0
      obtain ⟨s1, e1, d1, _⟩ := DataW.trod_string Tryz.underlying9 f1
      have g0 : v0 = .string s0 := List.singleton_inj.1 e0
      have g1 : v1 = .string s1 := List.singleton_inj.1 e1
      subst g0 g1 d0 d1 hd
      simp at hx
      obtain ⟨⟨rfl, rfl⟩, _⟩ := hx
      rfl

def attD {H : Type} (x : List UInt8 × List UInt8) : DataW H := .agg [.lit (.string x.1), .lit (.string x.2)]
theorem att_rows {held : Bool} {n : Nat} : ∀ (rows : List (List Value)) (l : List (List UInt8 × List UInt8)), rows.length = l.length → (∀ (i : Nat) (r : List Value) (d : DataW H), rows[i]? = some r → (l.map attD)[i]? = some d → ∃ p, DataW.trod enc prog w 0 (fun _ => true) held n 82 r = some (d, p)) →
    rows.flatten.map (absV w fun _ => 1) = l.flatMap fun x => [.s x.1, .s x.2]
  | [], [], _, _ => rfl
  | r :: rows, x :: l, hl, h => by
    obtain ⟨p, hp⟩ := h 0 r (attD x) rfl rfl
    rw [List.flatten_cons, List.map_append, pair_row rfl hp, att_rows rows l (by simpa using hl) fun i r d h1 h2 => h (i + 1) r d (by simpa using h1) (by simpa using h2)]
    rfl

theorem cg_of {l : List (String × DataW Unit)} (h1 : ("intrusion/certificate.sequence", Rows.laid_intrusion_certificate_sequence) ∈ l) (h2 : ("intrusion/certificate.attributes", Rows.laid_intrusion_certificate_attributes) ∈ l) (h3 : ("intrusion/certificate.set", Rows.laid_intrusion_certificate_set) ∈ l) (hL : laidMet prog l w) : CG (hW w) := by
  refine ⟨?_, ?_, ?_⟩
  · obtain ⟨g, t, cs, fuel, p, hg, ht, hv, hd⟩ := laid_shape h1 hL
    obtain rfl := Option.some.inj ((show prog.globalNamed "intrusion/certificate.sequence" = some 1 by kernel_rfl).symm.trans hg)
    obtain rfl := Option.some.inj ((show (prog.globals[1]?).map (·.type) = some 78 by kernel_rfl).symm.trans ht)
    have := gl_of hg hv
    rw [shape_row rfl hd] at this
    exact this
  · obtain ⟨g, t, cs, fuel, p, hg, ht, hv, hd⟩ := laid_shape h3 hL
    obtain rfl := Option.some.inj ((show prog.globalNamed "intrusion/certificate.set" = some 3 by kernel_rfl).symm.trans hg)
    obtain rfl := Option.some.inj ((show (prog.globals[3]?).map (·.type) = some 78 by kernel_rfl).symm.trans ht)
    have := gl_of hg hv
    rw [shape_row rfl hd] at this
    exact this
  · obtain ⟨g, t, cs, fuel, p, hg, ht, hv, hd⟩ := laid_shape h2 hL
    obtain rfl := Option.some.inj ((show prog.globalNamed "intrusion/certificate.attributes" = some 2 by kernel_rfl).symm.trans hg)
    obtain rfl := Option.some.inj ((show (prog.globals[2]?).map (·.type) = some 80 by kernel_rfl).symm.trans ht)
    have hG := gl_of hg hv
    have c82 : prog.cellsOf 82 = 2 := by kernel_rfl
    rcases row_openV Tryz.underlying80 hd with ⟨_, hx⟩ | ⟨a, len, cap, n, rows, ds, rs, _, hc, hx, hdl, hl, _, hrl, hr, hrd, hcell⟩
    · cases hx
    · rw [hc] at hG
      refine ⟨_, hG, ?_⟩
      have hds : ds = attrs.map attD := by
        have := hx
        unfold Rows.laid_intrusion_certificate_attributes at this
        simp only [DataW.slice.injEq] at this
        exact this.1.symm
      have hlen4 : len = 4 := by rw [← hdl, hds]; rfl
      have hrl2 := rows_len rows fun r hr' => (hr r hr').1.trans c82
      obtain ⟨ver, b, g1, g2, g3, g4, g5, g6⟩ := canon_sliceI (szOf := fun _ => 1) (sz := 2) hl (by omega) (by decide) (by decide) (by rw [hrl2, hrl]) hcell
      rw [rows_take rows len fun r hr' => (hr r hr').1.trans c82] at g6
      rw [att_rows (held := false) (n := n) (rows.take len) attrs (by rw [List.length_take, hrl]; simp [attrs]; omega) (fun i r d q1 q2 => hrd i r d (by rw [List.getElem?_take] at q1; split at q1; exact q1; cases q1) (by rw [hds]; exact q2))] at g6
      subst hlen4
      refine .inr (.inr ⟨a.block, ver, a.off, some cap, b, ?_, g2, g3, g4, g5, g6⟩)
      rw [← g1]
end
end Go.Proofs.YtomghnmoomodiaaGreatDoor

/- A Question; Common at a call. -/
set_option linter.unusedVariables false
set_option linter.unusedSimpArgs false
set_option linter.unusedSectionVars false
set_option maxRecDepth 20000
namespace Go.Proofs.YtomghnmoomodiaaGreatDoor
open Go.GAM Go.RowKit Go.ChangeShapes

section
variable {H : Type} {enc : TypeId × Value → H} {w : World}

structure Que where
  ch : List Cert
  host : List UInt8
  at' : Int
  tr : List Cert
def QV (h : AHeap) (q : Que) (cs : List AV) : Prop := ∃ vc vt, cs = [vc, .s q.host, .i .i64 q.at', vt] ∧ CL h vc q.ch ∧ CL h vt q.tr
def wfQ (q : Que) : Prop := (∀ c ∈ q.ch, wfC c) ∧ (∀ c ∈ q.tr, wfC c) ∧ q.host.length ≤ maxLen

theorem maxLen_is : maxLen = 9223372036854775807 := by unfold maxLen; rfl
end

theorem commonAt {h : AHeap} (G : CG h) {s : List UInt8} (hs : s.length ≤ 9223372036854775807) : CommonAt h commonS s :=
  ⟨Nat.le_trans (commonS_len s) hs, fun h' Q U hq => common_c (G.ext U) hs (hq h' (Upd.refl _ _))⟩
theorem wf_short {c : Cert} (h : wfC c) : shortC c ∧ c.names.length ≤ 9223372036854775807 := by
  obtain ⟨h1, h2, _⟩ := h
  rw [maxLen_is] at h1
  exact ⟨fun n hn => by have := h2 n hn; rw [maxLen_is] at this; exact this, h1⟩

section
variable {h : AHeap} {Q : AV → AHeap → Prop}
theorem checkQ_c {q : Que} {vc vt : AV} (G : CG h) (L : CL h vc q.ch) (LT : CL h vt q.tr) (hw : wfQ q) (h1 : q.ch.length ≤ 30) (h2 : q.tr.length ≤ 30)
    (hq : ∀ w h', Upd (fun _ => False) h h' → Rd 1 h' w ((checkS commonS q.tr q.host q.at' q.ch).map num) (checkS commonS q.tr q.host q.at' q.ch).length → Q w h') : C G_certcheck_Check.id [vc, .s q.host, .i .i64 q.at', vt] h Q :=
  check_c L LT (by omega) (by omega) (fun c hc => wf_short (hw.1 c hc)) (by have := hw.2.2; rw [maxLen_is] at this; exact this)
    (fun c hc _ => commonAt G (by have := (hw.1 c (List.mem_of_getElem? hc)).2.2.1; rw [maxLen_is] at this; exact this)) hq

theorem large_c {v1 v2 : AV} {l1 l2 : List Cert} (A : CL h v1 l1) (B : CL h v2 l2) (hq : Q (.b (decide (30 < l1.length) || decide (30 < l2.length))) h) : C G_law35_large.id [v1, v2] h Q := by
  refine G_law35_large.call ?_
  simp only [G_law35_large.t, G_law35_large.j0]
  have fin : ∀ b, b = (decide (30 < l1.length) || decide (30 < l2.length)) → G_law35_large.p0 (kRet h Q) b h := by
    intro b hb
    refine G_law35_large.i0 ?_
    simp only [G_law35_large.t0]
    subst hb; exact kRet_pure rfl (Ext.refl _) hq
  refine A.len (bif_both (fun e => fin _ ?_) fun e => B.len (fin _ ?_))
  · have e := of_decide_eq_true e
    rw [decide_eq_true (show 30 < l1.length by omega)]; rfl
  · have e := of_decide_eq_false e
    rw [decide_eq_false (show ¬ 30 < l1.length by omega), Bool.false_or, decide_eq_decide]; omega
end
end Go.Proofs.YtomghnmoomodiaaGreatDoor

/- The reference: trusts, issued. -/
set_option linter.unusedVariables false
set_option linter.unusedSimpArgs false
set_option linter.unusedSectionVars false
set_option maxRecDepth 20000
namespace Go.Proofs.YtomghnmoomodiaaGreatDoor
open Go.GAM Go.RowKit

section
variable {h : AHeap} {Q : AV → AHeap → Prop} {vt : AV} {l : List Cert} {c : Cert} {cs : List AV}

end
end Go.Proofs.YtomghnmoomodiaaGreatDoor

/- The reference: named. -/
set_option linter.unusedVariables false
set_option linter.unusedSimpArgs false
set_option linter.unusedSectionVars false
set_option maxRecDepth 20000
namespace Go.Proofs.YtomghnmoomodiaaGreatDoor
open Go.GAM Go.RowKit

/-- What is known of the reference's Common at a text. -/
def RCommonAt (hb : AHeap) (cm : List UInt8 → List UInt8) (s : List UInt8) : Prop := (cm s).length ≤ 140737488351232 ∧ ∀ (h : AHeap) (Q : AV → AHeap → Prop), Upd (fun _ => False) hb h → (∀ h', Upd (fun _ => False) h h' → Q (.s (cm s)) h') → C G_ref34_Common.id [.s s] h Q

section
variable {h : AHeap} {Q : AV → AHeap → Prop} {c : Cert} {cs : List AV} {x : List UInt8} {cm : List UInt8 → List UInt8}

end
end Go.Proofs.YtomghnmoomodiaaGreatDoor

/- The reference: Check's loop over the chain (under way). -/
set_option linter.unusedVariables false
set_option linter.unusedSimpArgs false
set_option linter.unusedSectionVars false
set_option maxRecDepth 20000
namespace Go.GAM
theorem NewA.put {h0 h : AHeap} {v : AV} {cs : List AV} {n : Nat} (A : NewA 1 h0 h v cs n) {k : IntKind} {i : Nat} (hi : i < n) {b : Bool} {K : AHeap → Prop}
    (hk : ∀ h', Upd (SlAt v) h h' → NewA 1 h0 h' v (cs.set i (.b b)) n → K h') : pIdxAddrSl 1 v (.i k (i : Int)) h fun p => pStore 1 p (.b b) h K :=
  A.arr.store hi rfl rfl rfl fun h' U A' => hk h' U ⟨A.upd.trans U fun i hi e => by have := A.new i e; omega, A', A.new⟩
theorem NewA.get {h0 h : AHeap} {v : AV} {cs : List AV} {n : Nat} (A : NewA 1 h0 h v cs n) {k : IntKind} {i : Nat} (hi : i < n) {b : Bool} (hc : cs[i]? = some (.b b)) {K : Bool → Prop}
    (hk : K b) : pIdxAddrSl 1 v (.i k (i : Int)) h fun p => pLoad1 p h fun x => asB x K :=
  A.arr.rd.cell Nat.one_pos hi (by rw [Nat.mul_one]; exact hc) (st_asB hk)
end Go.GAM
namespace Go.Proofs.YtomghnmoomodiaaGreatDoor
open Go.GAM Go.RowKit

section
variable {h0 h hq : AHeap} {Q : AV → AHeap → Prop} {v vc vt w : AV} {ch tr : List Cert} {c : Cert} {x : List UInt8} {at' : Int} {id : Nat} {f0 b1 b2 f3 b4 f5 b6 b7 : Bool}

end
end Go.Proofs.YtomghnmoomodiaaGreatDoor

/- The reference: Check's answer. -/
set_option linter.unusedVariables false
set_option linter.unusedSimpArgs false
set_option linter.unusedSectionVars false
set_option maxRecDepth 20000
namespace Go.Proofs.YtomghnmoomodiaaGreatDoor
open Go.GAM Go.RowKit

section
variable {h0 : AHeap} {Q : AV → AHeap → Prop} {v : AV} {fin : List Bool}
end
end Go.Proofs.YtomghnmoomodiaaGreatDoor

/- The reference: Check. -/
set_option linter.unusedVariables false
set_option linter.unusedSimpArgs false
set_option linter.unusedSectionVars false
set_option maxRecDepth 20000
namespace Go.Proofs.YtomghnmoomodiaaGreatDoor
open Go.GAM Go.RowKit

theorem RCommonAt.ext {hb h' : AHeap} {cm : List UInt8 → List UInt8} {s : List UInt8} (C : RCommonAt hb cm s) (U : Upd (fun _ => False) hb h') : RCommonAt h' cm s := ⟨C.1, fun h Q U' hq => C.2 h Q (U.trans U' fun _ _ h => h) hq⟩

section
variable {h0 h : AHeap} {Q : AV → AHeap → Prop} {v vc vt w : AV} {ch tr : List Cert} {last : Cert} {x : List UInt8} {at' : Int} {id : Nat} {f0 b1 b2 f3 b4 f5 b6 b7 : Bool} {cm : List UInt8 → List UInt8}

end
end Go.Proofs.YtomghnmoomodiaaGreatDoor

/- The reference: Check, as a whole. -/
set_option linter.unusedVariables false
set_option linter.unusedSimpArgs false
set_option linter.unusedSectionVars false
set_option maxRecDepth 20000
namespace Go.Proofs.YtomghnmoomodiaaGreatDoor
open Go.GAM Go.RowKit

section
variable {cm : List UInt8 → List UInt8} {tr ch : List Cert} {x : List UInt8} {at' : Int}

variable {h : AHeap} {Q : AV → AHeap → Prop} {vc vt : AV}
end
end Go.Proofs.YtomghnmoomodiaaGreatDoor

/- The reference of names: identifier. -/
set_option linter.unusedVariables false
set_option linter.unusedSimpArgs false
set_option linter.unusedSectionVars false
set_option maxRecDepth 20000
namespace Go.Proofs.YtomghnmoomodiaaGreatDoor
open Go.GAM Go.RowKit

section
variable {h : AHeap} {Q : AV → AHeap → Prop}
def attB (t : List UInt8) : Bool := decide (t = [67, 78]) || (decide (t = [79]) || (decide (t = [79, 85]) || decide (t = [67])))
theorem ident_c {t : List UInt8} (hq : ∀ r, Q (.tu [.s r, .b (attB t)]) h) : C G_ref34_identifier.id [.s t] h Q := by
  refine G_ref34_identifier.call ?_
  simp only [G_ref34_identifier.t]
  have fin : ∀ r b, b = attB t → kRet h Q (.tu [.s r, .b b]) h := by
    intro r b hb
    subst hb
    exact kRet_pure rfl (Ext.refl _) (hq r)
  unfold attB at fin
  refine bif_both (fun e => fin _ _ (by rw [e]; rfl)) fun e => bif_both (fun e1 => fin _ _ (by rw [e, e1]; rfl)) fun e1 => bif_both (fun e2 => fin _ _ (by rw [e, e1, e2]; rfl)) fun e2 => bif_both (fun e3 => fin _ _ (by rw [e, e1, e2, e3]; rfl)) fun e3 => fin _ _ (by rw [e, e1, e2, e3]; rfl)
end
end Go.Proofs.YtomghnmoomodiaaGreatDoor

/- The reference of names: Common, with Attributes as it is. -/
set_option linter.unusedVariables false
set_option linter.unusedSimpArgs false
set_option linter.unusedSectionVars false
set_option maxRecDepth 20000
namespace Go.Proofs.YtomghnmoomodiaaGreatDoor
open Go.GAM Go.RowKit

section
variable {h : AHeap} {Q : AV → AHeap → Prop}
def prs (l : List (List UInt8 × List UInt8)) : List AV := l.flatMap fun a => [.s a.1, .s a.2]
end
end Go.Proofs.YtomghnmoomodiaaGreatDoor

/- The plain law of names: what the reference reads is what the program writes. -/
set_option linter.unusedVariables false
set_option linter.unusedSimpArgs false
set_option linter.unusedSectionVars false
set_option maxRecDepth 20000
namespace Go.Proofs.YtomghnmoomodiaaGreatDoor
open Go.GAM Go.RowKit

abbrev Att := List UInt8 × List UInt8
/-- A byte that no value holds. -/
def badC (c : UInt8) : Bool := decide (c = 61) || !textB c
/-- A value, up to a comma or the end. -/
def scanV : List UInt8 → Option (List UInt8 × List UInt8)
  | [] => some ([], [])
  | [c] => if c = 44 then some ([], [c]) else if badC c = true ∨ c = 92 then none else some ([c], [])
  | c :: d :: r => if c = 44 then some ([], c :: d :: r) else if badC c = true then none else
      if c = 92 then (if d ∈ sps then (scanV r).map fun p => (d :: p.1, p.2) else none) else (scanV (d :: r)).map fun p => (c :: p.1, p.2)
def scanA : Nat → List UInt8 → Option (List Att)
  | 0, _ => none
  | n + 1, s => if attB (s.takeWhile (· ≠ 61)) = false ∨ s.dropWhile (· ≠ 61) = [] then none else match scanV ((s.dropWhile (· ≠ 61)).drop 1) with
    | none => none
    | some (v, []) => some [(s.takeWhile (· ≠ 61), v)]
    | some (v, _ :: r) => (scanA n r).map ((s.takeWhile (· ≠ 61), v) :: ·)
def attrsS (s : List UInt8) : Option (List Att) := if s = [] then some [] else scanA (s.length + 1) s
theorem sps_text {c : UInt8} (h : c ∈ sps) : textB c = true := by
  simp only [sps, List.mem_cons, List.not_mem_nil, or_false] at h
  rcases h with rfl | rfl | rfl <;> rfl
theorem sps_mem {c : UInt8} : c ∈ sps ↔ c = 92 ∨ c = 44 ∨ c = 61 := by simp [sps]
theorem escS_cons (c : UInt8) (v : List UInt8) : escS sps (c :: v) = (if c ∈ sps then [92, c] else [c]) ++ escS sps v := rfl

theorem scanV_good (c : UInt8) (X : List UInt8) (h : c ∉ sps) (ht : textB c = true) : scanV (c :: X) = (scanV X).map fun p => (c :: p.1, p.2) := by
  rw [sps_mem] at h
  have h1 : c ≠ 92 := fun e => h (.inl e)
  have h2 : c ≠ 44 := fun e => h (.inr (.inl e))
  have h3 : c ≠ 61 := fun e => h (.inr (.inr e))
  have hb : badC c = false := by unfold badC; rw [decide_eq_false h3, ht]; rfl
  cases X with
  | nil => unfold scanV; rw [if_neg h2, if_neg (by rw [hb]; simp [h1])]; rfl
  | cons d r => rw [scanV, if_neg h2, if_neg (by rw [hb]; simp), if_neg h1]
theorem scanV_esc (c : UInt8) (X : List UInt8) (h : c ∈ sps) : scanV (92 :: c :: X) = (scanV X).map fun p => (c :: p.1, p.2) := by
  rw [scanV, if_neg (by decide), if_neg (by decide), if_pos rfl, if_pos h]

theorem scanV_is : ∀ (s : List UInt8) (v r : List UInt8), scanV s = some (v, r) → s = escS sps v ++ r ∧ v.all textB = true ∧ (r = [] ∨ ∃ r', r = 44 :: r')
  | [], v, r, h => by
    unfold scanV at h; cases h
    exact ⟨rfl, rfl, .inl rfl⟩
  | [c], v, r, h => by
    unfold scanV at h
    split at h
    · rename_i e; subst e; cases h
      exact ⟨rfl, rfl, .inr ⟨[], rfl⟩⟩
    · rename_i e
      split at h
      · cases h
      · rename_i e2
        cases h
        have hb : ¬ badC c = true := fun e => e2 (.inl e)
        have h92 : c ≠ 92 := fun e => e2 (.inr e)
        unfold badC at hb
        simp only [Bool.or_eq_true, decide_eq_true_eq, Bool.not_eq_true', not_or] at hb
        have ht : textB c = true := by simpa using hb.2
        have hs : c ∉ sps := fun h => by
          rcases sps_mem.1 h with h | h | h
          · exact h92 h
          · exact e h
          · exact hb.1 h
        refine ⟨?_, by simp [ht], .inl rfl⟩
        rw [escS_cons, if_neg hs]; rfl
  | c :: d :: r0, v, r, h => by
    rw [scanV] at h
    split at h
    · rename_i e; subst e; cases h
      exact ⟨rfl, rfl, .inr ⟨_, rfl⟩⟩
    · rename_i e
      split at h
      · cases h
      · rename_i hb
        unfold badC at hb
        simp only [Bool.or_eq_true, decide_eq_true_eq, Bool.not_eq_true', not_or] at hb
        have ht : textB c = true := by simpa using hb.2
        split at h
        · rename_i e92
          subst e92
          split at h
          · rename_i hd
            cases hs : scanV r0 with
            | none => rw [hs] at h; cases h
            | some p =>
              obtain ⟨v', r'⟩ := p
              rw [hs] at h; cases h
              obtain ⟨h1, h2, h3⟩ := scanV_is r0 v' r' hs
              refine ⟨?_, by simp [h2, sps_text hd], h3⟩
              rw [escS_cons, if_pos hd]
              show 92 :: d :: r0 = 92 :: d :: (escS sps v' ++ r')
              rw [h1]
          · cases h
        · rename_i h92
          cases hs : scanV (d :: r0) with
          | none => rw [hs] at h; cases h
          | some p =>
            obtain ⟨v', r'⟩ := p
            rw [hs] at h; cases h
            obtain ⟨h1, h2, h3⟩ := scanV_is (d :: r0) v' r' hs
            have hns : c ∉ sps := fun h => by
              rcases sps_mem.1 h with h | h | h
              · exact h92 h
              · exact e h
              · exact hb.1 h
            refine ⟨?_, by simp [h2, ht], h3⟩
            rw [escS_cons, if_neg hns]
            show c :: d :: r0 = c :: (escS sps v' ++ r')
            rw [h1]

/-! ### the program's split -/

/-- The attribute's object identifier. -/
def oidNm (t : List UInt8) : List UInt8 := attrs.foldr (fun x n => if x.1 = t then x.2 else n) []
end Go.Proofs.YtomghnmoomodiaaGreatDoor

