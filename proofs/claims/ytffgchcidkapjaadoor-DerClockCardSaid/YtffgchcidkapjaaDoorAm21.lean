/- A text that is built up byte by byte; a stack of values; calls of the library by contracts that are given. -/
import Derived.Test.YtffgchcidkapjaaDoorAm20
set_option linter.unusedVariables false
set_option linter.unusedSimpArgs false
namespace Go.GAM
open Go.RowKit

theorem Upd.ext {h h' : AHeap} (U : Upd (fun _ => False) h h') : Ext h h' := ⟨U.1, fun i hi => U.2 i hi fun h => h⟩

/-- An array that is made since h0. -/
structure NewA (sz : Nat) (h0 h : AHeap) (v : AV) (cs : List AV) (len : Nat) : Prop where
  upd : Upd (fun _ => False) h0 h
  arr : Arr sz h v cs len
  new : ∀ i, SlAt v i → h0.length ≤ i

theorem NewA.start (sz : Nat) (h : AHeap) : NewA sz h h (.sl none 0 none) [] 0 := ⟨Upd.refl _ _, Arr.nil _ _, fun _ h => h.elim⟩
theorem NewA.append {sz bytes : Nat} {h0 h : AHeap} {v x : AV} {cs ns : List AV} {len k : Nat} (A : NewA sz h0 h v cs len) (hz : 0 < sz) {K : AV → AHeap → Prop}
    (hx : ∀ K : List AV → Nat → Prop, K ns k → newsOf sz x h K) (hns : ns.length = k * sz) (hok : ns.all AV.cellOK = true) (hlen : (len + k) * bytes ≤ 140737488355328) (hl2 : len + k ≤ 9223372036854775807)
    (hk : ∀ v' h', NewA sz h0 h' v' (cs ++ ns) (len + k) → Upd (SlAt v) h h' → K v' h') : pAppend sz bytes v x h K :=
  A.arr.append hz hx hns hok hlen hl2 fun v' h' U A' F => hk v' h' ⟨A.upd.trans U fun i hi hs => absurd (A.new i hs) (by omega), A', fun i hi => by
    rcases F i hi with h | h
    · exact A.new i h
    · exact Nat.le_trans A.upd.1 h⟩ U
theorem NewA.build {sz bytes n : Nat} {h0 h : AHeap} {v : AV} {cs ns zeros : List AV} {parts : List (Nat × Nat × AV)} {len : Nat} (A : NewA sz h0 h v cs len) (hz : 0 < sz) {K : AV → AHeap → Prop}
    (hf : fillA zeros parts = some ns) (hns : ns.length = n * sz) (hok : ns.all AV.cellOK = true) (hlen : (len + n) * bytes ≤ 140737488355328) (hl2 : len + n ≤ 9223372036854775807)
    (hk : ∀ v' h', NewA sz h0 h' v' (cs ++ ns) (len + n) → K v' h') : pBuildSl sz n zeros parts h fun y h' => pAppend sz bytes v y h' K := by
  refine st_build hf hns fun y h1 hl1 U1 R1 F1 => ?_
  have A1 : NewA sz h0 h1 v cs len := ⟨A.upd.trans U1 fun _ _ h => h, A.arr.upd U1 fun _ _ h => h, A.new⟩
  exact A1.append hz (fun K hK => R1.news hK) hns hok hlen hl2 fun v' h' A' _ => hk v' h' A'

/-- A text that is made since h0. -/
def Tx (h0 h : AHeap) (v : AV) (l : List UInt8) : Prop := NewA 1 h0 h v (l.map byteAV) l.length

theorem Tx.start (h : AHeap) : Tx h h (.sl none 0 none) [] := NewA.start 1 h
theorem Tx.empty {h : AHeap} {K : AV → AHeap → Prop} (hk : ∀ v h', Tx h h' v [] → K v h') : pBuildSl 1 0 [] [] h K := by
  refine ⟨rfl, hk _ _ ⟨Upd.app _ _, .inr ⟨h.length, newBlk [] 1 true, rfl, by simp, rfl, rfl, rfl, Nat.le_refl _, rfl, rfl⟩, fun i hi => by cases hi; exact Nat.le_refl _⟩⟩
theorem Tx.push {h0 h : AHeap} {v : AV} {l : List UInt8} (A : Tx h0 h v l) {c : UInt8} {K : AV → AHeap → Prop} (hlen : l.length < 1000000000) (hk : ∀ v' h', Tx h0 h' v' (l ++ [c]) → K v' h') :
    pBuildSl 1 1 [.i .u8 0] [(0, 1, .i .u8 (c.toNat : Int))] h fun y h' => pAppend 1 1 v y h' K := by
  refine NewA.build A (by decide) (ns := [byteAV c]) rfl rfl rfl (by omega) (by omega) fun v' h' A' => hk v' h' ?_
  unfold Tx
  rw [List.map_append, List.length_append]; exact A'
theorem Tx.push2 {h0 h : AHeap} {v : AV} {l : List UInt8} (A : Tx h0 h v l) {c d : UInt8} {K : AV → AHeap → Prop} (hlen : l.length < 1000000000) (hk : ∀ v' h', Tx h0 h' v' (l ++ [c, d]) → K v' h') :
    pBuildSl 1 2 [.i .u8 0, .i .u8 0] [(0, 1, .i .u8 (c.toNat : Int)), (1, 1, .i .u8 (d.toNat : Int))] h fun y h' => pAppend 1 1 v y h' K := by
  refine NewA.build A (by decide) (ns := [byteAV c, byteAV d]) rfl rfl rfl (by omega) (by omega) fun v' h' A' => hk v' h' ?_
  unfold Tx
  rw [List.map_append, List.length_append]; exact A'
theorem Tx.push3 {h0 h : AHeap} {v : AV} {l : List UInt8} (A : Tx h0 h v l) {c d e : UInt8} {K : AV → AHeap → Prop} (hlen : l.length < 1000000000) (hk : ∀ v' h', Tx h0 h' v' (l ++ [c, d, e]) → K v' h') :
    pBuildSl 1 3 [.i .u8 0, .i .u8 0, .i .u8 0] [(0, 1, .i .u8 (c.toNat : Int)), (1, 1, .i .u8 (d.toNat : Int)), (2, 1, .i .u8 (e.toNat : Int))] h fun y h' => pAppend 1 1 v y h' K := by
  refine NewA.build A (by decide) (ns := [byteAV c, byteAV d, byteAV e]) rfl rfl rfl (by omega) (by omega) fun v' h' A' => hk v' h' ?_
  unfold Tx
  rw [List.map_append, List.length_append]; exact A'
theorem Tx.push4 {h0 h : AHeap} {v : AV} {l : List UInt8} (A : Tx h0 h v l) {c d e f : UInt8} {K : AV → AHeap → Prop} (hlen : l.length < 1000000000) (hk : ∀ v' h', Tx h0 h' v' (l ++ [c, d, e, f]) → K v' h') :
    pBuildSl 1 4 [.i .u8 0, .i .u8 0, .i .u8 0, .i .u8 0] [(0, 1, .i .u8 (c.toNat : Int)), (1, 1, .i .u8 (d.toNat : Int)), (2, 1, .i .u8 (e.toNat : Int)), (3, 1, .i .u8 (f.toNat : Int))] h fun y h' => pAppend 1 1 v y h' K := by
  refine NewA.build A (by decide) (ns := [byteAV c, byteAV d, byteAV e, byteAV f]) rfl rfl rfl (by omega) (by omega) fun v' h' A' => hk v' h' ?_
  unfold Tx
  rw [List.map_append, List.length_append]; exact A'
/-- The text is handed back as a string. -/
theorem Tx.ret {h0 h : AHeap} {v : AV} {l : List UInt8} (A : Tx h0 h v l) {Q : AV → AHeap → Prop} (hq : Q (.s l) h0) : pBytesStr v h fun x => kRet h0 Q (.s x) h :=
  Byt.str (l := l) A.arr.rd (kRet_pure rfl A.upd.ext hq)
theorem Tx.str {h0 h : AHeap} {v : AV} {l : List UInt8} (A : Tx h0 h v l) {K : List UInt8 → Prop} (hq : K l) : pBytesStr v h K := Byt.str (l := l) A.arr.rd hq

/-- One byte at a place. -/
theorem st_at {l r : List UInt8} {i : Nat} {c : UInt8} {K : Int → Prop} (h : l.drop i = c :: r) (hk : K (c.toNat : Int)) : pIdxStr (.s l) (.i .i64 (i : Int)) K := by
  refine idxStr ?_ hk
  have : (l.drop i)[0]? = some c := by rw [h]; rfl
  simpa using this
theorem drop_lt {α : Type} {l r : List α} {i : Nat} {c : α} (h : l.drop i = c :: r) : i < l.length := by
  rcases Nat.lt_or_ge i l.length with h1 | h1
  · exact h1
  · rw [List.drop_eq_nil_of_le h1] at h; cases h
theorem drop_next {α : Type} {l r : List α} {i : Nat} {c : α} (h : l.drop i = c :: r) : l.drop (i + 1) = r := by
  have : (l.drop i).drop 1 = r := by rw [h]; rfl
  rwa [List.drop_drop] at this
theorem drop_end {α : Type} {l : List α} {i : Nat} (h : l.drop i = []) : l.length ≤ i := by
  have := congrArg List.length h
  simp at this; omega
theorem byte_lt (c : UInt8) : 0 ≤ (c.toNat : Int) ∧ (c.toNat : Int) < 256 := ⟨by omega, by have := c.toNat_lt; omega⟩

/-! ### a stack of values of one cell -/

def Stk (h : AHeap) (v : AV) (l : List AV) : Prop :=
  (v = .sl none 0 none ∧ l = []) ∨ ∃ id b, v = .sl (some ⟨id, b.cells.length, 0⟩) l.length none ∧ h[id]? = some b ∧ b.sz = 1 ∧ l.length ≤ b.cells.length ∧ b.cells.take l.length = l ∧ b.floor ≤ b.cells.length ∧ b.ro = false ∧ b.gl = false

theorem Stk.rd {h : AHeap} {v : AV} {l : List AV} (S : Stk h v l) : Rd 1 h v l l.length := by
  rcases S with ⟨rfl, rfl⟩ | ⟨id, b, rfl, h1, h2, h3, h4, h5, h6, h7⟩
  · exact .inl ⟨rfl, rfl, rfl⟩
  · exact .inr ⟨id, _, 0, none, b, rfl, h1, h2, h5, Nat.le_refl _, by omega, by rw [List.drop_zero, Nat.mul_one]; exact h4⟩
theorem Stk.upd {M : Nat → Prop} {h h' : AHeap} {v : AV} {l : List AV} (S : Stk h v l) (U : Upd M h h') (hM : ∀ i, SlAt v i → ¬ M i) : Stk h' v l := by
  rcases S with h1 | ⟨id, b, rfl, h1, h2⟩
  · exact .inl h1
  · exact .inr ⟨id, b, rfl, (U.2 id (lt_of_some h1) (hM id rfl)).trans h1, h2⟩
theorem Stk.cut {h : AHeap} {v : AV} {l : List AV} (S : Stk h v l) {n : Nat} (hn : n ≤ l.length) {K : AV → Prop} (hk : ∀ v', Stk h v' (l.take n) → (∀ i, SlAt v' i → SlAt v i) → K v') : pSliceSl 1 v none (some (.i .i64 n)) none h K := by
  rcases S with ⟨rfl, rfl⟩ | ⟨id, b, rfl, h1, h2, h3, h4, h5, h6, h7⟩
  · have : n = 0 := by simpa using hn
    subst this
    exact ⟨by simp, rfl, rfl, rfl, fun h => by simp at h, hk _ (.inl ⟨rfl, by simp⟩) fun _ h => h⟩
  · refine ⟨Nat.one_pos, fun h => by simp at h, by omega, by simp, b, h1, h5, h5, h2, .inl (by simpa using hn), ?_⟩
    refine hk _ (.inr ⟨id, b, by simp; omega, h1, h2, by simp; omega, ?_, h5, h6, h7⟩) fun _ h => h
    rw [List.length_take, Nat.min_eq_left hn, ← h4, List.take_take, Nat.min_eq_left hn]
theorem Stk.push {bytes : Nat} {h : AHeap} {v x : AV} {l zeros : List AV} (S : Stk h v l) (hf : fillA zeros [(0, 1, x)] = some [x]) (hx : x.cellOK = true) (hlen : (l.length + 1) * bytes ≤ 140737488355328) (hl2 : l.length + 1 ≤ 9223372036854775807) {K : AV → AHeap → Prop}
    (hk : ∀ v' h', Upd (SlAt v) h h' → Stk h' v' (l ++ [x]) → (∀ i, SlAt v' i → SlAt v i ∨ h.length ≤ i) → K v' h') : pBuildSl 1 1 zeros [(0, 1, x)] h fun y h' => pAppend 1 bytes v y h' K := by
  refine st_build hf rfl fun y h1 hl1 U1 R1 F1 => ⟨Nat.one_pos, R1.news ?_⟩
  have S1 := S.upd U1 fun _ _ h => h
  rcases S1 with ⟨rfl, rfl⟩ | ⟨id, b, rfl, g1, g2, g3, g4, g5, g6, g7⟩
  · refine ⟨by simpa using hlen, by omega, ?_⟩
    rw [if_neg (by decide)]
    exact hk _ _ ((U1.mono fun _ _ h => h.elim).trans (Upd.app _ _) fun _ _ h => h.elim) (.inr ⟨h1.length, newBlk [x] 1 false, by simp [newBlk], by simp, rfl, by simp [newBlk], by simp [newBlk], by simp [newBlk], rfl, rfl⟩) fun i hi => .inr (by have e : h1.length = i := hi; omega)
  · have hid := lt_of_some g1
    have hidh : id < h.length := Rd.lt S.rd (id := id) rfl
    refine ⟨hlen, by omega, b, g1, g2, ⟨g5, Nat.le_refl _, by simp only; omega⟩, ?_⟩
    by_cases hfull : l.length = b.cells.length
    · cases hex : b.ex with
      | true =>
        refine .inr (.inl ⟨Nat.one_pos, .inr ⟨rfl, rfl, rfl, by simp only; omega⟩, ?_⟩)
        refine hk _ _ ((U1.mono fun _ _ h => h.elim).trans (Upd.app _ _) fun _ _ h => h.elim) (.inr ⟨h1.length, newBlk (l ++ [x]) 1 false, ?_, ?_, rfl, by simp [newBlk], by simp only [newBlk, List.length_append]; exact List.take_of_length_le (by simp), by simp [newBlk], rfl, rfl⟩) fun i hi => .inr (by have e : h1.length = i := hi; omega)
        · simp [newBlk, g4, g3]
        · simp [g4]
      | false =>
        refine .inr (.inr (.inr (.inl ⟨Nat.one_pos, g6, rfl, rfl, by omega, rfl, rfl, g7, by simp [hx], ?_⟩)))
        have hcl : b.cells = l := by rw [hfull, List.take_length] at g4; exact g4
        refine hk _ _ ((U1.mono fun _ _ h => h.elim).trans (Upd.set _ _ _) fun i _ h => h.symm) (.inr ⟨id, { b with cells := b.cells ++ [x] }, ?_, by simp [hid, hex], g2, by simp; omega, ?_, by simp; omega, g6, g7⟩) fun i hi => .inl hi
        · simp
        · simp only [hcl]
          rw [List.take_of_length_le (by simp)]
    · refine .inr (.inr (.inl ⟨Nat.one_pos, g6, rfl, by simp only; omega, .inl rfl, by simp [hx], ?_⟩))
      refine hk _ _ ((U1.mono fun _ _ h => h.elim).trans (Upd.set _ _ _) fun i _ h => h.symm) (.inr ⟨id, { b with cells := wr b.cells (0 + l.length * 1) [x], floor := b.cells.length }, ?_, show (h1.set id _)[id]? = some _ from List.getElem?_set_self hid, g2, ?_, ?_, ?_, g6, g7⟩) fun i hi => .inl hi
      · simp [wr]
      · simp [wr]; omega
      · simp only [wr, Nat.zero_add, Nat.mul_one, List.length_append, List.length_cons, List.length_nil]
        apply List.ext_getElem?
        intro i
        by_cases h1 : i < l.length
        · rw [List.getElem?_take_of_lt (by omega), List.getElem?_set_ne (by omega), List.getElem?_append_left h1]
          conv => rhs; rw [← g4]
          rw [List.getElem?_take_of_lt h1]
        · by_cases h2 : i = l.length
          · subst h2
            rw [List.getElem?_take_of_lt (by omega), List.getElem?_set_self (by omega), List.getElem?_append_right (by omega)]
            simp
          · rw [List.getElem?_eq_none (by simp; omega), List.getElem?_eq_none (by simp; omega)]
      · simp [wr]

theorem Rd.cell {sz : Nat} {h : AHeap} {v : AV} {cs : List AV} {len : Nat} (R : Rd sz h v cs len) {k : IntKind} {i : Nat} {c : AV} (hz : 0 < sz) (hi : i < len) (hc : cs[i * sz]? = some c) {K : AV → Prop} (hk : K c) :
    pIdxAddrSl sz v (.i k (i : Int)) h fun a => pLoad1 a h K := by
  rcases R with ⟨rfl, rfl, rfl⟩ | ⟨id, ver, off, cap, b, rfl, h2, h3, h4, h5, h6, h7⟩
  · omega
  · have A : RdAt sz h id ver off b cs len := ⟨h2, h3, h4, h5, h6, h7⟩
    exact st_idx A hi (st_elem (o := 0) A hi hz (by simpa using hc) hk)

theorem Tx.load {h0 h : AHeap} {v : AV} {l : List UInt8} (A : Tx h0 h v l) {k : IntKind} {i : Nat} {c : UInt8} (hc : l[i]? = some c) {K : AV → Prop} (hk : K (.i .u8 (c.toNat : Int))) : pIdxAddrSl 1 v (.i k (i : Int)) h fun a => pLoad1 a h K :=
  Rd.cell A.arr.rd Nat.one_pos (lt_of_some hc) (by rw [Nat.mul_one, List.getElem?_map, hc]; rfl) hk

/-- A store into an array of one's own, one cell an element. -/
theorem Arr.store {h : AHeap} {v x : AV} {cs : List AV} {len : Nat} (A : Arr 1 h v cs len) {k : IntKind} {i : Nat} (hi : i < len) (hx : x.parts = [x]) (hs : x.sizeOK = true) (hc : x.cellOK = true) {K : AHeap → Prop}
    (hk : ∀ h', Upd (SlAt v) h h' → Arr 1 h' v (cs.set i x) len → K h') : pIdxAddrSl 1 v (.i k (i : Int)) h fun p => pStore 1 p x h K := by
  rcases A with ⟨rfl, rfl, rfl⟩ | ⟨id, b, rfl, h2, rfl, h4, h5, h6, h7, h8⟩
  · omega
  · have hid := lt_of_some h2
    refine ⟨by omega, by omega, ⟨b, h2, h6, h6⟩, ?_⟩
    refine ⟨b, h2, h7, h6, rfl, by simp only [Int.toNat_natCast]; omega, hs, by rw [hx]; rfl, by rw [hx]; simp [hc], ?_⟩
    refine hk _ ((Upd.set _ _ _).mono fun i _ h => h.symm) (.inr ⟨id, { b with cells := wr b.cells (0 + i * 1) x.parts, floor := b.cells.length }, ?_, ?_, ?_, ?_, h5, ?_, h7, h8⟩)
    · simp
    · simp only [Int.toNat_natCast]; exact List.getElem?_set_self hid
    · rw [hx]; simp [wr]
    · simpa using h4
    · simp
theorem Tx.store {h0 h : AHeap} {v : AV} {l : List UInt8} (A : Tx h0 h v l) {k : IntKind} {i : Nat} {c : UInt8} (hi : i < l.length) {K : AHeap → Prop} (hk : ∀ h', Tx h0 h' v (l.set i c) → K h') :
    pIdxAddrSl 1 v (.i k (i : Int)) h fun p => pStore 1 p (.i .u8 (c.toNat : Int)) h K := by
  refine A.arr.store hi rfl rfl rfl fun h' U A' => hk h' ⟨A.upd.trans U fun j hj hs => absurd (A.new j hs) (by omega), ?_, A.new⟩
  have e : (l.map byteAV).set i (.i .u8 (c.toNat : Int)) = (l.set i c).map byteAV := by rw [List.map_set]; rfl
  rw [e] at A'
  rw [List.length_set]; exact A'
theorem Tx.ofStr {l : List UInt8} {h : AHeap} {K : AV → AHeap → Prop} (hk : ∀ v h', Tx h h' v l → K v h') : pStrBytes (.s l) h K :=
  hk _ _ ⟨Upd.app _ _, .inr ⟨h.length, newBlk (l.map byteAV) 1 false, by simp, by simp, rfl, by simp, rfl, Nat.le_refl _, rfl, rfl⟩, fun i hi => by cases hi; exact Nat.le_refl _⟩

/-! ### numbers -/

theorem bits_nat {x : Nat} (h : x < 2 ^ 64) : (BitVec.ofInt 64 (x : Int)).toNat = x := by
  simp [BitVec.toNat_ofInt]; omega
theorem bits_or {x y : Nat} (hx : x < 2 ^ 62) (hy : y < 2 ^ 62) : bitsOp .or .i64 x y = ((x ||| y : Nat) : Int) := by
  have h : x ||| y < 2 ^ 62 := Nat.or_lt_two_pow hx hy
  show IntKind.wrap .i64 (((BitVec.ofInt 64 (x : Int)) ||| (BitVec.ofInt 64 (y : Int))).toNat : Int) = _
  rw [BitVec.toNat_or, bits_nat (by omega), bits_nat (by omega), wrap_i64 (by omega) (by omega)]
theorem bits_and {x y : Nat} (hx : x < 2 ^ 62) (hy : y < 2 ^ 62) : bitsOp .and .i64 x y = ((x &&& y : Nat) : Int) := by
  have h : x &&& y < 2 ^ 62 := Nat.and_lt_two_pow _ hy
  show IntKind.wrap .i64 (((BitVec.ofInt 64 (x : Int)) &&& (BitVec.ofInt 64 (y : Int))).toNat : Int) = _
  rw [BitVec.toNat_and, bits_nat (by omega), bits_nat (by omega), wrap_i64 (by omega) (by omega)]
theorem bits8_nat {x : Nat} (h : x < 256) : (BitVec.ofInt 8 (x : Int)).toNat = x := by
  simp [BitVec.toNat_ofInt]; omega
theorem bits_and8 {x y : Nat} (hx : x < 256) (hy : y < 256) : bitsOp .and .u8 x y = ((x &&& y : Nat) : Int) := by
  have h : x &&& y < 2 ^ 8 := Nat.and_lt_two_pow _ hy
  show IntKind.wrap .u8 (((BitVec.ofInt 8 (x : Int)) &&& (BitVec.ofInt 8 (y : Int))).toNat : Int) = _
  rw [BitVec.toNat_and, bits8_nat (by omega), bits8_nat (by omega), wrap_u8 (by omega) (by omega)]
theorem st_shl {a b : Nat} {K : Int → Prop} (hb : b ≤ 64) (h : a * 2 ^ b < 2 ^ 62) (hk : K ((a * 2 ^ b : Nat) : Int)) : pShl .i64 a b K := by
  refine ⟨by omega, ?_⟩
  have e : (a : Int) * 2 ^ (min (b : Int).toNat IntKind.i64.bits) = ((a * 2 ^ b : Nat) : Int) := by
    rw [Int.toNat_natCast, show IntKind.i64.bits = 64 from rfl, Nat.min_eq_left hb]; simp
  rw [e, wrap_i64 (by omega) (by omega)]; exact hk
theorem st_shr {a b : Nat} {k : IntKind} {K : Int → Prop} (hb : b ≤ k.bits) (hk : K ((a / 2 ^ b : Nat) : Int)) : pShr k a b K := by
  refine ⟨by omega, ?_⟩
  have e : (a : Int).fdiv (2 ^ (min (b : Int).toNat k.bits)) = ((a / 2 ^ b : Nat) : Int) := by
    rw [Int.toNat_natCast, Nat.min_eq_left hb]
    have h2 : ((2 : Int) ^ b) = ((2 ^ b : Nat) : Int) := by simp
    rw [h2, Int.fdiv_eq_ediv_of_nonneg _ (Int.natCast_nonneg (2 ^ b))]; rfl
  rw [e]; exact hk

/-! ### calls by contracts -/

theorem x_calls {P : Program} {f : FuncId} {cargs : List Value} {w w0 : World} {Fz : Nat → Prop} {μ : Mu} {own : Nat → Option Nat} {h : AHeap} {K : AV → AHeap → Prop} {av : AV} {v : Value} (hb : bodyOK P f = true) (R : Rel w0 Fz μ own h w)
    (hc : Calls P f cargs.toArray w fun e w' => e = .returned v ∧ Below w.heap.size w w') (hv : VRel μ av v) (hk : K av h) : CallOK P f cargs w (PostOf w0 Fz μ K) := by
  refine .inl ⟨f, cargs.toArray, bodyOK_run hb _ _, hc.mono fun e w' ⟨he, hb⟩ => ⟨v, he, av, μ, own, h, hk, hv, ?_, Sub.refl _⟩⟩
  exact R.same (fun B hB => hb.block B hB) hb.size hb.os hb.tape hb.output

end Go.GAM
