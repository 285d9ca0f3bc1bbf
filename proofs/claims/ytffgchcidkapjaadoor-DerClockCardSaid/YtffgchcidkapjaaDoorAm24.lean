/- Counting up; stacks and arrays that are made; contracts' small change. -/
import Derived.Test.YtffgchcidkapjaaDoorAm23
set_option linter.unusedVariables false
set_option linter.unusedSimpArgs false
namespace Go.GAM
open Go.RowKit

theorem inc {i : Nat} {K : Int → Prop} (h : i ≤ 1000000000) (hk : K ((i + 1 : Nat) : Int)) : withI (IntKind.wrap .i64 ((i : Int) + 1)) K :=
  withI_is (n := ((i + 1 : Nat) : Int)) (by rw [wrap_i64 (by omega) (by omega)]; omega) hk
theorem inc2 {i : Nat} {K : Int → Prop} (h : i ≤ 1000000000) (hk : K ((i + 2 : Nat) : Int)) : withI (IntKind.wrap .i64 ((i : Int) + 2)) K :=
  withI_is (n := ((i + 2 : Nat) : Int)) (by rw [wrap_i64 (by omega) (by omega)]; omega) hk
/-- A sum, a product that fits. -/
theorem st_w {e n : Int} {K : Int → Prop} (h : e = n) (h0 : -9223372036854775808 ≤ n) (h1 : n < 9223372036854775808) (hk : K n) : withI (IntKind.wrap .i64 e) K :=
  withI_is (by rw [h, wrap_i64 h0 h1]) hk
theorem u8_of {n : Int} (h0 : 0 ≤ n) (h1 : n < 256) : n = ((UInt8.ofNat n.toNat).toNat : Int) := by
  rw [UInt8.toNat_ofNat']; omega
theorem eq_byte (c d : UInt8) : decide ((c.toNat : Int) = (d.toNat : Int)) = decide (c = d) := by
  rw [decide_eq_decide]
  constructor
  · intro h; exact UInt8.toNat_inj.1 (by omega)
  · rintro rfl; rfl
theorem take_snoc {α : Type} {l : List α} {i : Nat} {c : α} (hc : l[i]? = some c) : l.take (i + 1) = l.take i ++ [c] := by
  rw [List.take_add_one, hc]; rfl
theorem at_of_drop {α : Type} {l r : List α} {i : Nat} {c : α} (h : l.drop i = c :: r) : l[i]? = some c := by
  have : (l.drop i)[0]? = some c := by rw [h]; rfl
  simpa using this
theorem drop_of_at {α : Type} {l : List α} {i : Nat} {c : α} (h : l[i]? = some c) : l.drop i = c :: l.drop (i + 1) := by
  have hi := lt_of_some h
  rw [List.drop_eq_getElem_cons hi]
  rw [List.getElem?_eq_getElem hi] at h
  simp only [Option.some.injEq] at h
  rw [h]

theorem callV_c {R : CallR} {f : Nat} {first cap vs : List AV} {h : AHeap} {K : AV → AHeap → Prop} (hf : Nat.blt f yid0 = true) (hk : R f (first ++ vs ++ cap) h K) : pCallV R (.fn (.func f) first cap) vs h K := by
  unfold pCallV
  simp only
  unfold pCall
  exact bif_t hf hk

/-- A stack that is made since h0. -/
structure NewS (h0 h : AHeap) (v : AV) (l : List AV) : Prop where
  upd : Upd (fun _ => False) h0 h
  stk : Stk h v l
  new : ∀ i, SlAt v i → h0.length ≤ i

theorem NewS.start (h : AHeap) : NewS h h (.sl none 0 none) [] := ⟨Upd.refl _ _, .inl ⟨rfl, rfl⟩, fun _ h => h.elim⟩
theorem NewS.empty {h0 h : AHeap} (U : Upd (fun _ => False) h0 h) {K : AV → AHeap → Prop} (hk : ∀ v h', NewS h0 h' v [] → Upd (fun _ => False) h h' → (∀ i, SlAt v i → h.length ≤ i) → K v h') : pBuildSl 1 0 [] [] h K := by
  refine ⟨rfl, hk _ _ ⟨U.trans (Upd.app _ _) fun _ _ h => h, .inr ⟨h.length, newBlk [] 1 true, rfl, by simp, rfl, Nat.le_refl _, rfl, Nat.le_refl _, rfl, rfl⟩, fun i hi => ?_⟩ (Upd.app _ _) fun i hi => ?_⟩
  · cases hi; exact U.1
  · cases hi; exact Nat.le_refl _
theorem NewS.push {bytes : Nat} {h0 h : AHeap} {v x : AV} {l zeros : List AV} (S : NewS h0 h v l) (hf : fillA zeros [(0, 1, x)] = some [x]) (hx : x.cellOK = true) (hlen : (l.length + 1) * bytes ≤ 140737488355328) (hl2 : l.length + 1 ≤ 9223372036854775807) {K : AV → AHeap → Prop}
    (hk : ∀ v' h', NewS h0 h' v' (l ++ [x]) → Upd (SlAt v) h h' → (∀ i, SlAt v' i → SlAt v i ∨ h.length ≤ i) → K v' h') : pBuildSl 1 1 zeros [(0, 1, x)] h fun y h' => pAppend 1 bytes v y h' K :=
  S.stk.push hf hx hlen hl2 fun v' h' U S' F => hk v' h' ⟨S.upd.trans U fun i hi hs => absurd (S.new i hs) (by omega), S', fun i hi => by
    rcases F i hi with h | h
    · exact S.new i h
    · exact Nat.le_trans S.upd.1 h⟩ U F
theorem NewS.cut {h0 h : AHeap} {v : AV} {l : List AV} (S : NewS h0 h v l) {n : Nat} (hn : n ≤ l.length) {K : AV → Prop} (hk : ∀ v', NewS h0 h v' (l.take n) → (∀ i, SlAt v' i → SlAt v i) → K v') : pSliceSl 1 v none (some (.i .i64 n)) none h K :=
  S.stk.cut hn fun v' S' F => hk v' ⟨S.upd, S', fun i hi => S.new i (F i hi)⟩ F

theorem Arr.stk {h : AHeap} {v : AV} {l : List AV} {n : Nat} (A : Arr 1 h v l n) : n = l.length ∧ Stk h v l := by
  rcases A with ⟨rfl, rfl, rfl⟩ | ⟨id, b, rfl, h2, rfl, h4, h5, h6, h7, h8⟩
  · exact ⟨rfl, .inl ⟨rfl, rfl⟩⟩
  · have : n = b.cells.length := by omega
    subst this
    exact ⟨rfl, .inr ⟨id, b, rfl, h2, h5, Nat.le_refl _, by simp, h6, h7, h8⟩⟩

theorem flat_rep (z : AV) : ∀ n, (List.replicate n [z]).flatten = List.replicate n z
  | 0 => rfl
  | n + 1 => by rw [List.replicate_succ, List.flatten_cons, flat_rep z n, List.replicate_succ]; rfl
theorem st_make {bytes n : Nat} {z : AV} {h : AHeap} {k : IntKind} (hb : bytes * n ≤ 281474976710656) (hn : n ≤ 9223372036854775807) {K : AV → AHeap → Prop}
    (hk : ∀ v h', NewA 1 h h' v (List.replicate n z) n → K v h') : pMake 1 bytes [z] (.i k (n : Int)) (.i k (n : Int)) h K := by
  refine ⟨by omega, by omega, Int.natCast_mul bytes n ▸ (by omega : ((bytes * n : Nat) : Int) ≤ (281474976710656 : Int)), by omega, rfl, Nat.one_pos, ?_⟩
  refine hk _ _ ⟨Upd.app _ _, .inr ⟨h.length, newBlk (List.replicate n z) 1 true, ?_, ?_, rfl, by simp, rfl, Nat.le_refl _, rfl, rfl⟩, fun i hi => by cases hi; exact Nat.le_refl _⟩
  · rw [Int.toNat_natCast, Nat.mul_one, List.length_replicate]
  · rw [Int.toNat_natCast, flat_rep, List.getElem?_append_right (Nat.le_refl _), Nat.sub_self]; rfl


/-- A text of one byte that is made. -/
theorem Tx.one {h0 h : AHeap} (U : Upd (fun _ => False) h0 h) {c : UInt8} {K : AV → AHeap → Prop} (hk : ∀ v h', Tx h0 h' v [c] → Upd (fun _ => False) h h' → K v h') : pBuildSl 1 1 [.i .u8 0] [(0, 1, .i .u8 (c.toNat : Int))] h K := by
  refine ⟨rfl, hk _ _ ⟨U.trans (Upd.app _ _) fun _ _ h => h, .inr ⟨h.length, newBlk [byteAV c] 1 true, rfl, by simp [byteAV]; rfl, rfl, rfl, rfl, Nat.le_refl _, rfl, rfl⟩, fun i hi => ?_⟩ (Upd.app _ _)⟩
  cases hi; exact U.1
theorem Tx.startU {h0 h : AHeap} (U : Upd (fun _ => False) h0 h) : Tx h0 h (.sl none 0 none) [] := ⟨U, Arr.nil _ _, fun _ h => h.elim⟩
/-- append(v, w..) of bytes. -/
theorem Tx.app {h0 h : AHeap} {v w : AV} {l m : List UInt8} (A : Tx h0 h v l) (B : Byt h w m) (hlen : l.length + m.length < 1000000000) {K : AV → AHeap → Prop} (hk : ∀ v' h', Tx h0 h' v' (l ++ m) → Upd (SlAt v) h h' → K v' h') : pAppend 1 1 v w h K := by
  refine NewA.append A (by decide) (ns := m.map byteAV) (k := m.length) (fun K hK => Rd.news B hK) (by simp) (byteAV_cellOK m) (by omega) (by omega) fun v' h' A' U => hk v' h' ?_ U
  unfold Tx
  rw [List.map_append, List.length_append]; exact A'
theorem Tx.byt {h0 h : AHeap} {v : AV} {l : List UInt8} (A : Tx h0 h v l) : Byt h v l := A.arr.rd
theorem Tx.ext {h0 h h' : AHeap} {v : AV} {l : List UInt8} (A : Tx h0 h v l) (U : Upd (fun _ => False) h h') : Tx h0 h' v l := ⟨A.upd.trans U fun _ _ h => h, A.arr.upd U fun _ _ h => h, A.new⟩

/-! ### tuples -/

theorem st_ext0 {a : AV} {l : List AV} {K : AV → Prop} (hk : K a) : pExtract 0 (.tu (a :: l)) K := ⟨by simp, hk⟩
theorem st_ext1 {a b : AV} {l : List AV} {K : AV → Prop} (hk : K b) : pExtract 1 (.tu (a :: b :: l)) K := ⟨by simp, hk⟩
theorem st_ext2 {a b c : AV} {l : List AV} {K : AV → Prop} (hk : K c) : pExtract 2 (.tu (a :: b :: c :: l)) K := ⟨by simp, hk⟩

/-! ### bits and bytes -/

theorem bits_and_mod {x n : Nat} (hx : x < 2 ^ 62) (hn : n < 62) : bitsOp .and .i64 (x : Int) ((2 ^ n - 1 : Nat) : Int) = ((x % 2 ^ n : Nat) : Int) := by
  have : 2 ^ n ≤ 2 ^ 61 := Nat.pow_le_pow_right (by omega) (by omega)
  rw [bits_and hx (by omega), Nat.and_two_pow_sub_one_eq_mod]
theorem wrap_u64 {n : Int} (h0 : 0 ≤ n) (h1 : n < 18446744073709551616) : IntKind.wrap .u64 n = n := by
  have : IntKind.wrap .u64 n = n % 18446744073709551616 := by
    show n.emod (2 ^ 64) = _
    rfl
  rw [this]; omega
theorem wrap_u8_nat (x : Nat) : IntKind.wrap .u8 (x : Int) = ((x % 256 : Nat) : Int) := by
  have : IntKind.wrap .u8 (x : Int) = (x : Int) % 256 := by
    show (x : Int).emod (2 ^ 8) = _
    rfl
  rw [this]; rfl
theorem byte_mod (x : Nat) : ((x % 256 : Nat) : Int) = ((UInt8.ofNat x).toNat : Int) := by
  rw [UInt8.toNat_ofNat']

end Go.GAM
