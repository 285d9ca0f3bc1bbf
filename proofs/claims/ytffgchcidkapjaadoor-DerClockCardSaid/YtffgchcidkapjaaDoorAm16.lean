/- Proofs over the texts: buffers of bytes, results without addresses. -/
import Derived.Test.YtffgchcidkapjaaDoorAm15
set_option linter.unusedVariables false
set_option linter.unusedSimpArgs false
namespace Go.GAM

/-- What was there is there. -/
def Ext (h0 h : AHeap) : Prop := h0.length ≤ h.length ∧ ∀ id, id < h0.length → h[id]? = h0[id]?

theorem Ext.refl (h : AHeap) : Ext h h := ⟨Nat.le_refl _, fun _ _ => rfl⟩
theorem Ext.trans {h1 h2 h3 : AHeap} (a : Ext h1 h2) (b : Ext h2 h3) : Ext h1 h3 := ⟨Nat.le_trans a.1 b.1, fun id hi => (b.2 id (Nat.lt_of_lt_of_le hi a.1)).trans (a.2 id hi)⟩
theorem Ext.app (h s : AHeap) : Ext h (h ++ s) := ⟨by simp, fun id hi => by rw [List.getElem?_append_left hi]⟩
theorem Ext.take {h0 h : AHeap} (a : Ext h0 h) : h.take h0.length = h0 := by
  apply List.ext_getElem?
  intro i
  rw [List.getElem?_take]
  by_cases hi : i < h0.length
  · rw [if_pos hi, a.2 i hi]
  · rw [if_neg hi, List.getElem?_eq_none (Nat.le_of_not_lt hi)]
theorem Ext.set {h0 h : AHeap} (a : Ext h0 h) {id : Nat} (hi : h0.length ≤ id) (b : ABlk) : Ext h0 (h.set id b) :=
  ⟨by simpa using a.1, fun j hj => by rw [List.getElem?_set_ne (by omega)]; exact a.2 j hj⟩

def clean1 : AV → Bool
  | .b _ | .i _ _ | .s _ | .p none | .sl none _ _ | .nf | .ni => true
  | _ => false
/-- No address in it. -/
def clean : AV → Bool
  | .ag cs | .tu cs => cs.all clean1
  | v => clean1 v

theorem clean1_ren {n : Nat} {v : AV} (h : clean1 v = true) : ren1 n [] v = v ∧ ok1 n [] v = true := by
  unfold clean1 at h
  split at h <;> first | exact ⟨rfl, rfl⟩ | cases h

theorem clean_ren {n : Nat} {v : AV} (h : clean v = true) : ren n [] v = v ∧ okR n [] v = true := by
  have hl : ∀ cs : List AV, cs.all clean1 = true → cs.map (ren1 n []) = cs ∧ cs.all (ok1 n []) = true := by
    intro cs
    induction cs with
    | nil => exact fun _ => ⟨rfl, rfl⟩
    | cons c cs ih =>
      intro hc
      simp only [List.all_cons, Bool.and_eq_true] at hc
      obtain ⟨h1, h2⟩ := ih hc.2
      obtain ⟨h3, h4⟩ := clean1_ren (n := n) hc.1
      simp [h1, h2, h3, h4]
  unfold clean at h
  split at h
  · rename_i cs; obtain ⟨h1, h2⟩ := hl cs h; exact ⟨by simp [ren, h1], by simpa [okR] using h2⟩
  · rename_i cs; obtain ⟨h1, h2⟩ := hl cs h; exact ⟨by simp [ren, h1], by simpa [okR] using h2⟩
  · rename_i h1 h2
    obtain ⟨h3, h4⟩ := clean1_ren (n := n) h
    constructor
    · unfold ren; split
      · exact absurd rfl (h1 _)
      · exact absurd rfl (h2 _)
      · exact h3
    · unfold okR; split
      · exact absurd rfl (h1 _)
      · exact absurd rfl (h2 _)
      · exact h4

theorem kRet_pure {h0 h : AHeap} {K : AV → AHeap → Prop} {r : AV} (hp : clean r = true) (hE : Ext h0 h) (hk : K r h0) : kRet h0 K r h := by
  obtain ⟨h1, h2⟩ := clean_ren (n := h0.length) hp
  refine .inr ⟨[], List.nodup_nil, h2, by simp, fun id hi => .inl (hE.2 id hi), hE.1, ?_⟩
  rw [h1, hE.take]
  simpa using hk

/-- A slice of bytes that may be appended to. -/
def Buf (n : Nat) (h : AHeap) (v : AV) (l : List UInt8) : Prop :=
  (l = [] ∧ v = .sl none 0 none) ∨ ∃ id b, n ≤ id ∧ h[id]? = some b ∧ v = .sl (some ⟨id, l.length, 0⟩) l.length none ∧ b.cells = l.map byteAV ∧ b.sz = 1 ∧ b.floor ≤ l.length ∧ b.ro = false ∧ b.gl = false

theorem byteAV_cellOK (l : List UInt8) : (l.map byteAV).all AV.cellOK = true := by
  rw [List.all_eq_true]; intro x hx; simp only [List.mem_map] at hx; obtain ⟨c, _, rfl⟩ := hx; rfl
theorem byteAV_isByte (l : List UInt8) : (l.map byteAV).all isByte = true := by
  rw [List.all_eq_true]; intro x hx; simp only [List.mem_map] at hx; obtain ⟨c, _, rfl⟩ := hx; rfl
theorem toByte_byteAV (c : UInt8) : toByte (byteAV c) = c := by simp [toByte, byteAV]
theorem toBytes_map (l : List UInt8) : (l.map byteAV).map toByte = l := by
  rw [List.map_map]
  have : toByte ∘ byteAV = id := by funext c; exact toByte_byteAV c
  rw [this, List.map_id]

theorem Buf.lt {n : Nat} {h : AHeap} {v : AV} {l : List UInt8} (B : Buf n h v l) : v = .sl none 0 none ∨ ∃ a len, v = .sl (some a) len none ∧ n ≤ a.id ∧ a.id < h.length := by
  rcases B with ⟨_, h2⟩ | ⟨id, b, h1, h2, h3, _⟩
  · exact .inl h2
  · exact .inr ⟨_, _, h3, h1, by rcases Nat.lt_or_ge id h.length with h | h; exact h; rw [List.getElem?_eq_none h] at h2; cases h2⟩

theorem Buf.str {n : Nat} {h : AHeap} {v : AV} {l : List UInt8} (B : Buf n h v l) {K : List UInt8 → Prop} (hk : K l) : pBytesStr v h K := by
  unfold pBytesStr slCells
  rcases B with ⟨rfl, rfl⟩ | ⟨id, b, h1, h2, rfl, h4, h5, h6, h7, h8⟩
  · exact ⟨rfl, hk⟩
  · refine ⟨b, h2, h5, ⟨h6, by simp [h4], by simp⟩, ?_, ?_⟩
    · simp only [h4, List.drop_zero, Nat.mul_one]; rw [List.take_of_length_le (by simp)]; exact byteAV_isByte l
    · simp only [h4, List.drop_zero, Nat.mul_one]; rw [List.take_of_length_le (by simp), toBytes_map]; exact hk

theorem Buf.append {n : Nat} {h : AHeap} {v x : AV} {l t : List UInt8} (B : Buf n h v l) (hn : n ≤ h.length) {K : AV → AHeap → Prop}
    (hx : ∀ K : List AV → Nat → Prop, K (t.map byteAV) t.length → newsOf 1 x h K) (hlen : l.length + t.length ≤ 140737488355328)
    (hk : ∀ v' h', h.length ≤ h'.length → (∀ id, id < n → h'[id]? = h[id]?) → Buf n h' v' (l ++ t) → K v' h') : pAppend 1 1 v x h K := by
  refine ⟨Nat.one_pos, hx _ ?_⟩
  rcases B with ⟨rfl, rfl⟩ | ⟨id, b, h1, h2, rfl, h4, h5, h6, h7, h8⟩
  · refine ⟨by simpa using hlen, by have := hlen; simp at this; omega, ?_⟩
    split
    · rename_i h0
      have : t = [] := List.eq_nil_of_length_eq_zero h0
      subst this
      exact hk _ _ (Nat.le_refl _) (fun _ _ => rfl) (.inl ⟨rfl, rfl⟩)
    · refine hk _ _ (by simp) (fun id hi => by rw [List.getElem?_append_left (by omega)]) (.inr ⟨h.length, newBlk (t.map byteAV) 1 false, hn, by simp, by simp, rfl, rfl, by simp [newBlk], rfl, rfl⟩)
  · have hid : id < h.length := by rcases Nat.lt_or_ge id h.length with h' | h'; exact h'; rw [List.getElem?_eq_none h'] at h2; cases h2
    refine ⟨by omega, by omega, b, h2, h5, ⟨h6, by simp [h4], by simp⟩, ?_⟩
    have hcells : (List.take (l.length * 1) (List.drop 0 b.cells)) = l.map byteAV := by
      rw [h4, List.drop_zero, Nat.mul_one, List.take_of_length_le (by simp)]
    by_cases ht : t.length = 0
    · have : t = [] := List.eq_nil_of_length_eq_zero ht
      subst this
      refine .inl ⟨ht, hk _ _ (Nat.le_refl _) (fun _ _ => rfl) ?_⟩
      rw [List.append_nil]
      exact .inr ⟨id, b, h1, h2, rfl, h4, h5, h6, h7, h8⟩
    · have htp : 0 < t.length := Nat.pos_of_ne_zero ht
      cases hex : b.ex with
      | true =>
        refine .inr (.inl ⟨htp, .inr ⟨rfl, by simp [h4], rfl, by simp [h4]; omega⟩, ?_⟩)
        rw [hcells]
        refine hk _ _ (by simp) (fun id hi => by rw [List.getElem?_append_left (by omega)]) (.inr ⟨h.length, newBlk (l.map byteAV ++ t.map byteAV) 1 false, hn, by simp, by simp, by simp [newBlk], rfl, by simp [newBlk], rfl, rfl⟩)
      | false =>
        refine .inr (.inr (.inr (.inl ⟨htp, h7, by simp [h4], rfl, by simp [h4], rfl, rfl, h8, byteAV_cellOK t, ?_⟩)))
        refine hk _ _ (by simp) (fun j hj => by rw [List.getElem?_set_ne (by simp only; omega)]) (.inr ⟨id, { b with cells := b.cells ++ t.map byteAV }, h1, by simp [hid, hex], by simp [h4], by simp [h4], h5, by simp; omega, h7, h8⟩)

theorem byteAV_wrap {n : Int} (h0 : 0 ≤ n) (h1 : n < 256) : AV.i .u8 n = byteAV (UInt8.ofNat n.toNat) := by
  unfold byteAV
  congr 1
  rw [UInt8.toNat_ofNat']
  omega

/-- append(b, c) -/
theorem Buf.push {n : Nat} {h : AHeap} {v : AV} {l : List UInt8} (B : Buf n h v l) (hn : n ≤ h.length) {c : Int} {K : AV → AHeap → Prop} (h0 : 0 ≤ c) (h1 : c < 256) (hlen : l.length < 140737488355328)
    (hk : ∀ v' h', n ≤ h'.length → (∀ id, id < n → h'[id]? = h[id]?) → Buf n h' v' (l ++ [UInt8.ofNat c.toNat]) → K v' h') :
    pBuildSl 1 1 [.i .u8 0] [(0, 1, .i .u8 c)] h fun x h' => pAppend 1 1 v x h' K := by
  have hb := byteAV_wrap h0 h1
  refine ⟨rfl, ?_⟩
  show pAppend 1 1 v (.sl (some ⟨h.length, 1, 0⟩) 1 none) (h ++ [newBlk [AV.i .u8 c] 1 true]) K
  have B' : Buf n (h ++ [newBlk [AV.i .u8 c] 1 true]) v l := by
    rcases B with h | ⟨id, b, h1, h2, h3⟩
    · exact .inl h
    · refine .inr ⟨id, b, h1, ?_, h3⟩
      rw [List.getElem?_append_left]
      · exact h2
      · rcases Nat.lt_or_ge id h.length with h' | h'; exact h'; rw [List.getElem?_eq_none h'] at h2; cases h2
  refine B'.append (t := [UInt8.ofNat c.toNat]) (by simp; omega) (fun K' hK => ?_) (by simp; omega) fun v' h' g1 g2 g3 => hk v' h' (by simp at g1; omega) (fun id hi => by rw [g2 id hi, List.getElem?_append_left (by omega)]) g3
  refine ⟨newBlk [AV.i .u8 c] 1 true, by simp, rfl, ⟨by simp [newBlk], by simp [newBlk], by simp⟩, ?_⟩
  simpa [newBlk, hb] using hK

theorem wrap_i64 {n : Int} (h0 : -9223372036854775808 ≤ n) (h1 : n < 9223372036854775808) : IntKind.wrap .i64 n = n := by
  have e1 : (2 : Int) ^ 64 = 18446744073709551616 := by decide
  have e2 : (2 : Int) ^ (64 - 1) = 9223372036854775808 := by decide
  simp only [IntKind.wrap, IntKind.bits, IntKind.signed, Bool.true_and, decide_eq_true_eq, e1, e2]
  split <;> omega
theorem wrap_u8 {n : Int} (h0 : 0 ≤ n) (h1 : n < 256) : IntKind.wrap .u8 n = n := by
  simp only [IntKind.wrap, IntKind.bits, IntKind.signed, Bool.false_and, Bool.false_eq_true, if_false]
  omega

theorem getD_some {α : Type} {l : List α} {i : Nat} {c d : α} (hc : l[i]? = some c) : l.getD i d = c := by
  rw [List.getD_eq_getElem?_getD, hc]; rfl

theorem idxStr {l : List UInt8} {k : IntKind} {i : Nat} {c : UInt8} {K : Int → Prop} (hc : l[i]? = some c) (hk : K (c.toNat : Int)) : pIdxStr (.s l) (.i k (i : Int)) K := by
  obtain ⟨hlt, _⟩ := List.getElem?_eq_some_iff.1 hc
  refine ⟨by omega, by simpa using hlt, ?_⟩
  rw [Int.toNat_natCast, getD_some hc]
  exact hk

theorem take_succ {α : Type} {l : List α} {i : Nat} {c : α} (hc : l[i]? = some c) : l.take (i + 1) = l.take i ++ [c] := by
  rw [List.take_add_one, hc]; rfl

theorem bif_t {c : Bool} {A B : Prop} (hc : c = true) (h : A) : (bif c then A else B) := by rw [hc]; exact h
theorem bif_f {c : Bool} {A B : Prop} (hc : c = false) (h : B) : (bif c then A else B) := by rw [hc]; exact h
theorem bif_both {c : Bool} {A B : Prop} (h1 : c = true → A) (h2 : c = false → B) : (bif c then A else B) := by
  cases c
  · exact h2 rfl
  · exact h1 rfl

theorem withI_is {e n : Int} {K : Int → Prop} (h : e = n) (hk : K n) : withI e K := by subst h; exact hk
theorem withB_is {e n : Bool} {K : Bool → Prop} (h : e = n) (hk : K n) : withB e K := by subst h; exact hk
theorem withL_is {e n : List UInt8} {K : List UInt8 → Prop} (h : e = n) (hk : K n) : withL e K := by subst h; exact hk

end Go.GAM
