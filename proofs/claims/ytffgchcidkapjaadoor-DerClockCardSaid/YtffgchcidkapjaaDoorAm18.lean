/- Steps for proofs over the texts: records, arrays, slices that are read. -/
import Derived.Test.YtffgchcidkapjaaDoorAm17
import Derived.Test.YtffgchcidkapjaaDoorAmR
set_option linter.unusedVariables false
set_option linter.unusedSimpArgs false
namespace Go.GAM

/-- All blocks but those of M are as they were. -/
def Upd (M : Nat → Prop) (h h' : AHeap) : Prop := h.length ≤ h'.length ∧ ∀ i, i < h.length → ¬ M i → h'[i]? = h[i]?

theorem Upd.refl (M : Nat → Prop) (h : AHeap) : Upd M h h := ⟨Nat.le_refl _, fun _ _ _ => rfl⟩
theorem Upd.trans {M M' : Nat → Prop} {h h1 h2 : AHeap} (a : Upd M h h1) (b : Upd M' h1 h2) (hM : ∀ i, i < h.length → M' i → M i) : Upd M h h2 :=
  ⟨Nat.le_trans a.1 b.1, fun i hi hn => (b.2 i (Nat.lt_of_lt_of_le hi a.1) fun hm => hn (hM i hi hm)).trans (a.2 i hi hn)⟩
theorem Upd.mono {M M' : Nat → Prop} {h h1 : AHeap} (a : Upd M h h1) (hM : ∀ i, i < h.length → M i → M' i) : Upd M' h h1 :=
  ⟨a.1, fun i hi hn => a.2 i hi fun hm => hn (hM i hi hm)⟩
theorem Upd.app (h s : AHeap) : Upd (fun _ => False) h (h ++ s) := ⟨by simp, fun i hi _ => by rw [List.getElem?_append_left hi]⟩
theorem Upd.set (h : AHeap) (id : Nat) (b : ABlk) : Upd (· = id) h (h.set id b) := ⟨by simp, fun i hi hn => by rw [List.getElem?_set_ne (fun e => hn e.symm)]⟩

theorem lt_of_some {α : Type} {l : List α} {i : Nat} {a : α} (h : l[i]? = some a) : i < l.length := (List.getElem?_eq_some_iff.1 h).1

/-! ### records -/

def RecAt (h : AHeap) (id : Nat) (cs : List AV) : Prop := ∃ b : ABlk, h[id]? = some b ∧ b.cells = cs ∧ b.floor ≤ cs.length ∧ b.ro = false

theorem RecAt.lt {h : AHeap} {id : Nat} {cs : List AV} (R : RecAt h id cs) : id < h.length := by obtain ⟨b, h1, _⟩ := R; exact lt_of_some h1
theorem RecAt.upd {M : Nat → Prop} {h h' : AHeap} {id : Nat} {cs : List AV} (R : RecAt h id cs) (U : Upd M h h') (hM : ¬ M id) : RecAt h' id cs := by
  have hl := R.lt
  obtain ⟨b, h1, h2⟩ := R
  exact ⟨b, (U.2 id hl hM).trans h1, h2⟩

theorem st_nil {a : AA} {K : AV → Prop} (hk : K (.p (some a))) : pNil (.p (some a)) K := hk
theorem st_fld {id ver off o : Nat} {K : AV → Prop} (hk : K (.p (some ⟨id, ver, off + o⟩))) : pFieldAddr o (.p (some ⟨id, ver, off⟩)) K := hk
theorem st_quo {k : IntKind} {a b n : Int} {K : Int → Prop} (hb : b ≠ 0) (hn : k.wrap (a.tdiv b) = n) (hk : K n) : pQuo k a b K := by subst hn; exact ⟨hb, hk⟩
theorem st_rem {a b n : Int} {K : Int → Prop} (hb : b ≠ 0) (hn : a.tmod b = n) (hk : K n) : pRem a b K := by subst hn; exact ⟨hb, hk⟩
theorem st_load {h : AHeap} {id n o : Nat} {cs : List AV} {v : AV} {K : AV → Prop} (R : RecAt h id cs) (hn : n = cs.length) (hc : cs[o]? = some v) (hk : K v) : pLoad1 (.p (some ⟨id, n, o⟩)) h K := by
  obtain ⟨b, h1, rfl, h3, h4⟩ := R
  subst hn
  have := lt_of_some hc
  refine ⟨b, h1, ⟨h3, Nat.le_refl _, this⟩, ?_⟩
  show K (b.cells.getD o .u)
  rw [getD_some hc]; exact hk
theorem st_store {h : AHeap} {id n o : Nat} {cs : List AV} {v : AV} {K : AHeap → Prop} (R : RecAt h id cs) (hn : n = cs.length) (ho : o < cs.length) (hv : v.parts = [v] := by rfl) (hs : v.sizeOK = true := by rfl) (hc : v.cellOK = true := by rfl)
    (hk : ∀ h', h'.length = h.length → Upd (· = id) h h' → RecAt h' id (cs.set o v) → K h') : pStore 1 (.p (some ⟨id, n, o⟩)) v h K := by
  have hl := R.lt
  obtain ⟨b, h1, rfl, h3, h4⟩ := R
  subst hn
  refine ⟨b, h1, h4, h3, rfl, (by show o + 1 ≤ b.cells.length; omega), hs, by rw [hv]; rfl, by rw [hv]; simp [hc], ?_⟩
  refine hk _ (by simp) (Upd.set _ _ _) ⟨_, List.getElem?_set_self hl, ?_, ?_, h4⟩
  · rw [hv]; rfl
  · simp
theorem st_alloc {cells : List AV} {h : AHeap} {K : AV → AHeap → Prop} (hk : ∀ h', h'.length = h.length + 1 → Upd (fun _ => False) h h' → RecAt h' h.length cells → K (.p (some ⟨h.length, cells.length, 0⟩)) h') : pAlloc cells h K :=
  hk _ (by simp) (Upd.app _ _) ⟨newBlk cells 1 true, by simp, rfl, Nat.le_refl _, rfl⟩
theorem st_box {x : AV} {h : AHeap} {K : AV → AHeap → Prop} (hs : x.sizeOK = true := by rfl) (hk : ∀ h', h'.length = h.length + 1 → Upd (fun _ => False) h h' → RecAt h' h.length x.parts → K (.p (some ⟨h.length, x.parts.length, 0⟩)) h') : pBox x h K :=
  ⟨hs, hk _ (by simp) (Upd.app _ _) ⟨newBlk x.parts 1 true, by simp, rfl, Nat.le_refl _, rfl⟩⟩

theorem st_asI64 {n : Int} {K : Int → Prop} (hk : K n) : asI .i64 (.i .i64 n) K := hk
theorem st_asI {k : IntKind} {n : Int} {K : Int → Prop} (hk : K n) : asI k (.i k n) K := by cases k <;> exact hk
theorem st_asB {n : Bool} {K : Bool → Prop} (hk : K n) : asB (.b n) K := hk
theorem st_asS {n : List UInt8} {K : List UInt8 → Prop} (hk : K n) : asS (.s n) K := hk
theorem st_len {a : Option AA} {n : Nat} {c : Option Nat} {K : Int → Prop} (hk : K n) : pLenSl (.sl a n c) K := hk

theorem wr_all : ∀ (ws pre cs : List AV), ws.length = cs.length → wr (pre ++ cs) pre.length ws = pre ++ ws
  | [], pre, cs, h => by
    have : cs = [] := List.eq_nil_of_length_eq_zero (by simpa using h.symm)
    subst this; simp [wr]
  | w :: ws, pre, [], h => by simp at h
  | w :: ws, pre, c :: cs, h => by
    simp only [wr]
    have e : (pre ++ c :: cs).set pre.length w = (pre ++ [w]) ++ cs := by simp
    rw [e]
    have := wr_all ws (pre ++ [w]) cs (by simpa using h)
    simpa using this
theorem st_loadN {h : AHeap} {id n : Nat} {cs : List AV} {K : AV → Prop} (R : RecAt h id cs) (hn : n = cs.length) (hk : K (.ag cs)) : pLoadN n (.p (some ⟨id, n, 0⟩)) h K := by
  obtain ⟨b, h1, rfl, h3, h4⟩ := R
  subst hn
  refine ⟨b, h1, ⟨h3, Nat.le_refl _, by simp⟩, ?_⟩
  simpa using hk
theorem st_storeN {h : AHeap} {id n : Nat} {cs ws : List AV} {K : AHeap → Prop} (R : RecAt h id cs) (hn : n = cs.length) (hw : ws.length = n) (hc : ws.all AV.cellOK = true)
    (hk : ∀ h', h'.length = h.length → Upd (· = id) h h' → RecAt h' id ws → K h') : pStore n (.p (some ⟨id, n, 0⟩)) (.ag ws) h K := by
  have hl := R.lt
  obtain ⟨b, h1, rfl, h3, h4⟩ := R
  subst hn
  refine ⟨b, h1, h4, h3, rfl, (by show 0 + b.cells.length ≤ b.cells.length; omega), rfl, hw, hc, ?_⟩
  refine hk _ (by simp) (Upd.set _ _ _) ⟨_, List.getElem?_set_self hl, ?_, ?_, h4⟩
  · exact wr_all ws [] b.cells hw
  · rw [hw]; exact Nat.le_refl _

/-! ### slices -/

def SlAt (v : AV) (id : Nat) : Prop := match v with
  | .sl (some a) _ _ => a.id = id
  | _ => False

/-- A slice that may be read: its cells, its length. -/
def Rd (sz : Nat) (h : AHeap) (v : AV) (cs : List AV) (len : Nat) : Prop :=
  (v = .sl none 0 none ∧ len = 0 ∧ cs = []) ∨ ∃ id ver off cap b, v = .sl (some ⟨id, ver, off⟩) len cap ∧ h[id]? = some b ∧ b.sz = sz ∧ b.floor ≤ ver ∧ ver ≤ b.cells.length ∧ off + len * sz ≤ ver ∧ (b.cells.drop off).take (len * sz) = cs

theorem Rd.upd {sz : Nat} {M : Nat → Prop} {h h' : AHeap} {v : AV} {cs : List AV} {len : Nat} (R : Rd sz h v cs len) (U : Upd M h h') (hM : ∀ id, SlAt v id → ¬ M id) : Rd sz h' v cs len := by
  rcases R with h1 | ⟨id, ver, off, cap, b, rfl, h2, h3⟩
  · exact .inl h1
  · exact .inr ⟨id, ver, off, cap, b, rfl, (U.2 id (lt_of_some h2) (hM id rfl)).trans h2, h3⟩
theorem Rd.lt {sz : Nat} {h : AHeap} {v : AV} {cs : List AV} {len : Nat} (R : Rd sz h v cs len) {id : Nat} (hs : SlAt v id) : id < h.length := by
  rcases R with ⟨rfl, _⟩ | ⟨id', ver, off, cap, b, rfl, h2, h3⟩
  · exact hs.elim
  · cases hs; exact lt_of_some h2
theorem Rd.length {sz : Nat} {h : AHeap} {v : AV} {cs : List AV} {len : Nat} (R : Rd sz h v cs len) : cs.length = len * sz := by
  rcases R with ⟨_, rfl, rfl⟩ | ⟨id, ver, off, cap, b, rfl, h2, h3, h4, h5, h6, rfl⟩
  · simp
  · simp; omega
theorem Rd.sl {sz : Nat} {h : AHeap} {v : AV} {cs : List AV} {len : Nat} (R : Rd sz h v cs len) {K : List AV → Prop} (hk : K cs) : slCells sz v h K := by
  rcases R with ⟨rfl, rfl, rfl⟩ | ⟨id, ver, off, cap, b, rfl, h2, h3, h4, h5, h6, rfl⟩
  · exact hk
  · exact ⟨b, h2, h3, ⟨h4, h5, h6⟩, hk⟩
theorem Rd.len {sz : Nat} {h : AHeap} {v : AV} {cs : List AV} {len : Nat} (R : Rd sz h v cs len) {K : Int → Prop} (hk : K len) : pLenSl v K := by
  rcases R with ⟨rfl, rfl, rfl⟩ | ⟨id, ver, off, cap, b, rfl, h2⟩ <;> exact hk
theorem Rd.news {sz : Nat} {h : AHeap} {v : AV} {cs : List AV} {len : Nat} (R : Rd sz h v cs len) {K : List AV → Nat → Prop} (hk : K cs len) : newsOf sz v h K := by
  rcases R with ⟨rfl, rfl, rfl⟩ | ⟨id, ver, off, cap, b, rfl, h2, h3, h4, h5, h6, rfl⟩
  · exact hk
  · exact ⟨b, h2, h3, ⟨h4, h5, h6⟩, hk⟩

/-- The address of an element. -/
theorem Rd.idx {sz : Nat} {h : AHeap} {v : AV} {cs : List AV} {len : Nat} (R : Rd sz h v cs len) {k : IntKind} {i : Int} (h0 : 0 ≤ i) (h1 : i < len) {K : AV → Prop}
    (hk : ∀ id ver off, (∃ b : ABlk, h[id]? = some b ∧ b.floor ≤ ver ∧ ver ≤ b.cells.length ∧ off + sz ≤ ver ∧ (b.cells.drop off).take sz = (cs.drop (i.toNat * sz)).take sz) → K (.p (some ⟨id, ver, off⟩))) : pIdxAddrSl sz v (.i k i) h K := by
  rcases R with ⟨rfl, rfl, rfl⟩ | ⟨id, ver, off, cap, b, rfl, h2, h3, h4, h5, h6, rfl⟩
  · omega
  · refine ⟨h0, h1, ⟨b, h2, h4, by omega⟩, hk _ _ _ ⟨b, h2, h4, h5, ?_, ?_⟩⟩
    · have : (i.toNat + 1) * sz ≤ len * sz := Nat.mul_le_mul_right _ (by omega)
      rw [Nat.add_mul] at this; simp only; omega
    · have : (i.toNat + 1) * sz ≤ len * sz := Nat.mul_le_mul_right _ (by omega)
      rw [Nat.add_mul] at this
      rw [List.drop_take, List.drop_drop, List.take_take, Nat.min_eq_left (by omega)]

/-- The same, its place known. -/
structure RdAt (sz : Nat) (h : AHeap) (id ver off : Nat) (b : ABlk) (cs : List AV) (len : Nat) : Prop where
  blk : h[id]? = some b
  siz : b.sz = sz
  flo : b.floor ≤ ver
  vle : ver ≤ b.cells.length
  end_ : off + len * sz ≤ ver
  cel : (b.cells.drop off).take (len * sz) = cs

theorem RdAt.rd {sz : Nat} {h : AHeap} {id ver off : Nat} {b : ABlk} {cs : List AV} {len : Nat} (R : RdAt sz h id ver off b cs len) (cap : Option Nat) : Rd sz h (.sl (some ⟨id, ver, off⟩) len cap) cs len :=
  .inr ⟨id, ver, off, cap, b, rfl, R.1, R.2, R.3, R.4, R.5, R.6⟩
theorem RdAt.upd {sz : Nat} {M : Nat → Prop} {h h' : AHeap} {id ver off : Nat} {b : ABlk} {cs : List AV} {len : Nat} (R : RdAt sz h id ver off b cs len) (U : Upd M h h') (hM : ¬ M id) : RdAt sz h' id ver off b cs len :=
  ⟨(U.2 id (lt_of_some R.1) hM).trans R.1, R.2, R.3, R.4, R.5, R.6⟩
theorem RdAt.lt {sz : Nat} {h : AHeap} {id ver off : Nat} {b : ABlk} {cs : List AV} {len : Nat} (R : RdAt sz h id ver off b cs len) : id < h.length := lt_of_some R.1
theorem st_idx {sz : Nat} {h : AHeap} {id ver off : Nat} {b : ABlk} {cs : List AV} {len : Nat} {cap : Option Nat} {k : IntKind} {i : Nat} {K : AV → Prop} (R : RdAt sz h id ver off b cs len) (hi : i < len) (hk : K (.p (some ⟨id, ver, off + i * sz⟩))) :
    pIdxAddrSl sz (.sl (some ⟨id, ver, off⟩) len cap) (.i k (i : Int)) h K :=
  ⟨by omega, by omega, ⟨b, R.1, R.3, Nat.le_trans R.3 R.4⟩, by simpa using hk⟩
theorem st_elem {sz : Nat} {h : AHeap} {id ver off : Nat} {b : ABlk} {cs : List AV} {len i o : Nat} {c : AV} {K : AV → Prop} (R : RdAt sz h id ver off b cs len) (hi : i < len) (ho : o < sz) (hc : cs[i * sz + o]? = some c) (hk : K c) : pLoad1 (.p (some ⟨id, ver, off + i * sz + o⟩)) h K := by
  have h1 : (i + 1) * sz ≤ len * sz := Nat.mul_le_mul_right _ hi
  rw [Nat.add_mul] at h1
  have h2 := R.end_
  refine ⟨b, R.1, ⟨R.3, R.4, by simp only; omega⟩, ?_⟩
  have h3 := R.cel
  rw [← h3, List.getElem?_take_of_lt (by omega), List.getElem?_drop] at hc
  show K (b.cells.getD (off + i * sz + o) .u)
  rw [getD_some (show b.cells[off + i * sz + o]? = some c by rw [← hc]; congr 1; omega)]
  exact hk

theorem Rd.fld {sz : Nat} {h : AHeap} {v : AV} {cs : List AV} {len : Nat} (R : Rd sz h v cs len) {k : IntKind} {i o : Nat} {c : AV} (hi : i < len) (ho : o < sz) (hc : cs[i * sz + o]? = some c) {K : AV → Prop} (hk : K c) :
    pIdxAddrSl sz v (.i k (i : Int)) h fun a => pFieldAddr o a fun p => pLoad1 p h K := by
  rcases R with ⟨rfl, rfl, rfl⟩ | ⟨id, ver, off, cap, b, rfl, h2, h3, h4, h5, h6, h7⟩
  · omega
  · have A : RdAt sz h id ver off b cs len := ⟨h2, h3, h4, h5, h6, h7⟩
    exact st_idx A hi (st_fld (st_elem A hi ho hc hk))

/-- An array of one's own that may be appended to. -/
def Arr (sz : Nat) (h : AHeap) (v : AV) (cs : List AV) (len : Nat) : Prop :=
  (v = .sl none 0 none ∧ len = 0 ∧ cs = []) ∨ ∃ id b, v = .sl (some ⟨id, cs.length, 0⟩) len none ∧ h[id]? = some b ∧ b.cells = cs ∧ cs.length = len * sz ∧ b.sz = sz ∧ b.floor ≤ cs.length ∧ b.ro = false ∧ b.gl = false

theorem Arr.nil (sz : Nat) (h : AHeap) : Arr sz h (.sl none 0 none) [] 0 := .inl ⟨rfl, rfl, rfl⟩
theorem Arr.rd {sz : Nat} {h : AHeap} {v : AV} {cs : List AV} {len : Nat} (A : Arr sz h v cs len) : Rd sz h v cs len := by
  rcases A with h1 | ⟨id, b, rfl, h2, rfl, h4, h5, h6, h7⟩
  · exact .inl h1
  · refine .inr ⟨id, _, 0, none, b, rfl, h2, h5, h6, Nat.le_refl _, by omega, ?_⟩
    rw [List.drop_zero, ← h4, List.take_length]
theorem Arr.upd {sz : Nat} {M : Nat → Prop} {h h' : AHeap} {v : AV} {cs : List AV} {len : Nat} (A : Arr sz h v cs len) (U : Upd M h h') (hM : ∀ id, SlAt v id → ¬ M id) : Arr sz h' v cs len := by
  rcases A with h1 | ⟨id, b, rfl, h2, h3⟩
  · exact .inl h1
  · exact .inr ⟨id, b, rfl, (U.2 id (lt_of_some h2) (hM id rfl)).trans h2, h3⟩

theorem Arr.append {sz bytes : Nat} {h : AHeap} {v x : AV} {cs ns : List AV} {len k : Nat} (A : Arr sz h v cs len) (hz : 0 < sz) {K : AV → AHeap → Prop}
    (hx : ∀ K : List AV → Nat → Prop, K ns k → newsOf sz x h K) (hns : ns.length = k * sz) (hok : ns.all AV.cellOK = true) (hlen : (len + k) * bytes ≤ 140737488355328) (hl2 : len + k ≤ 9223372036854775807)
    (hk : ∀ v' h', Upd (SlAt v) h h' → Arr sz h' v' (cs ++ ns) (len + k) → (∀ id, SlAt v' id → SlAt v id ∨ h.length ≤ id) → K v' h') : pAppend sz bytes v x h K := by
  refine ⟨hz, hx _ ?_⟩
  rcases A with ⟨rfl, rfl, rfl⟩ | ⟨id, b, rfl, h2, rfl, h4, h5, h6, h7, h8⟩
  · refine ⟨by simpa using hlen, by omega, ?_⟩
    split
    · rename_i h0
      subst h0
      have : ns = [] := List.eq_nil_of_length_eq_zero (by simpa using hns)
      subst this
      exact hk _ _ (Upd.refl _ _) (.inl ⟨rfl, rfl, rfl⟩) fun id hi => .inl hi
    · refine hk _ _ ((Upd.app _ _).mono fun _ _ h => h.elim) (.inr ⟨h.length, newBlk ns sz false, by simp, by simp, rfl, by simpa using hns, rfl, Nat.le_refl _, rfl, rfl⟩) fun id hi => .inr (by cases hi; exact Nat.le_refl _)
  · have hid := lt_of_some h2
    refine ⟨hlen, by omega, b, h2, h5, ⟨h6, Nat.le_refl _, by simp only; omega⟩, ?_⟩
    have hcells : (b.cells.drop 0).take (len * sz) = b.cells := by rw [List.drop_zero, ← h4, List.take_length]
    by_cases ht : k = 0
    · subst ht
      have : ns = [] := List.eq_nil_of_length_eq_zero (by simpa using hns)
      subst this
      refine .inl ⟨rfl, hk _ _ (Upd.refl _ _) ?_ fun id hi => .inl hi⟩
      rw [List.append_nil]
      exact .inr ⟨id, b, rfl, h2, rfl, h4, h5, h6, h7, h8⟩
    · have htp : 0 < k := Nat.pos_of_ne_zero ht
      have hmul : (len + k) * sz = len * sz + k * sz := Nat.add_mul _ _ _
      cases hex : b.ex with
      | true =>
        have hkz : 0 < k * sz := Nat.mul_pos htp hz
        refine .inr (.inl ⟨htp, .inr ⟨rfl, rfl, rfl, by simp only; omega⟩, ?_⟩)
        rw [hcells]
        refine hk _ _ ((Upd.app _ _).mono fun _ _ h => h.elim) (.inr ⟨h.length, newBlk (b.cells ++ ns) sz false, rfl, by simp, rfl, by simp [newBlk, hns, h4, hmul], rfl, by simp [newBlk], rfl, rfl⟩) fun id hi => .inr (by cases hi; exact Nat.le_refl _)
      | false =>
        refine .inr (.inr (.inr (.inl ⟨htp, h7, rfl, rfl, h4.symm, rfl, rfl, h8, hok, ?_⟩)))
        refine hk _ _ ((Upd.set _ _ _).mono fun i _ h => h.symm) (.inr ⟨id, { b with cells := b.cells ++ ns }, rfl, by simp [hid, hex], rfl, by simp [hns, h4, hmul], h5, by simp; omega, h7, h8⟩) fun id hi => .inl hi

theorem st_build {sz len : Nat} {zeros cs : List AV} {parts : List (Nat × Nat × AV)} {h : AHeap} {K : AV → AHeap → Prop} (hf : fillA zeros parts = some cs) (hl : cs.length = len * sz)
    (hk : ∀ v h', h'.length = h.length + 1 → Upd (fun _ => False) h h' → Rd sz h' v cs len → (∀ id, SlAt v id → h.length ≤ id) → K v h') : pBuildSl sz len zeros parts h K := by
  unfold pBuildSl
  rw [hf]
  refine ⟨hl, hk _ _ (by simp) (Upd.app _ _) (.inr ⟨h.length, cs.length, 0, none, newBlk cs sz true, rfl, by simp, rfl, Nat.le_refl _, Nat.le_refl _, by omega, ?_⟩) fun id hi => by cases hi; exact Nat.le_refl _⟩
  simp [newBlk, ← hl]

/-- append(v, x): one element. -/
theorem Arr.push {sz bytes : Nat} {h : AHeap} {v x : AV} {cs zeros : List AV} {len : Nat} (A : Arr sz h v cs len) (hz : 0 < sz) {K : AV → AHeap → Prop} (hf : fillA zeros [(0, sz, x)] = some x.parts) (hxl : x.parts.length = sz) (hok : x.parts.all AV.cellOK = true)
    (hlen : (len + 1) * bytes ≤ 140737488355328) (hl2 : len + 1 ≤ 9223372036854775807)
    (hk : ∀ v' h', Upd (SlAt v) h h' → Arr sz h' v' (cs ++ x.parts) (len + 1) → (∀ id, SlAt v' id → SlAt v id ∨ h.length ≤ id) → K v' h') :
    pBuildSl sz 1 zeros [(0, sz, x)] h fun y h' => pAppend sz bytes v y h' K := by
  refine st_build hf (by omega) fun y h1 hl1 U1 R1 F1 => ?_
  refine (A.upd U1 fun _ _ h => h).append hz (ns := x.parts) (k := 1) (fun K hK => R1.news hK) (by omega) hok hlen hl2 fun v' h' U2 A2 F2 => hk v' h' ((U1.mono fun _ _ h => h.elim).trans U2 fun _ _ h => h) A2 fun id hi => ?_
  rcases F2 id hi with h | h
  · exact .inl h
  · exact .inr (by omega)

/-! ### slices of bytes -/

def Byt (h : AHeap) (v : AV) (l : List UInt8) : Prop := Rd 1 h v (l.map byteAV) l.length

theorem Byt.str {h : AHeap} {v : AV} {l : List UInt8} (B : Byt h v l) {K : List UInt8 → Prop} (hk : K l) : pBytesStr v h K := by
  refine Rd.sl B ⟨byteAV_isByte l, ?_⟩
  rw [toBytes_map]; exact hk


theorem Byt.slice3 {h : AHeap} {v : AV} {l : List UInt8} (B : Byt h v l) {n : Nat} (hn : n ≤ l.length) {K : AV → Prop}
    (hk : ∀ v', Byt h v' (l.take n) → (∀ i, SlAt v' i → SlAt v i) → (v' = .sl none 0 none ∨ ∃ a, v' = .sl (some a) n (some n)) → K v') : pSliceSl 1 v none (some (.i .i64 n)) (some (.i .i64 n)) h K := by
  rcases B with ⟨rfl, h1, h2⟩ | ⟨id, ver, off, cap, b, rfl, h2, h3, h4, h5, h6, h7⟩
  · have hl : l = [] := by simpa using h1
    subst hl
    have hn0 : n = 0 := by simpa using hn
    subst hn0
    exact ⟨by simp, by simp, rfl, rfl, rfl, fun _ => rfl, hk _ (.inl ⟨rfl, rfl, rfl⟩) (fun _ h => h) (.inl rfl)⟩
  · refine ⟨Nat.one_pos, fun _ => rfl, by omega, by simp, b, h2, by omega, h4, h3, by omega, by simp, .inl (by simpa using hn), ?_⟩
    refine hk _ ?_ (fun _ h => h) (.inr ⟨⟨id, ver, off⟩, by simp⟩)
    refine .inr ⟨id, ver, off, some n, b, ?_, h2, h3, h4, h5, by simp; omega, ?_⟩
    · simp; omega
    · rw [List.length_take, Nat.min_eq_left hn, Nat.mul_one, List.map_take, ← h7, List.take_take, Nat.mul_one, Nat.min_eq_left hn]

theorem Byt.drop {h : AHeap} {v : AV} {l : List UInt8} (B : Byt h v l) {n : Nat} (hn : n ≤ l.length) {K : AV → Prop}
    (hk : ∀ v', Byt h v' (l.drop n) → (∀ i, SlAt v' i → SlAt v i) → K v') : pSliceSl 1 v (some (.i .i64 n)) none none h K := by
  rcases B with ⟨rfl, h1, h2⟩ | ⟨id, ver, off, cap, b, rfl, h2, h3, h4, h5, h6, h7⟩
  · have hl : l = [] := by simpa using h1
    subst hl
    have hn0 : n = 0 := by simpa using hn
    subst hn0
    exact ⟨by simp, rfl, rfl, rfl, fun h => by simp at h, hk _ (.inl ⟨rfl, rfl, rfl⟩) (fun _ h => h)⟩
  · refine ⟨Nat.one_pos, fun h => by simp at h, by omega, by simp; omega, b, h2, by omega, h4, h3, .inl (Nat.le_refl _), ?_⟩
    refine hk _ ?_ (fun _ h => h)
    refine .inr ⟨id, ver, off + n, cap.map (· - n), b, by simp, h2, h3, h4, h5, by simp; omega, ?_⟩
    rw [List.length_drop, Nat.mul_one, List.map_drop, ← h7, Nat.mul_one, List.drop_take, List.drop_drop]

/-- append(w[:len(w):len(w)], s..): nothing that is there is written. -/
theorem Byt.grow {h : AHeap} {v : AV} {l s : List UInt8} (B : Byt h v l) (hv : v = .sl none 0 none ∨ ∃ a, v = .sl (some a) l.length (some l.length)) (hlen : l.length + s.length ≤ 140737488355328) {K : AV → AHeap → Prop}
    (hk : ∀ v' h', Upd (fun _ => False) h h' → Byt h' v' (l ++ s) → (∀ i, SlAt v' i → SlAt v i ∨ h.length ≤ i) → h'.length ≤ h.length + 1 → K v' h') : pAppend 1 1 v (.s s) h K := by
  refine ⟨Nat.one_pos, rfl, ?_⟩
  rcases B with ⟨rfl, h1, h2⟩ | ⟨id, ver, off, cap, b, rfl, h2, h3, h4, h5, h6, h7⟩
  · have hl : l = [] := by simpa using h1
    subst hl
    refine ⟨by simpa using hlen, by simp at hlen; omega, ?_⟩
    by_cases hs : s.length = 0
    · rw [if_pos hs]
      have : s = [] := List.eq_nil_of_length_eq_zero hs
      subst this
      exact hk _ _ (Upd.refl _ _) (.inl ⟨rfl, rfl, rfl⟩) (fun _ h => .inl h) (by omega)
    · rw [if_neg hs]
      exact hk _ _ (Upd.app _ _) (.inr ⟨h.length, (s.map byteAV).length, 0, none, newBlk (s.map byteAV) 1 false, by simp, by simp, rfl, Nat.le_refl _, Nat.le_refl _, by simp, by simp [newBlk, List.take_of_length_le]⟩) (fun i h => .inr (by cases h; exact Nat.le_refl _)) (by simp)
  · obtain ⟨a, ha⟩ := hv.resolve_left (by simp)
    cases ha
    refine ⟨by omega, by omega, b, h2, h3, ⟨h4, h5, by simpa using h6⟩, ?_⟩
    by_cases hs : s.length = 0
    · have : s = [] := List.eq_nil_of_length_eq_zero hs
      subst this
      refine .inl ⟨rfl, hk _ _ (Upd.refl _ _) ?_ (fun _ h => .inl h) (by omega)⟩
      rw [List.append_nil]
      exact .inr ⟨id, ver, off, _, b, rfl, h2, h3, h4, h5, h6, h7⟩
    · refine .inr (.inl ⟨by omega, .inl ⟨_, rfl, by omega⟩, ?_⟩)
      have h7' : (b.cells.drop off).take (l.length * 1) = l.map byteAV := h7
      simp only [h7']
      exact hk _ _ (Upd.app _ _) (.inr ⟨h.length, l.length + s.length, 0, none, newBlk (l.map byteAV ++ s.map byteAV) 1 false, by simp, by simp, rfl, by simp [newBlk], by simp [newBlk], by simp, by simp [newBlk, List.take_of_length_le]⟩) (fun i h => .inr (by cases h; exact Nat.le_refl _)) (by simp)


theorem Rd.elem {sz : Nat} {h : AHeap} {v : AV} {cs : List AV} {len : Nat} (R : Rd sz h v cs len) {k : IntKind} {i : Int} (h0 : 0 ≤ i) (h1 : i < len) {K : AV → Prop} (hk : K (.ag ((cs.drop (i.toNat * sz)).take sz))) :
    pIdxAddrSl sz v (.i k i) h fun a => pLoadN sz a h K :=
  R.idx h0 h1 fun id ver off ⟨b, g1, g2, g3, g4, g5⟩ => ⟨b, g1, ⟨g2, g3, g4⟩, by rw [g5]; exact hk⟩

theorem st_subs {l : List UInt8} {lo : Nat} {K : List UInt8 → Prop} (h : lo ≤ l.length) (hk : K (l.drop lo)) : pSliceStr (.s l) (some (.i .i64 lo)) none K := by
  refine ⟨by omega, by simpa using h, Nat.le_refl _, ?_⟩
  simpa using hk
theorem st_subs2 {l : List UInt8} {lo hi : Nat} {K : List UInt8 → Prop} (h : lo ≤ hi) (h2 : hi ≤ l.length) (hk : K ((l.take hi).drop lo)) : pSliceStr (.s l) (some (.i .i64 lo)) (some (.i .i64 hi)) K := by
  refine ⟨by omega, by omega, by simpa using h, by simpa using h2, ?_⟩
  simpa using hk
theorem st_subs1 {l : List UInt8} {hi : Nat} {K : List UInt8 → Prop} (h2 : hi ≤ l.length) (hk : K (l.take hi)) : pSliceStr (.s l) none (some (.i .i64 hi)) K := by
  refine ⟨by omega, by simp, by simpa using h2, ?_⟩
  simpa using hk

theorem st_arg0 {K : Prop} (hk : K) : arg0 [] K := hk
theorem st_arg1 {v : AV} {K : AV → Prop} (hk : K v) : arg1 [v] K := hk
theorem st_arg2 {v w : AV} {K : AV → AV → Prop} (hk : K v w) : arg2 [v, w] K := hk

theorem st_range {P : Program} {R : CallR} {A : CallR → CallR} {gf : FuncId} {first cap : List AV} {Y : List AV → AHeap → (AV → AHeap → Prop) → Prop} {h : AHeap} {K : AHeap → Prop} (hc : (Nat.blt gf yid0 && bodyOK P gf) = true)
    (hk : ∀ l, A (orY R l Y) gf (first ++ [.fn (.yield l) [] []] ++ cap) h (fun _ h' => K h')) : rngA P R A (.fn (.func gf) first cap) Y h K := bif_t hc hk

end Go.GAM
