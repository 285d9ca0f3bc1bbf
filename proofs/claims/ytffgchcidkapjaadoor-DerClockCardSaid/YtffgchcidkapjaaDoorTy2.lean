/- DER values in memory; Same. -/
import Derived.Test.YtffgchcidkapjaaDoorTy1
set_option linter.unusedVariables false
set_option linter.unusedSimpArgs false
set_option linter.unusedSectionVars false
set_option maxRecDepth 20000
namespace Go.GAM

theorem SArg.upd {sz : Nat} {M : Nat → Prop} {h h' : AHeap} {v : AV} {cs : List AV} {len : Nat} (R : SArg sz h v cs len) (U : Upd M h h') (hM : ∀ id, SlAt v id → id < h.length → ¬ M id) : SArg sz h' v cs len := by
  rcases R with R | R
  · exact .inl (R.upd U fun id hs => hM id hs (R.lt hs))
  · exact .inr R
theorem SArg.at {sz : Nat} {h : AHeap} {v : AV} {cs : List AV} {len : Nat} (R : SArg sz h v cs len) (hl : len ≠ 0) : ∃ id ver off cap b, v = .sl (some ⟨id, ver, off⟩) len cap ∧ RdAt sz h id ver off b cs len := by
  rcases R.rd hl with ⟨_, h0, _⟩ | ⟨id, ver, off, cap, b, h1, h2, h3, h4, h5, h6, h7⟩
  · exact absurd h0 hl
  · exact ⟨id, ver, off, cap, b, h1, h2, h3, h4, h5, h6, h7⟩
theorem st_elemN {sz : Nat} {h : AHeap} {id ver off : Nat} {b : ABlk} {cs : List AV} {len i : Nat} {r : List AV} {K : AV → Prop} (R : RdAt sz h id ver off b cs len) (hi : i < len) (hr : (cs.drop (i * sz)).take sz = r) (hk : K (.ag r)) : pLoadN sz (.p (some ⟨id, ver, off + i * sz⟩)) h K := by
  have h1 : (i + 1) * sz ≤ len * sz := Nat.mul_le_mul_right _ hi
  rw [Nat.add_mul] at h1
  have h2 := R.end_
  refine ⟨b, R.1, ⟨R.3, R.4, by simp only; omega⟩, ?_⟩
  have e : (b.cells.drop (off + i * sz)).take sz = r := by
    rw [← hr, ← R.cel, List.drop_take, List.drop_drop, List.take_take, Nat.min_eq_left (by omega)]
  simp only [e]
  exact hk
theorem rows_get {sz : Nat} : ∀ (rows : List (List AV)) (i : Nat) (r : List AV), (∀ r ∈ rows, r.length = sz) → rows[i]? = some r → (rows.flatten.drop (i * sz)).take sz = r
  | [], i, r, _, h => by simp at h
  | a :: rows, 0, r, h1, h => by
    simp at h; subst h
    have := h1 a (by simp)
    rw [List.flatten_cons, Nat.zero_mul, List.drop_zero, ← this, List.take_left']
    rfl
  | a :: rows, i + 1, r, h1, h => by
    have h2 := h1 a (by simp)
    have := rows_get rows i r (fun r hr => h1 r (by simp [hr])) (by simpa using h)
    rw [List.flatten_cons, Nat.add_mul, Nat.one_mul, List.drop_append, List.drop_eq_nil_of_le (by omega), List.nil_append, show i * sz + sz - a.length = i * sz by omega]
    exact this

end Go.GAM
namespace Go.Proofs.YtffgchcidkapjaaDoor
open Go.GAM Go.RowKit

inductive Der where
  | mk (c t : Int) (m : Bool) (s : List UInt8) (ks : List Der)

mutual
def Der.sz : Der → Nat
  | .mk _ _ _ _ ks => 1 + szs ks
def szs : List Der → Nat
  | [] => 0
  | k :: r => k.sz + szs r
end
theorem szs_mem : ∀ {ks : List Der} {k : Der}, k ∈ ks → k.sz ≤ szs ks
  | [], k, h => by cases h
  | a :: r, k, h => by
    unfold szs
    rcases List.mem_cons.1 h with rfl | h
    · omega
    · have := szs_mem h; omega
theorem szs_len : ∀ ks : List Der, ks.length ≤ szs ks
  | [] => by simp [szs]
  | k :: r => by
    have := szs_len r
    have : 0 < k.sz := by cases k; unfold Der.sz; omega
    simp only [szs, List.length_cons]; omega
theorem szs_pos (k : Der) : 0 < k.sz := by cases k; unfold Der.sz; omega

mutual
/-- Five cells are a DER value; its slices' blocks are among F. -/
inductive DV (h : AHeap) (F : Nat → Prop) : Der → List AV → Prop
  | mk {c t : Int} {m : Bool} {s : List UInt8} {ks : List Der} {v : AV} {rows : List (List AV)} (hks : DVs h F ks rows) (hv : SArg 5 h v rows.flatten rows.length) (hF : ∀ i, SlAt v i → F i ∧ i < h.length) (hc : v.cellOK = true) : DV h F (.mk c t m s ks) [.i .i64 c, .i .i64 t, .b m, .s s, v]
inductive DVs (h : AHeap) (F : Nat → Prop) : List Der → List (List AV) → Prop
  | nil : DVs h F [] []
  | cons {k : Der} {ks : List Der} {r : List AV} {rows : List (List AV)} (hk : DV h F k r) (hks : DVs h F ks rows) : DVs h F (k :: ks) (r :: rows)
end

theorem DV.len {h : AHeap} {F : Nat → Prop} {d : Der} {cs : List AV} (D : DV h F d cs) : cs.length = 5 := by cases D; rfl
theorem DVs.len5 {h : AHeap} {F : Nat → Prop} : ∀ {ks : List Der} {rows : List (List AV)}, DVs h F ks rows → ∀ r ∈ rows, r.length = 5
  | _, _, .nil, r, hr => by cases hr
  | _, _, .cons hk hks, r, hr => by
    rcases List.mem_cons.1 hr with rfl | h
    · exact hk.len
    · exact hks.len5 r h
theorem DVs.length {h : AHeap} {F : Nat → Prop} : ∀ {ks : List Der} {rows : List (List AV)}, DVs h F ks rows → ks.length = rows.length
  | _, _, .nil => rfl
  | _, _, .cons _ hks => by simp [hks.length]
theorem DVs.get {h : AHeap} {F : Nat → Prop} : ∀ {ks : List Der} {rows : List (List AV)} {i : Nat} {k : Der}, DVs h F ks rows → ks[i]? = some k → ∃ r, rows[i]? = some r ∧ DV h F k r
  | _, _, i, k, .nil, hi => by simp at hi
  | _, _, 0, k, .cons hk _, hi => by simp at hi; subst hi; exact ⟨_, rfl, hk⟩
  | _, _, i + 1, k, .cons _ hks, hi => by
    obtain ⟨r, h1, h2⟩ := hks.get (i := i) (by simpa using hi)
    exact ⟨r, by simpa using h1, h2⟩
theorem DVs.app {h : AHeap} {F : Nat → Prop} : ∀ {ks : List Der} {rows : List (List AV)} {k : Der} {r : List AV}, DVs h F ks rows → DV h F k r → DVs h F (ks ++ [k]) (rows ++ [r])
  | _, _, _, _, .nil, hk => .cons hk .nil
  | _, _, _, _, .cons h1 hks, hk => .cons h1 (hks.app hk)

/-- It stays where its blocks stay. -/
theorem DV.upd_n {M F F' : Nat → Prop} {h h' : AHeap} (U : Upd M h h') (hM : ∀ i, F i → i < h.length → ¬ M i ∧ F' i) : ∀ n, (∀ d cs, d.sz ≤ n → DV h F d cs → DV h' F' d cs) ∧ ∀ ks rows, szs ks ≤ n → DVs h F ks rows → DVs h' F' ks rows := by
  intro n
  induction n with
  | zero =>
    refine ⟨fun d cs hd => absurd hd (by have := szs_pos d; omega), fun ks rows hk D => ?_⟩
    cases D with
    | nil => exact .nil
    | cons h1 h2 => rename_i k ks r rows; have := szs_pos k; unfold szs at hk; omega
  | succ n ih =>
    have hV : ∀ d cs, d.sz ≤ n + 1 → DV h F d cs → DV h' F' d cs := by
      intro d cs hd D
      cases D with
      | mk hks hv hF hc =>
        unfold Der.sz at hd
        exact .mk (ih.2 _ _ (by omega) hks) (hv.upd U fun i hs hl => (hM i (hF i hs).1 hl).1) (fun i hs => ⟨(hM i (hF i hs).1 (hF i hs).2).2, Nat.lt_of_lt_of_le (hF i hs).2 U.1⟩) hc
    refine ⟨hV, fun ks rows => ?_⟩
    induction ks generalizing rows with
    | nil => intro _ D; cases D; exact .nil
    | cons k ks ihk =>
      intro hk D
      unfold szs at hk
      cases D with
      | cons h1 h2 => exact .cons (hV _ _ (by omega) h1) (ihk _ (by omega) h2)
theorem DV.upd {M F F' : Nat → Prop} {h h' : AHeap} {d : Der} {cs : List AV} (D : DV h F d cs) (U : Upd M h h') (hM : ∀ i, F i → i < h.length → ¬ M i ∧ F' i) : DV h' F' d cs := (DV.upd_n U hM d.sz).1 d cs (Nat.le_refl _) D
theorem DVs.upd {M F F' : Nat → Prop} {h h' : AHeap} {ks : List Der} {rows : List (List AV)} (D : DVs h F ks rows) (U : Upd M h h') (hM : ∀ i, F i → i < h.length → ¬ M i ∧ F' i) : DVs h' F' ks rows := (DV.upd_n U hM (szs ks)).2 ks rows (Nat.le_refl _) D
theorem DV.ext {F : Nat → Prop} {h h' : AHeap} {d : Der} {cs : List AV} (D : DV h F d cs) (U : Upd (fun _ => False) h h') : DV h' F d cs := D.upd U fun i hi _ => ⟨fun h => h, hi⟩

def z5 : List AV := [.i .i64 0, .i .i64 0, .b false, .s [], .sl none 0 none]
def Der.zero : Der := .mk 0 0 false [] []
theorem DV.zero (h : AHeap) (F : Nat → Prop) : DV h F .zero z5 := .mk .nil (.inl (.inl ⟨rfl, rfl, rfl⟩)) (fun i hi => hi.elim) rfl
/-- A value without kids. -/
theorem DV.leaf (h : AHeap) (F : Nat → Prop) (c t : Int) (m : Bool) (s : List UInt8) : DV h F (.mk c t m s []) [.i .i64 c, .i .i64 t, .b m, .s s, .sl none 0 none] := .mk .nil (.inl (.inl ⟨rfl, rfl, rfl⟩)) (fun i hi => hi.elim) rfl

section
variable {h0 : AHeap} {Q : AV → AHeap → Prop}

/-! ### Same, at equal values -/

theorem same_n : ∀ n, n ≤ 1000000 → ∀ (d : Der) (c1 c2 : List AV) (F1 F2 : Nat → Prop) (h : AHeap) (Q : AV → AHeap → Prop), d.sz ≤ n → DV h F1 d c1 → DV h F2 d c2 → Q (.b true) h → C G_ref33_Same.id [.ag c1, .ag c2] h Q := by
  intro n
  induction n with
  | zero => intro _ d c1 c2 F1 F2 h Q hd; have := szs_pos d; omega
  | succ n ih =>
    intro hn6 d c1 c2 F1 F2 h Q hd D1 D2 hq
    cases D1 with
    | @mk c t m s ks v1 rows1 ks1 sv1 f1 o1 =>
    cases D2 with
    | @mk _ _ _ _ _ v2 rows2 ks2 sv2 f2 o2 =>
    refine G_ref33_Same.call ?_
    simp only [G_ref33_Same.t, G_ref33_Same.j0]
    refine st_box rfl fun h1 hl1 U1 R1 => st_box rfl fun h3 hl3 U3 R3 => ?_
    have R1' := R1.upd U3 fun h => h
    have U : Upd (fun _ => False) h h3 := U1.trans U3 fun _ _ h => h
    have hlen1 := ks1.length
    have hlen2 := ks2.length
    have hkl : ks.length ≤ 1000000 := by
      have := szs_len ks
      unfold Der.sz at hd; omega
    have hks : ∀ k ∈ ks, k.sz ≤ n := fun k hk => by
      have := szs_mem hk
      unfold Der.sz at hd; omega
    have S1 := sv1.upd U fun _ _ _ h => h
    have S2 := sv2.upd U fun _ _ _ h => h
    refine st_fld (st_load R1' rfl rfl (st_asI (st_fld (st_load R3 rfl rfl (st_asI ?_)))))
    refine bif_f (by simp) ?_
    refine st_fld (st_load R1' rfl rfl (st_asI (st_fld (st_load R3 rfl rfl (st_asI ?_)))))
    refine bif_f (by simp) ?_
    refine st_fld (st_load R1' rfl rfl (st_asB (st_fld (st_load R3 rfl rfl (st_asB ?_)))))
    refine bif_f (by simp) ?_
    refine st_fld (st_load R1' rfl rfl (st_asS (st_fld (st_load R3 rfl rfl (st_asS ?_)))))
    refine bif_f (by simp) ?_
    refine st_fld (st_load R1' rfl rfl (S1.len (st_fld (st_load R3 rfl rfl (S2.len ?_)))))
    rw [← hlen1, ← hlen2]
    refine G_ref33_Same.i0 ?_
    simp only [G_ref33_Same.t0, G_ref33_Same.j1]
    refine bif_f (by simp) ?_
    have loop : ∀ (r : List Der) (i : Nat), ks.drop i = r → i ≤ ks.length → G_ref33_Same.p1 (kRet h Q) (.p (some ⟨h.length, 5, 0⟩)) (.p (some ⟨h1.length, 5, 0⟩)) i h3 := by
      intro r
      induction r with
      | nil =>
        intro i hr hi
        have hle := drop_end hr
        refine G_ref33_Same.i1 ?_
        simp only [G_ref33_Same.t1]
        refine st_fld (st_load R1' rfl rfl (S1.len ?_))
        exact bif_f (by simp; omega) (kRet_pure rfl U.ext hq)
      | cons k r ihr =>
        intro i hr hi
        have hlt := drop_lt hr
        have hn := drop_next hr
        have hki := at_of_drop hr
        obtain ⟨r1, g1, e1⟩ := ks1.get hki
        obtain ⟨r2, g2, e2⟩ := ks2.get hki
        obtain ⟨id1, ver1, off1, cap1, b1, rfl, A1⟩ := S1.at (by omega)
        obtain ⟨id2, ver2, off2, cap2, b2, rfl, A2⟩ := S2.at (by omega)
        have q1 := rows_get rows1 i r1 ks1.len5 g1
        have q2 := rows_get rows2 i r2 ks2.len5 g2
        refine G_ref33_Same.i1 ?_
        simp only [G_ref33_Same.t1, G_ref33_Same.j1]
        refine st_fld (st_load R1' rfl rfl (S1.len (bif_t (by simp; omega) ?_)))
        refine st_fld (st_load R1' rfl rfl (st_idx A1 (by omega) (st_elemN A1 (by omega) q1 ?_)))
        refine st_fld (st_load R3 rfl rfl (st_idx A2 (by omega) (st_elemN A2 (by omega) q2 ?_)))
        refine ih (by omega) k r1 r2 F1 F2 h3 _ (hks k (List.mem_of_getElem? hki)) (e1.ext U) (e2.ext U) (st_asB ?_)
        refine st_idx A2 (by omega) ⟨rfl, st_load R3 rfl rfl ⟨rfl, st_idx A1 (by omega) ⟨rfl, st_load R1' rfl rfl ⟨rfl, ?_⟩⟩⟩⟩
        exact bif_f rfl (inc (by omega) (ihr (i + 1) hn (by omega)))
    exact loop ks 0 rfl (by omega)
theorem same_c {d : Der} {c1 c2 : List AV} {F1 F2 : Nat → Prop} {h : AHeap} (hsz : d.sz ≤ 1000000) (D1 : DV h F1 d c1) (D2 : DV h F2 d c2) (hq : Q (.b true) h) : C G_ref33_Same.id [.ag c1, .ag c2] h Q :=
  same_n d.sz hsz d c1 c2 F1 F2 h Q (Nat.le_refl _) D1 D2 hq

end
end Go.Proofs.YtffgchcidkapjaaDoor
