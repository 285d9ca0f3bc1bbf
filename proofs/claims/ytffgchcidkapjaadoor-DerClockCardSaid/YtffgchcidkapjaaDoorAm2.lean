/- The operations that leave the heap alone: each yields one value, in every world that holds the blocks there were. -/
import Derived.Test.YtffgchcidkapjaaDoorAm1
import Derived.Laws.StructEq
import Derived.Laws.Slices
import Derived.Laws.IdiomStrings
set_option linter.unusedVariables false
set_option linter.unusedSimpArgs false
namespace Go.GAM

section
variable {P : Program} {w0 : World} {Fz : Nat → Prop} {μ : Mu} {own : Nat → Option Nat} {h : AHeap} {w : World}

def Yields (P : Program) (w : World) (s : Sem Value) (cv : Value) : Prop := ∀ w', Same w w' → s.run P w' = .ok cv w'

theorem aIf_sound {c : AV} {A B : Prop} {cv : Value} (hk : aIf c A B) (hc : VRel μ c cv) : (cv = .bool true ∧ A) ∨ (cv = .bool false ∧ B) := by
  cases hc with
  | b x => cases x with
    | true => exact .inl ⟨rfl, hk⟩
    | false => exact .inr ⟨rfl, hk⟩
  | _ => exact hk.elim

theorem kEq_eq {k k' : IntKind} (h : kEq k k' = true) : k = k' := by
  cases k <;> cases k' <;> first | rfl | (simp [kEq, kc] at h)

theorem isInt_run {t : TypeId} {k : IntKind} (h : P.underlying t = some (.int k)) (w : World) : (underlying t).run P w = .ok (.int k) w := run_und h w

theorem shape_sound {t : TypeId} {v : AV} {cv : Value} {K : AV → Prop} (hv : VRel μ v cv) (hk : shape P t v K) : K v := by
  unfold shape at hk
  split at hk
  · cases v <;> first | exact hk | exact hk.elim
  · cases v <;> first | exact hk.elim | skip
    rename_i k _ k' n
    simp only [asI] at hk
    cases he : kEq k k' with
    | false => rw [he] at hk; exact hk.elim
    | true =>
      rw [he] at hk
      have := kEq_eq he
      subst this
      exact hk
  · cases v <;> first | exact hk | exact hk.elim
  · exact hk

theorem load1_sound (R : Rel w0 Fz μ own h w) {x : AV} {cx : Value} {K : AV → Prop} {t : TypeId} (ht : isAggT P t = some false) (hx : VRel μ x cx) (hk : pLoad1 x h K) :
    ∃ v cv, K v ∧ VRel μ v cv ∧ Yields P w (Instr.loadAt t cx) cv := by
  cases hx with
  | p a l o hl ho =>
    subst ho
    obtain ⟨b, hb, hr, hK⟩ := hk
    obtain ⟨cv, hcv, hv⟩ := R.read hb hr hl 0 (by omega)
    refine ⟨_, cv, hK, hv, fun w' hs => ?_⟩
    have := hs.cell hcv
    simp only [Nat.add_zero] at this
    simp [Instr.loadAt, Instr.sureAddr, loadVar, (isAggT_some ht w').1, this]
  | _ => exact hk.elim

theorem loadN_sound (R : Rel w0 Fz μ own h w) {x : AV} {cx : Value} {K : AV → Prop} {t : TypeId} (ht : isAggT P t = some true) (hx : VRel μ x cx) (hk : pLoadN (P.cellsOf t) x h K) :
    ∃ v cv, K v ∧ VRel μ v cv ∧ Yields P w (Instr.loadAt t cx) cv := by
  cases hx with
  | p a l o hl ho =>
    subst ho
    obtain ⟨b, hb, hr, hK⟩ := hk
    have hrd := R.read hb hr hl
    generalize hn : P.cellsOf t = n at *
    have hch : ∀ j, ∃ cv, j < n → w.cell? ⟨l.B, l.base + (a.off + j), none⟩ = some cv ∧ VRel μ (b.cells.getD (a.off + j) .u) cv := fun j => by
      by_cases hj : j < n
      · obtain ⟨cv, hc⟩ := hrd j hj; exact ⟨cv, fun _ => hc⟩
      · exact ⟨undef, fun h => absurd h hj⟩
    obtain ⟨f, hf⟩ := Classical.axiomOfChoice hch
    refine ⟨_, .agg ((List.range n).map f).toArray, hK, .ag _ _ ?_, fun w' hs => ?_⟩
    · have hlen : ((b.cells.drop a.off).take n).length = n := by
        have := hr.2.1; have := hr.2.2
        simp; omega
      refine VRels.of_get (by simp [hlen]) fun i hi => ?_
      rw [hlen] at hi
      refine ⟨f i, by simp [hi], ?_⟩
      have h2 := (hf i hi).2
      have h3 : ((b.cells.drop a.off).take n).getD i .u = b.cells.getD (a.off + i) .u := by
        simp [List.getD_eq_getElem?_getD, List.getElem?_take, hi]
      rw [h3]; exact h2
    · have hl2 := run_loadCells (P := P) w' ⟨l.B, l.base + a.off, none⟩ n f (fun j hj => by
        have := hs.cell (hf j hj).1
        by_cases h0 : j = 0
        · subst h0; simpa [Addr.add] using this
        · simpa [Addr.add, h0, Nat.add_assoc] using this)
      obtain ⟨d, hd⟩ := (isAggT_some ht w').2
      simp [Instr.loadAt, Instr.sureAddr, loadVar, (isAggT_some ht w').1, run_sizeOf hd, hn, hl2]
  | _ => exact hk.elim

/-- The cells of a slice, read. -/
theorem slCells_sound (R : Rel w0 Fz μ own h w) {x : AV} {cx : Value} {K : List AV → Prop} {sz : Nat} (hx : VRel μ x cx) (hk : slCells sz x h K) :
    ∃ cs vs, K cs ∧ VRels μ cs vs ∧ ∃ a len c, cx = .slice a len c ∧ (a = none → len = 0 ∧ c = 0) ∧ cs.length = len * sz ∧ (∀ adr, a = some adr → len * sz ≠ 0 → ∀ w', Same w w' → ∀ j v, vs[j]? = some v → w'.cell? (adr.add j) = some v) := by
  cases hx with
  | sn => exact ⟨[], [], hk, .nil, none, 0, 0, rfl, fun _ => ⟨rfl, rfl⟩, by simp, fun _ h => by cases h⟩
  | sl a len capo c addr l hl hle hf hc hs ha =>
    obtain ⟨b, hb, hsz, hr, hK⟩ := hk
    have hrd := R.read hb hr hl
    have hlen : ((b.cells.drop a.off).take (len * sz)).length = len * sz := by
      have := hr.2.1; have := hr.2.2
      simp; omega
    have hch : ∀ j, ∃ cv, j < len * sz → w.cell? ⟨l.B, l.base + (a.off + j), none⟩ = some cv ∧ VRel μ (b.cells.getD (a.off + j) .u) cv := fun j => by
      by_cases hj : j < len * sz
      · obtain ⟨cv, hc⟩ := hrd j hj; exact ⟨cv, fun _ => hc⟩
      · exact ⟨undef, fun h => absurd h hj⟩
    obtain ⟨f, hf⟩ := Classical.axiomOfChoice hch
    refine ⟨_, (List.range (len * sz)).map f, hK, ?_, some addr, len, c, rfl, by simp, hlen, fun adr hadr hne w' hsm j v hj => ?_⟩
    · refine VRels.of_get (by simp [hlen]) fun i hi => ?_
      rw [hlen] at hi
      refine ⟨f i, by simp [hi], ?_⟩
      have h3 : ((b.cells.drop a.off).take (len * sz)).getD i .u = b.cells.getD (a.off + i) .u := by
        simp [List.getD_eq_getElem?_getD, List.getElem?_take, hi]
      rw [h3]; exact (hf i hi).2
    · have hjl : j < len * sz := by
        have := (List.getElem?_eq_some_iff.1 hj).1
        simpa using this
      simp [hjl] at hj
      subst hj
      have hc0 : c ≠ 0 := by
        intro h0; subst h0
        have : len = 0 := by omega
        subst this; simp at hne
      have hadr' : adr = ⟨l.B, l.base + a.off, none⟩ := by
        have := Option.some.inj hadr
        rw [← this]; exact ha hc0
      subst hadr'
      have := hsm.cell (hf j hjl).1
      by_cases h0 : j = 0
      · subst h0; simpa [Addr.add] using this
      · simpa [Addr.add, h0, Nat.add_assoc] using this
  | _ => exact hk.elim

theorem bytes_of (cs : List AV) (vs : List Value) (h : VRels μ cs vs) (hb : cs.all isByte = true) : ∃ ns : List Int, vs = ns.map (Value.int .u8) ∧ cs.map toByte = ns.map (fun n => UInt8.ofNat n.toNat) := by
  induction cs generalizing vs with
  | nil => cases h; exact ⟨[], rfl, rfl⟩
  | cons c cs ih =>
    cases h with
    | cons _ v _ vs h t =>
      simp only [List.all_cons, Bool.and_eq_true] at hb
      obtain ⟨ns, h1, h2⟩ := ih _ t hb.2
      cases h <;> first | (simp [isByte] at hb; done) | skip
      rename_i k n
      cases k <;> first | (simp [isByte] at hb; done) | skip
      exact ⟨n :: ns, by simp [h1], by simp [h2, toByte]⟩

theorem foldl_push (ns : List Int) (r : ByteArray) : (ns.foldl (fun r n => r.push (UInt8.ofNat n.toNat)) r).data.toList = r.data.toList ++ ns.map (fun n => UInt8.ofNat n.toNat) := by
  induction ns generalizing r with
  | nil => simp
  | cons n ns ih => rw [List.foldl_cons, ih]; simp [ByteArray.push]

theorem bytesStr_sound (R : Rel w0 Fz μ own h w) {x : AV} {cx : Value} {K : AV → Prop} {src dst el : TypeId} (h1 : P.underlying src = some (.slice el)) (h2 : P.underlying dst = some .string)
    (h3 : P.underlying el = some (.int .u8)) (hx : VRel μ x cx) (hk : pBytesStr x h fun l => K (.s l)) : ∃ v cv, K v ∧ VRel μ v cv ∧ Yields P w (convert src dst cx) cv := by
  obtain ⟨cs, vs, ⟨hb, hK⟩, hr, a, len, c, rfl, hn, hlen, hrd⟩ := slCells_sound R hx hk
  obtain ⟨ns, rfl, hns⟩ := bytes_of cs vs hr hb
  have hl := hr.length
  cases a with
  | none =>
    obtain ⟨rfl, rfl⟩ := hn rfl
    have hcs : cs = [] := by simpa using hlen
    subst hcs
    refine ⟨_, .string .empty, hK,   .s _ _ (by simp), fun w' hs => ?_⟩
    rw [run_convert_bytes_string w' src dst el none 0 0 h1 h3 h2]
    simp [Conv.bytesToString]
  | some adr =>
    refine ⟨_, .string (ns.foldl (fun r n => r.push (UInt8.ofNat n.toNat)) ByteArray.empty), hK, .s _ _ (by rw [foldl_push, hns]; rfl), fun w' hs => ?_⟩
    rw [run_convert_bytes_string w' src dst el (some adr) len c h1 h3 h2]
    refine run_bytesToString w' adr len c ns ?_
    have hlen' : (ns.map (Value.int .u8)).length = len := by rw [← hl, hlen]; simp
    rw [← hlen']
    refine run_loadCells_list w' adr _ fun j v hj => ?_
    refine hrd adr rfl ?_ w' hs j v hj
    have := (List.getElem?_eq_some_iff.1 hj).1
    omega

theorem str_len {l : List UInt8} {x : ByteArray} (h : x.data.toList = l) : x.size = l.length := by subst h; show x.data.size = _; simp

theorem nil_sound {x : AV} {cx : Value} {K : AV → Prop} {dst : Option Tmp} {op0 : Operand} {t : TypeId} {pos : String} {af : Array Edge} {g : Option (Nat × Bool)} {ρ : Operand → Value} (hρ : ρ op0 = cx)
    (hx : VRel μ x cx) (hk : pNil x K) : ∃ v cv, K v ∧ VRel μ v cv ∧ ∀ w', (execOp ρ { dst, op := .nilCheck op0, type := t, pos, after := af, guard := g }).run P w' = .ok (.value cv) w' := by
  subst hρ
  have hx' := hx
  generalize hcx : ρ op0 = cx at *
  cases hx with
  | u | pn | nf | ni => exact hk.elim
  | fn f a b a' b' h1 h2 =>
    cases f with
    | func f => exact ⟨_, _, hk, hx', fun w' => by simp [execOp, hcx]⟩
    | _ => exact hk.elim
  | _ => exact ⟨_, _, hk, hx', fun w' => by simp [execOp, hcx]⟩

end
end Go.GAM
