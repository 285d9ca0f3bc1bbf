/- Arguments that are slices of strings, bytes, numbers: as lists. -/
import Derived.Test.YtffgchcidkapjaaDoorAm21
set_option linter.unusedVariables false
set_option linter.unusedSimpArgs false
namespace Go.GAM
open Go.RowKit

theorem flatMap_one {α β : Type} (f : α → β) : ∀ l : List α, (l.flatMap fun x => [f x]) = l.map f
  | [] => rfl
  | a :: l => by rw [List.flatMap_cons, flatMap_one f l]; rfl

theorem u8_bd {n : Int} (h : (Lit.int .u8 n).wf = true) : 0 ≤ n ∧ n < 256 := by
  simp [Lit.wf, IntKind.min, IntKind.max, IntKind.signed, IntKind.bits] at h
  omega
theorem i64_bd {n : Int} (h : (Lit.int .i64 n).wf = true) : -9223372036854775808 ≤ n ∧ n < 9223372036854775808 := by
  simp [Lit.wf, IntKind.min, IntKind.max, IntKind.signed, IntKind.bits] at h
  omega

section
variable {H : Type} {enc : TypeId × Value → H} {P : Program} {w : World} {szOf : Nat → Nat}

theorem arg_strings {t e : TypeId} {b : Option Addr} {len cap : Nat} {d : DataW H} {p : List MemPlace} (ht : P.underlying t = some (.slice e)) (hc : P.cellsOf e = 1) (he : P.underlying e = some .string) (hs : ∀ B, szOf B = 1) (h : DataW.Trod enc P w 0 (fun _ => true) true t (.slice b len cap) d p) :
    ∃ (av : AV) (l : List (List UInt8)), VRel (muC w szOf) av (.slice b len cap) ∧ SArg 1 (heapC w szOf) av (l.map .s) l.length := by
  obtain ⟨av, l, h1, h2⟩ := row_arg (szOf := szOf) (fun (x : { l : List UInt8 // l.length ≤ maxLen }) => [AV.s x.1]) ht hc Nat.one_pos hs (fun r n y h => row_string he r n y h) h
  refine ⟨av, l.map (·.1), h1, ?_⟩
  rw [List.map_map, List.length_map]
  rwa [flatMap_one (fun (x : { l : List UInt8 // l.length ≤ maxLen }) => AV.s x.1)] at h2
theorem arg_ints {k : IntKind} {t e : TypeId} {b : Option Addr} {len cap : Nat} {d : DataW H} {p : List MemPlace} (ht : P.underlying t = some (.slice e)) (hc : P.cellsOf e = 1) (he : P.underlying e = some (.int k)) (hs : ∀ B, szOf B = 1) (h : DataW.Trod enc P w 0 (fun _ => true) true t (.slice b len cap) d p) :
    ∃ (av : AV) (l : List Int), VRel (muC w szOf) av (.slice b len cap) ∧ SArg 1 (heapC w szOf) av (l.map (.i k)) l.length ∧ ∀ n ∈ l, (Lit.int k n).wf = true := by
  obtain ⟨av, l, h1, h2⟩ := row_arg (szOf := szOf) (fun (x : { n : Int // (Lit.int k n).wf = true }) => [AV.i k x.1]) ht hc Nat.one_pos hs (fun r n y h => row_int he r n y h) h
  refine ⟨av, l.map (·.1), h1, ?_, fun n hn => ?_⟩
  · rw [List.map_map, List.length_map]
    rwa [flatMap_one (fun (x : { n : Int // (Lit.int k n).wf = true }) => AV.i k x.1)] at h2
  · obtain ⟨x, _, rfl⟩ := List.mem_map.1 hn
    exact x.2
theorem arg_bytes {t e : TypeId} {b : Option Addr} {len cap : Nat} {d : DataW H} {p : List MemPlace} (ht : P.underlying t = some (.slice e)) (hc : P.cellsOf e = 1) (he : P.underlying e = some (.int .u8)) (hs : ∀ B, szOf B = 1) (h : DataW.Trod enc P w 0 (fun _ => true) true t (.slice b len cap) d p) :
    ∃ (av : AV) (l : List UInt8), VRel (muC w szOf) av (.slice b len cap) ∧ SArg 1 (heapC w szOf) av (l.map byteAV) l.length := by
  obtain ⟨av, l, h1, h2, h3⟩ := arg_ints (k := .u8) ht hc he hs h
  refine ⟨av, l.map fun n => UInt8.ofNat n.toNat, h1, ?_⟩
  rw [List.map_map, List.length_map]
  have e : l.map (byteAV ∘ fun n => UInt8.ofNat n.toNat) = l.map (.i .u8) := List.map_congr_left fun n hn => by
    have := u8_bd (h3 n hn)
    exact (byteAV_wrap this.1 this.2).symm
  rwa [e]
end

theorem SArg.rd {sz : Nat} {h : AHeap} {v : AV} {cs : List AV} {len : Nat} (S : SArg sz h v cs len) (hl : len ≠ 0) : Rd sz h v cs len := by
  rcases S with R | ⟨h1, _⟩
  · exact R
  · exact absurd h1 hl

theorem Rd.str {h : AHeap} {v : AV} {l : List (List UInt8)} {len : Nat} (R : Rd 1 h v (l.map .s) len) {k : IntKind} {i : Nat} {x : List UInt8} (hx : l[i]? = some x) {K : List UInt8 → Prop} (hk : K x) :
    pIdxAddrSl 1 v (.i k (i : Int)) h fun a => pLoad1 a h fun y => asS y K := by
  have hl := R.length
  rw [List.length_map, Nat.mul_one] at hl
  exact R.cell Nat.one_pos (by have := lt_of_some hx; omega) (c := .s x) (by rw [Nat.mul_one, List.getElem?_map, hx]; rfl) (st_asS hk)
theorem Rd.int {kd : IntKind} {h : AHeap} {v : AV} {l : List Int} {len : Nat} (R : Rd 1 h v (l.map (.i kd)) len) {k : IntKind} {i : Nat} {x : Int} (hx : l[i]? = some x) {K : Int → Prop} (hk : K x) :
    pIdxAddrSl 1 v (.i k (i : Int)) h fun a => pLoad1 a h fun y => asI kd y K := by
  have hl := R.length
  rw [List.length_map, Nat.mul_one] at hl
  exact R.cell Nat.one_pos (by have := lt_of_some hx; omega) (c := .i kd x) (by rw [Nat.mul_one, List.getElem?_map, hx]; rfl) (st_asI hk)
theorem Rd.byte {h : AHeap} {v : AV} {l : List UInt8} {len : Nat} (R : Rd 1 h v (l.map byteAV) len) {k : IntKind} {i : Nat} {x : UInt8} (hx : l[i]? = some x) {K : Int → Prop} (hk : K (x.toNat : Int)) :
    pIdxAddrSl 1 v (.i k (i : Int)) h fun a => pLoad1 a h fun y => asI .u8 y K := by
  have hl := R.length
  rw [List.length_map, Nat.mul_one] at hl
  exact R.cell Nat.one_pos (by have := lt_of_some hx; omega) (c := byteAV x) (by rw [Nat.mul_one, List.getElem?_map, hx]; rfl) (st_asI hk)

end Go.GAM
