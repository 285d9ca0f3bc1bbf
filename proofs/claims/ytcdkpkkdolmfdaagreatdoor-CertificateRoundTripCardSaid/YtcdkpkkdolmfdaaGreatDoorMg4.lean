/- Lemmas (several texts in one). -/
import Derived.Below
import Derived.ChangeArms
import Derived.ChangeSlices
import Derived.DataElems
import Derived.LaidMore
import Derived.Lib.Bytealg
import Derived.Test.YtcdkpkkdolmfdaaGreatDoorMg3
set_option linter.unusedVariables false
set_option linter.unusedSimpArgs false
namespace Go.GAM
open Go.RowKit
def absV1 (w : World) (szOf : Nat → Nat) : Value → AV
  | .bool x=>.b x
  | .int k n=>.i k n
  | .string s=>.s s.data.toList
  | .pointer none=>.p none
  | .pointer (some a) => match w.shape? a.block, a.spot with
    | some (_,n),none=>.p (some ⟨a.block,n,a.off⟩)
    | _,_=>.u
  | .slice none 0 0=>.sl none 0 none
  | .slice (some a) len cap => if cap = 0 then (if len = 0 then .sl (some ⟨w.heap.size, 0, 0⟩) 0 (some 0) else .u) else
    match w.shape? a.block,a.spot with
    | some (_,n),none=>if len≤cap∧a.off+cap * szOf a.block≤n then .sl (some ⟨a.block,n,a.off⟩) len (some cap) else .u
    | _,_=>.u
  | .nilFunc=>.nf
  | .nilIface=>.ni
  | .map none=>.mp none
  | _=>.u
def absV (w:World) (szOf:Nat→Nat):Value→AV
  | .agg cs=>.ag (cs.toList.map (absV1 w szOf))
  | .iface t v=>.ifc t (absV1 w szOf v)
  | v=>absV1 w szOf v
def blkC (w:World) (szOf:Nat→Nat) (B:Nat):ABlk:=match w.heap[B]? with
  | some (.cells c _ _)=>⟨c.toList.map (absV w szOf),szOf B,c.size,false,true,true,none,none⟩
  | _=>dead
def heapC (w:World) (szOf:Nat→Nat):AHeap:=(List.range w.heap.size).map (blkC w szOf)++[dead]
def muC (w:World) (szOf:Nat→Nat):Mu:=fun id ver=>
  if id=w.heap.size then (if ver=0 then some ⟨0,0,0,1⟩ else none) else
  match w.shape? id with
  | some (_,n)=>if ver=n then some ⟨id,0,n,szOf id⟩ else none
  | none=>none
def ownC (w:World):Nat→Option Nat:=fun B=>if (w.shape? B).isSome then some B else none
section
variable {w:World} {szOf:Nat→Nat}
theorem shape_some {B:Nat} {t:TypeId} {n:Nat} (h:w.shape? B=some (t,n)):∃ c fr,w.heap[B]? = some (.cells c t fr)∧c.size=n:=by
  unfold World.shape? at h
  split at h
  · rename_i c el fr hh
    simp only [Option.some.injEq,Prod.mk.injEq] at h
    obtain ⟨rfl,rfl⟩:=h
    exact ⟨c,fr,hh,rfl⟩
  · cases h
theorem shape_lt {B:Nat} {x:TypeId × Nat} (h:w.shape? B=some x):B<w.heap.size:=by
  obtain ⟨c,fr,hh,_⟩:=shape_some (t:=x.1) (n:=x.2) h
  exact (Array.getElem?_eq_some_iff.1 hh).1
theorem muC_is {B:Nat} {t:TypeId} {n:Nat} (h:w.shape? B=some (t,n)):muC w szOf B n=some ⟨B,0,n,szOf B⟩:=by
  have:=shape_lt h
  unfold muC
  rw [if_neg (by omega),h]
  simp
theorem absV1_rel (v : Value) : VRel (muC w szOf) (absV1 w szOf v) v := by
  cases v <;> first | exact .u _ | exact .b _ | exact .i _ _ | exact .s _ _ rfl | exact .nf | exact .ni | skip
  case pointer a=>
    cases a with
    | none=>exact .pn
    | some a =>
      obtain ⟨B,off,spot⟩:=a
      simp only [absV1]
      split
      · rename_i t n hs
        exact .p _ _ _ (muC_is hs) (by simp)
      · exact .u _
  case slice a len cap=>
    cases a with
    | none =>
      cases len with
      | succ l=>exact .u _
      | zero => cases cap with
        | succ c=>exact .u _
        | zero=>exact .sn
    | some a =>
      obtain ⟨B,off,spot⟩:=a
      simp only [absV1]
      split
      · rename_i hc
        subst hc
        split
        · rename_i hl
          subst hl
          exact .sl _ _ _ 0 _ ⟨0,0,0,1⟩ (by unfold muC; simp) (Nat.le_refl _) (by simp) (by simp) (by simp) (by simp)
        · exact .u _
      · split
        · rename_i t n hs
          split
          · rename_i hl
            exact .sl _ _ _ cap _ _ (muC_is hs) hl.1 hl.2 (by simp) (by simp) (by simp)
          · exact .u _
        · exact .u _
  case map r=>cases r <;> first | exact .mpn | exact .u _
theorem absV1s_rel:∀ vs:List Value,VRels (muC w szOf) (vs.map (absV1 w szOf)) vs
  | []=>.nil
  | v :: vs=>.cons _ _ _ _ (absV1_rel v) (absV1s_rel vs)
theorem absV_rel (v:Value):VRel (muC w szOf) (absV w szOf v) v:=by
  cases v <;> simp only [absV] <;> first | exact absV1_rel _ | exact .ag _ _ (absV1s_rel _) | exact .ifc _ _ _ (absV1_rel _)
theorem absVs_rel:∀ vs:List Value,VRels (muC w szOf) (vs.map (absV w szOf)) vs
  | []=>.nil
  | v :: vs=>.cons _ _ _ _ (absV_rel v) (absVs_rel vs)
theorem heapC_at {B:Nat} (h:B<w.heap.size):(heapC w szOf)[B]? = some (blkC w szOf B):=by
  unfold heapC
  rw [List.getElem?_append_left (by simpa using h)]
  simp [h]
theorem heapC_len:(heapC w szOf).length=w.heap.size+1:=by simp [heapC]
theorem canon_rel (w : World) (szOf : Nat → Nat) : Rel w (fun B => B < w.heap.size) (muC w szOf) (ownC w) (heapC w szOf) w where
  os:=rfl
  tape:=rfl
  output:=rfl
  size0:=Nat.le_refl _
  fz:=fun B hB=>⟨hB,rfl⟩
  ownlt:=fun B id h=>by
    unfold ownC at h
    split at h
    · rename_i hs
      obtain ⟨x,hx⟩:=Option.isSome_iff_exists.1 hs
      exact shape_lt hx
    · cases h
  mulen := fun id ver l h => by
    unfold muC at h
    split at h
    · rename_i he
      subst he
      exact ⟨dead,by simp [heapC],by simp [dead]⟩
    · split at h
      · rename_i t n hs
        obtain ⟨c,fr,hh,hc⟩:=shape_some hs
        refine ⟨blkC w szOf id,heapC_at (shape_lt hs),fun _=>?_⟩
        split at h
        · rename_i hv
          unfold blkC
          rw [hh]
          simp [hv,hc]
        · cases h
      · cases h
  blk := fun id b hb hl => by
    rcases Nat.lt_or_ge id w.heap.size with hi | hi
    · rw [heapC_at hi] at hb
      cases hb
      unfold blkC at hl ⊢
      split at hl
      · rename_i c el fr hh
        have hs:w.shape? id=some (el,c.size):=by unfold World.shape?; rw [hh]
        refine ⟨⟨id,0,c.size,szOf id⟩, ?_⟩
        have hlen:(c.toList.map (absV w szOf)).length=c.size:=by simp
        refine { cur:=by simp only [hlen]; exact muC_is hs,owned:=by simp [ownC,hs],sz:=rfl,len:=by simp,ex:=by simp,ro:=by simp,gl:=by simp,nomap:=rfl,tyok:=fun t ht=>(by cases ht),row:=⟨c,el,fr,hh,by simp⟩,free:=by simp,vers:=fun ver h1 h2 l' hl'=>?_ }
        have hv:ver=c.size:=by simp only [hlen] at h2; simp only at h1; omega
        subst hv
        rw [muC_is hs] at hl'
        cases hl'
        refine { own:=by simp [ownC,hs],sz:=rfl,le:=Nat.le_refl _,base:=fun _=>rfl,cells:=fun j hj=>?_ }
        refine ⟨c[j],by simp [World.cell?,hh,hj], ?_⟩
        have e:(c.toList.map (absV w szOf)).getD j .u=absV w szOf c[j]:=by simp [List.getD,hj]
        simp only [e]
        exact absV_rel _
      · exact absurd hl (by simp [dead])
    · exfalso
      rcases Nat.lt_or_ge id (w.heap.size+1) with h2 | h2
      · have : id = w.heap.size := by omega
        subst this
        simp [heapC] at hb
        subst hb
        simp [dead] at hl
      · rw [List.getElem?_eq_none (by rw [heapC_len]; omega)] at hb; cases hb
  maps:=fun id b es hb he=>by
    exfalso
    have hm:b∈heapC w szOf:=List.mem_of_getElem? hb
    unfold heapC at hm
    rcases List.mem_append.1 hm with h1 | h1
    · obtain ⟨B, _, rfl⟩ := List.mem_map.1 h1
      unfold blkC at he
      split at he <;> cases he
    · simp at h1; subst h1; cases he
end
def Yes:AV→AHeap→Prop:=fun v _=>v = .b true
theorem kRet_yes {h0 h:AHeap}:kRet h0 Yes (.b true) h:=.inl rfl
end Go.GAM
namespace Go.GAM
open Go.RowKit Go.ChangeShapes
section
variable {H:Type} {enc:TypeId × Value→H} {P:Program} {w:World} {szOf:Nat→Nat}
theorem rows_cells {a : Addr} {sz : Nat} : ∀ (rows : List (List Value)) (k : Nat), (∀ i r, rows[i]? = some r → r.length = sz ∧ ∀ j, j < sz → w.cell? (a.add ((k + i) * sz + j)) = some (r.getD j undef)) →
    ∀ i,i<rows.flatten.length→w.cell? (a.add (k * sz+i))=some (rows.flatten.getD i undef)
  | [],k,h,i,hi=>by simp at hi
  | r :: rows, k, h, i, hi => by
    obtain ⟨h1,h2⟩:=h 0 r rfl
    rw [List.flatten_cons]
    by_cases hlt:i<sz
    · have := h2 i hlt
      rw [Nat.add_zero] at this
      rw [this,List.getD_eq_getElem?_getD,List.getD_eq_getElem?_getD,List.getElem?_append_left (by omega)]
    · have := rows_cells (a := a) (sz := sz) rows (k + 1) (fun j r hj => by
        have:=h (j+1) r (by simpa using hj)
        rw [show k+1+j=k+(j+1) by omega]; exact this) (i - sz) (by simp at hi ⊢; omega)
      rw [show (k+1) * sz+(i - sz)=k * sz+i by rw [Nat.add_mul]; omega] at this
      rw [this,List.getD_eq_getElem?_getD,List.getD_eq_getElem?_getD,List.getElem?_append_right (by omega),h1]
def SArg (sz:Nat) (h:AHeap) (v:AV) (cs:List AV) (len:Nat):Prop:=Rd sz h v cs len∨(len=0∧cs=[]∧∃ a c,v = .sl (some a) 0 c)
theorem SArg.len {sz:Nat} {h:AHeap} {v:AV} {cs:List AV} {len:Nat} (R:SArg sz h v cs len) {K:Int→Prop} (hk:K len):pLenSl v K:=by
  rcases R with R | ⟨rfl,_,a,c,rfl⟩
  · exact R.len hk
  · exact hk
theorem rows_len {sz:Nat}:∀ rows:List (List Value),(∀ r∈rows,r.length=sz)→rows.flatten.length=rows.length * sz
  | [],_=>by simp
  | r :: rows, h => by
    rw [List.flatten_cons,List.length_append,rows_len rows fun r hr=>h r (by simp [hr]),h r (by simp),List.length_cons,Nat.add_mul]; omega
theorem rows_take {sz:Nat}:∀ (rows:List (List Value)) (n:Nat),(∀ r∈rows,r.length=sz)→rows.flatten.take (n * sz)=(rows.take n).flatten
  | [],n,_=>by simp
  | r :: rows,0,_=>by simp
  | r :: rows, n + 1, h => by
    have h1:=h r (by simp)
    rw [List.take_succ_cons,List.flatten_cons,List.flatten_cons, ← rows_take rows n fun r hr=>h r (by simp [hr]),List.take_append,h1]
    rw [List.take_of_length_le (by rw [h1,Nat.add_mul]; omega),show (n+1) * sz - sz=n * sz by rw [Nat.add_mul]; omega]
end
end Go.GAM
namespace Go.GAM
variable {ty:Option TypeId}
open Go.RowKit
theorem Upd.ext {h h':AHeap} (U:Upd (fun _=>False) h h'):Ext h h':=⟨U.1,fun i hi=>U.2 i hi fun h=>h⟩
structure NewA (sz:Nat) (h0 h:AHeap) (v:AV) (cs:List AV) (len:Nat):Prop where
  upd:Upd (fun _=>False) h0 h
  arr:Arr sz h v cs len
  new:∀ i,SlAt v i→h0.length≤i
theorem NewA.start (sz:Nat) (h:AHeap):NewA sz h h (.sl none 0 none) [] 0:=⟨Upd.refl _ _,Arr.nil _ _,fun _ h=>h.elim⟩
theorem NewA.append {sz bytes:Nat} {h0 h:AHeap} {v x:AV} {cs ns:List AV} {len k:Nat} (A:NewA sz h0 h v cs len) (hz:0<sz) {K:AV→AHeap→Prop}
    (hx:∀ K:List AV→Nat→Prop,K ns k→newsOf sz x h K) (hns:ns.length=k * sz) (hok:ns.all AV.cellOK=true) (hlen:(len+k) * bytes≤140737488355328) (hl2:len+k≤9223372036854775807)
    (hk:∀ v' h',NewA sz h0 h' v' (cs++ns) (len+k)→Upd (SlAt v) h h'→K v' h'):pAppend ty sz bytes v x h K:=
  A.arr.append hz hx hns hok hlen hl2 fun v' h' U A' F=>hk v' h' ⟨A.upd.trans U fun i hi hs=>absurd (A.new i hs) (by omega),A',fun i hi=>by
    rcases F i hi with h | h
    · exact A.new i h
    · exact Nat.le_trans A.upd.1 h⟩ U
theorem NewA.build {sz bytes n:Nat} {h0 h:AHeap} {v:AV} {cs ns zeros:List AV} {parts:List (Nat × Nat × AV)} {len:Nat} (A:NewA sz h0 h v cs len) (hz:0<sz) {K:AV→AHeap→Prop}
    (hf:fillA zeros parts=some ns) (hns:ns.length=n * sz) (hok:ns.all AV.cellOK=true) (hlen:(len+n) * bytes≤140737488355328) (hl2:len+n≤9223372036854775807)
    (hk:∀ v' h',NewA sz h0 h' v' (cs++ns) (len+n)→K v' h'):pBuildSl sz n zeros parts h fun y h'=>pAppend ty sz bytes v y h' K:=by
  refine st_build hf hns fun y h1 hl1 U1 R1 F1=>?_
  have A1:NewA sz h0 h1 v cs len:=⟨A.upd.trans U1 fun _ _ h=>h,A.arr.upd U1 fun _ _ h=>h,A.new⟩
  exact A1.append hz (fun K hK=>R1.news hK) hns hok hlen hl2 fun v' h' A' _=>hk v' h' A'
def Tx (h0 h:AHeap) (v:AV) (l:List UInt8):Prop:=NewA 1 h0 h v (l.map byteAV) l.length
theorem Tx.start (h:AHeap):Tx h h (.sl none 0 none) []:=NewA.start 1 h
theorem Tx.push {h0 h:AHeap} {v:AV} {l:List UInt8} (A:Tx h0 h v l) {c:UInt8} {K:AV→AHeap→Prop} (hlen:l.length<140737488355328) (hk:∀ v' h',Tx h0 h' v' (l++[c])→K v' h') :
    pBuildSl 1 1 [.i .u8 0] [(0,1,.i .u8 (c.toNat:Int))] h fun y h'=>pAppend ty 1 1 v y h' K:=by
  refine NewA.build A (by decide) (ns:=[byteAV c]) rfl rfl rfl (by omega) (by omega) fun v' h' A'=>hk v' h' ?_
  unfold Tx
  rw [List.map_append,List.length_append]; exact A'
theorem Tx.push2 {h0 h:AHeap} {v:AV} {l:List UInt8} (A:Tx h0 h v l) {c d:UInt8} {K:AV→AHeap→Prop} (hlen:l.length<1000000000) (hk:∀ v' h',Tx h0 h' v' (l++[c,d])→K v' h') :
    pBuildSl 1 2 [.i .u8 0,.i .u8 0] [(0,1,.i .u8 (c.toNat:Int)),(1,1,.i .u8 (d.toNat:Int))] h fun y h'=>pAppend ty 1 1 v y h' K:=by
  refine NewA.build A (by decide) (ns:=[byteAV c,byteAV d]) rfl rfl rfl (by omega) (by omega) fun v' h' A'=>hk v' h' ?_
  unfold Tx
  rw [List.map_append,List.length_append]; exact A'
theorem Tx.push3 {h0 h:AHeap} {v:AV} {l:List UInt8} (A:Tx h0 h v l) {c d e:UInt8} {K:AV→AHeap→Prop} (hlen:l.length<1000000000) (hk:∀ v' h',Tx h0 h' v' (l++[c,d,e])→K v' h') :
    pBuildSl 1 3 [.i .u8 0,.i .u8 0,.i .u8 0] [(0,1,.i .u8 (c.toNat:Int)),(1,1,.i .u8 (d.toNat:Int)),(2,1,.i .u8 (e.toNat:Int))] h fun y h'=>pAppend ty 1 1 v y h' K:=by
  refine NewA.build A (by decide) (ns:=[byteAV c,byteAV d,byteAV e]) rfl rfl rfl (by omega) (by omega) fun v' h' A'=>hk v' h' ?_
  unfold Tx
  rw [List.map_append,List.length_append]; exact A'
theorem Tx.ret {h0 h:AHeap} {v:AV} {l:List UInt8} (A:Tx h0 h v l) {Q:AV→AHeap→Prop} (hq:Q (.s l) h0):pBytesStr v h fun x=>kRet h0 Q (.s x) h:=
  Byt.str (l:=l) A.arr.rd (kRet_pure rfl A.upd.ext hq)
theorem Tx.str {h0 h:AHeap} {v:AV} {l:List UInt8} (A:Tx h0 h v l) {K:List UInt8→Prop} (hq:K l):pBytesStr v h K:=Byt.str (l:=l) A.arr.rd hq
theorem st_at {l r:List UInt8} {i:Nat} {c:UInt8} {K:Int→Prop} (h:l.drop i=c :: r) (hk:K (c.toNat:Int)):pIdxStr (.s l) (.i .i64 (i:Int)) K:=by
  refine idxStr ?_ hk
  have:(l.drop i)[0]? = some c:=by rw [h] <;> rfl
  simpa using this
theorem drop_lt {α:Type} {l r:List α} {i:Nat} {c:α} (h:l.drop i=c :: r):i<l.length:=by
  rcases Nat.lt_or_ge i l.length with h1 | h1
  · exact h1
  · rw [List.drop_eq_nil_of_le h1] at h; cases h
theorem drop_next {α:Type} {l r:List α} {i:Nat} {c:α} (h:l.drop i=c :: r):l.drop (i+1)=r:=by
  have:(l.drop i).drop 1=r:=by rw [h] <;> rfl
  rwa [List.drop_drop] at this
theorem drop_end {α:Type} {l:List α} {i:Nat} (h:l.drop i=[]):l.length≤i:=by
  have:=congrArg List.length h
  simp at this; omega
def Stk (h:AHeap) (v:AV) (l:List AV):Prop:=
  (v = .sl none 0 none∧l=[])∨∃ id b,v = .sl (some ⟨id,b.cells.length,0⟩) l.length none∧h[id]? = some b∧b.sz=1∧l.length≤b.cells.length∧b.cells.take l.length=l∧b.floor≤b.cells.length∧b.ro=false∧b.gl=false
theorem Stk.rd {h:AHeap} {v:AV} {l:List AV} (S:Stk h v l):Rd 1 h v l l.length:=by
  rcases S with ⟨rfl,rfl⟩ | ⟨id,b,rfl,h1,h2,h3,h4,h5,h6,h7⟩
  · exact .inl ⟨rfl,rfl,rfl⟩
  · exact .inr ⟨id,_,0,none,b,rfl,h1,h2,h5,Nat.le_refl _,by omega,by rw [List.drop_zero,Nat.mul_one]; exact h4⟩
theorem Stk.upd {M:Nat→Prop} {h h':AHeap} {v:AV} {l:List AV} (S:Stk h v l) (U:Upd M h h') (hM:∀ i,SlAt v i→¬ M i):Stk h' v l:=by
  rcases S with h1 | ⟨id,b,rfl,h1,h2⟩
  · exact .inl h1
  · exact .inr ⟨id,b,rfl,(U.2 id (lt_of_some h1) (hM id rfl)).trans h1,h2⟩
theorem Stk.cut {h:AHeap} {v:AV} {l:List AV} (S:Stk h v l) {n:Nat} (hn:n≤l.length) {K:AV→Prop} (hk:∀ v',Stk h v' (l.take n)→(∀ i,SlAt v' i→SlAt v i)→K v'):pSliceSl 1 v none (some (.i .i64 n)) none h K:=by
  rcases S with ⟨rfl,rfl⟩ | ⟨id,b,rfl,h1,h2,h3,h4,h5,h6,h7⟩
  · have : n = 0 := by simpa using hn
    subst this
    exact ⟨by simp,rfl,rfl,rfl,fun h=>by simp at h,hk _ (.inl ⟨rfl,by simp⟩) fun _ h=>h⟩
  · refine ⟨Nat.one_pos, fun h => by simp at h, by omega, by simp, b, h1, h5, h5, .inl h2, .inl (by simpa using hn), ?_⟩
    refine hk _ (.inr ⟨id,b,by simp; omega,h1,h2,by simp; omega, ?_,h5,h6,h7⟩) fun _ h=>h
    rw [List.length_take,Nat.min_eq_left hn, ← h4,List.take_take,Nat.min_eq_left hn]
theorem Stk.push {bytes : Nat} {h : AHeap} {v x : AV} {l zeros : List AV} (S : Stk h v l) (hf : fillA zeros [(0, 1, x)] = some [x]) (hx : x.cellOK = true) (hlen : (l.length + 1) * bytes ≤ 140737488355328) (hl2 : l.length + 1 ≤ 9223372036854775807) {K : AV → AHeap → Prop}
    (hk:∀ v' h',Upd (SlAt v) h h'→Stk h' v' (l++[x])→(∀ i,SlAt v' i→SlAt v i∨h.length≤i)→K v' h'):pBuildSl 1 1 zeros [(0,1,x)] h fun y h'=>pAppend ty 1 bytes v y h' K:=by
  refine st_build hf rfl fun y h1 hl1 U1 R1 F1=>⟨Nat.one_pos,R1.news ?_⟩
  have S1:=S.upd U1 fun _ _ h=>h
  rcases S1 with ⟨rfl,rfl⟩ | ⟨id,b,rfl,g1,g2,g3,g4,g5,g6,g7⟩
  · refine ⟨by simpa using hlen, by omega, ?_⟩
    rw [if_neg (by decide)]
    exact hk _ _ ((U1.mono fun _ _ h=>h.elim).trans (Upd.app _ _) fun _ _ h=>h.elim) (.inr ⟨h1.length,newBlk [x] 1 false ty,by simp [newBlk],by simp,rfl,by simp [newBlk],by simp [newBlk],by simp [newBlk],rfl,rfl⟩) fun i hi=>.inr (by have e:h1.length=i:=hi; omega)
  · have hid := lt_of_some g1
    have hidh:id<h.length:=Rd.lt S.rd (id:=id) rfl
    refine ⟨hlen,by omega,b,g1,g2,⟨g5,Nat.le_refl _,by simp only; omega⟩, ?_⟩
    by_cases hfull:l.length=b.cells.length
    · cases hex : b.ex with
      | true =>
        refine .inr (.inl ⟨Nat.one_pos,.inr ⟨rfl,rfl,rfl,by simp only; omega⟩, ?_⟩)
        refine hk _ _ ((U1.mono fun _ _ h=>h.elim).trans (Upd.app _ _) fun _ _ h=>h.elim) (.inr ⟨h1.length,newBlk (l++[x]) 1 false ty, ?_, ?_,rfl,by simp [newBlk],by simp only [newBlk,List.length_append]; exact List.take_of_length_le (by simp),by simp [newBlk],rfl,rfl⟩) fun i hi=>.inr (by have e:h1.length=i:=hi; omega)
        · simp [newBlk,g4,g3]
        · simp [g4]
      | false =>
        refine .inr (.inr (.inr (.inl ⟨Nat.one_pos,g6,rfl,rfl,by omega,rfl,rfl,g7,by simp [hx], ?_⟩)))
        have hcl:b.cells=l:=by rw [hfull,List.take_length] at g4; exact g4
        refine hk _ _ ((U1.mono fun _ _ h=>h.elim).trans (Upd.set _ _ _) fun i _ h=>h.symm) (.inr ⟨id,{ b with cells:=b.cells++[x],ty:=sameTy b.ty ty }, ?_,by simp [hid,hex],g2,by simp; omega, ?_,by simp; omega,g6,g7⟩) fun i hi=>.inl hi
        · simp
        · simp only [hcl]
          rw [List.take_of_length_le (by simp)]
    · refine .inr (.inr (.inl ⟨Nat.one_pos, g6, rfl, by simp only; omega, .inl rfl, by simp [hx], ?_⟩))
      refine hk _ _ ((U1.mono fun _ _ h=>h.elim).trans (Upd.set _ _ _) fun i _ h=>h.symm) (.inr ⟨id,{ b with cells:=wr b.cells (0+l.length * 1) [x],floor:=b.cells.length }, ?_,show (h1.set id _)[id]? = some _ from List.getElem?_set_self hid,g2, ?_, ?_, ?_,g6,g7⟩) fun i hi=>.inl hi
      · simp [wr]
      · simp [wr]; omega
      · simp only [wr, Nat.zero_add, Nat.mul_one, List.length_append, List.length_cons, List.length_nil]
        apply List.ext_getElem?
        intro i
        by_cases h1:i<l.length
        · rw [List.getElem?_take_of_lt (by omega), List.getElem?_set_ne (by omega), List.getElem?_append_left h1]
          conv=>rhs; rw [← g4]
          rw [List.getElem?_take_of_lt h1]
        · by_cases h2 : i = l.length
          · subst h2
            rw [List.getElem?_take_of_lt (by omega),List.getElem?_set_self (by omega),List.getElem?_append_right (by omega)]
            simp
          · rw [List.getElem?_eq_none (by simp; omega),List.getElem?_eq_none (by simp; omega)]
      · simp [wr]
theorem Rd.cell {sz:Nat} {h:AHeap} {v:AV} {cs:List AV} {len:Nat} (R:Rd sz h v cs len) {k:IntKind} {i:Nat} {c:AV} (hz:0<sz) (hi:i<len) (hc:cs[i * sz]? = some c) {K:AV→Prop} (hk:K c) :
    pIdxAddrSl sz v (.i k (i:Int)) h fun a=>pLoad1 a h K:=by
  rcases R with ⟨rfl,rfl,rfl⟩ | ⟨id,ver,off,cap,b,rfl,h2,h3,h4,h5,h6,h7⟩
  · omega
  · have A : RdAt sz h id ver off b cs len := ⟨h2, h3, h4, h5, h6, h7⟩
    exact st_idx A hi (st_elem (o:=0) A hi hz (by simpa using hc) hk)
theorem Tx.load {h0 h:AHeap} {v:AV} {l:List UInt8} (A:Tx h0 h v l) {k:IntKind} {i:Nat} {c:UInt8} (hc:l[i]? = some c) {K:AV→Prop} (hk:K (.i .u8 (c.toNat:Int))):pIdxAddrSl 1 v (.i k (i:Int)) h fun a=>pLoad1 a h K:=
  Rd.cell A.arr.rd Nat.one_pos (lt_of_some hc) (by rw [Nat.mul_one,List.getElem?_map,hc] <;> rfl) hk
theorem Arr.store {h:AHeap} {v x:AV} {cs:List AV} {len:Nat} (A:Arr 1 h v cs len) {k:IntKind} {i:Nat} (hi:i<len) (hx:x.parts=[x]) (hs:x.sizeOK=true) (hc:x.cellOK=true) {K:AHeap→Prop}
    (hk:∀ h',Upd (SlAt v) h h'→Arr 1 h' v (cs.set i x) len→K h'):pIdxAddrSl 1 v (.i k (i:Int)) h fun p=>pStore 1 p x h K:=by
  rcases A with ⟨rfl,rfl,rfl⟩ | ⟨id,b,rfl,h2,rfl,h4,h5,h6,h7,h8⟩
  · omega
  · have hid := lt_of_some h2
    refine ⟨by omega,by omega,⟨b,h2,h6,h6⟩, ?_⟩
    refine ⟨b,h2,h7,h6,rfl,by simp only [Int.toNat_natCast]; omega,hs,by rw [hx] <;> rfl,by rw [hx]; simp [hc], ?_⟩
    refine hk _ ((Upd.set _ _ _).mono fun i _ h=>h.symm) (.inr ⟨id,{ b with cells:=wr b.cells (0+i * 1) x.parts,floor:=b.cells.length }, ?_, ?_, ?_, ?_,h5, ?_,h7,h8⟩)
    · simp
    · simp only [Int.toNat_natCast]; exact List.getElem?_set_self hid
    · rw [hx]; simp [wr]
    · simpa using h4
    · simp
theorem Tx.store {h0 h:AHeap} {v:AV} {l:List UInt8} (A:Tx h0 h v l) {k:IntKind} {i:Nat} {c:UInt8} (hi:i<l.length) {K:AHeap→Prop} (hk:∀ h',Tx h0 h' v (l.set i c)→K h') :
    pIdxAddrSl 1 v (.i k (i:Int)) h fun p=>pStore 1 p (.i .u8 (c.toNat:Int)) h K:=by
  refine A.arr.store hi rfl rfl rfl fun h' U A'=>hk h' ⟨A.upd.trans U fun j hj hs=>absurd (A.new j hs) (by omega), ?_,A.new⟩
  have e:(l.map byteAV).set i (.i .u8 (c.toNat:Int))=(l.set i c).map byteAV:=by rw [List.map_set] <;> rfl
  rw [e] at A'
  rw [List.length_set]; exact A'
theorem Tx.ofStr {l:List UInt8} {h:AHeap} {K:AV→AHeap→Prop} (hk:∀ v h',Tx h h' v l→K v h'):pStrBytes (.s l) h K:=
  hk _ _ ⟨Upd.app _ _,.inr ⟨h.length,newBlk (l.map byteAV) 1 false,by simp,by simp,rfl,by simp,rfl,Nat.le_refl _,rfl,rfl⟩,fun i hi=>by cases hi; exact Nat.le_refl _⟩
theorem bits_nat {x:Nat} (h:x<2 ^ 64):(BitVec.ofInt 64 (x:Int)).toNat=x:=by
  simp [BitVec.toNat_ofInt]; omega
theorem bits_or {x y:Nat} (hx:x<2 ^ 62) (hy:y<2 ^ 62):bitsOp .or .i64 x y=((x ||| y:Nat):Int):=by
  have h:x ||| y<2 ^ 62:=Nat.or_lt_two_pow hx hy
  show IntKind.wrap .i64 (((BitVec.ofInt 64 (x:Int)) ||| (BitVec.ofInt 64 (y:Int))).toNat:Int)=_
  rw [BitVec.toNat_or,bits_nat (by omega),bits_nat (by omega),wrap_i64 (by omega) (by omega)]
theorem bits_and {x y:Nat} (hx:x<2 ^ 62) (hy:y<2 ^ 62):bitsOp .and .i64 x y=((x &&& y:Nat):Int):=by
  have h:x &&& y<2 ^ 62:=Nat.and_lt_two_pow _ hy
  show IntKind.wrap .i64 (((BitVec.ofInt 64 (x:Int)) &&& (BitVec.ofInt 64 (y:Int))).toNat:Int)=_
  rw [BitVec.toNat_and,bits_nat (by omega),bits_nat (by omega),wrap_i64 (by omega) (by omega)]
theorem bits8_nat {x:Nat} (h:x<256):(BitVec.ofInt 8 (x:Int)).toNat=x:=by
  simp [BitVec.toNat_ofInt]; omega
theorem bits_and8 {x y:Nat} (hx:x<256) (hy:y<256):bitsOp .and .u8 x y=((x &&& y:Nat):Int):=by
  have h:x &&& y<2 ^ 8:=Nat.and_lt_two_pow _ hy
  show IntKind.wrap .u8 (((BitVec.ofInt 8 (x:Int)) &&& (BitVec.ofInt 8 (y:Int))).toNat:Int)=_
  rw [BitVec.toNat_and,bits8_nat (by omega),bits8_nat (by omega),wrap_u8 (by omega) (by omega)]
theorem st_shl {a b:Nat} {K:Int→Prop} (hb:b≤64) (h:a * 2 ^ b<2 ^ 62) (hk:K ((a * 2 ^ b:Nat):Int)):pShl .i64 a b K:=by
  refine ⟨by omega, ?_⟩
  have e:(a:Int) * 2 ^ (min (b:Int).toNat IntKind.i64.bits)=((a * 2 ^ b:Nat):Int):=by
    rw [Int.toNat_natCast,show IntKind.i64.bits=64 from rfl,Nat.min_eq_left hb]; simp
  rw [e,wrap_i64 (by omega) (by omega)]; exact hk
theorem st_shr {a b:Nat} {k:IntKind} {K:Int→Prop} (hb:b≤k.bits) (hk:K ((a / 2 ^ b:Nat):Int)):pShr k a b K:=by
  refine ⟨by omega, ?_⟩
  have e:(a:Int).fdiv (2 ^ (min (b:Int).toNat k.bits))=((a / 2 ^ b:Nat):Int):=by
    rw [Int.toNat_natCast,Nat.min_eq_left hb]
    have h2:((2:Int) ^ b)=((2 ^ b:Nat):Int):=by simp
    rw [h2,Int.fdiv_eq_ediv_of_nonneg _ (Int.natCast_nonneg (2 ^ b))] <;> rfl
  rw [e]; exact hk
theorem x_calls {P:Program} {f:FuncId} {cargs:List Value} {w w0:World} {Fz:Nat→Prop} {μ:Mu} {own:Nat→Option Nat} {h:AHeap} {K:AV→AHeap→Prop} {av:AV} {v:Value} (hb:bodyOK P f=true) (R:Rel w0 Fz μ own h w)
    (hc:Calls P f cargs.toArray w fun e w'=>e = .returned v∧Below w.heap.size w w') (hv:VRel μ av v) (hk:K av h):CallOK P f cargs w (PostOf w0 Fz μ K):=by
  refine .inl ⟨f,cargs.toArray,bodyOK_run hb _ _,hc.mono fun e w' ⟨he,hb⟩=>⟨v,he,av,μ,own,h,hk,hv, ?_,Sub.refl _⟩⟩
  exact R.same (fun B hB=>hb.block B hB) hb.size hb.os hb.tape hb.output
end Go.GAM
namespace Go.GAM
open Go.RowKit
section
variable {H:Type} {enc:TypeId × Value→H} {P:Program} {w:World} {szOf:Nat→Nat}
end
theorem SArg.rd {sz:Nat} {h:AHeap} {v:AV} {cs:List AV} {len:Nat} (S:SArg sz h v cs len) (hl:len≠0):Rd sz h v cs len:=by
  rcases S with R | ⟨h1,_⟩
  · exact R
  · exact absurd h1 hl
theorem Rd.str {h:AHeap} {v:AV} {l:List (List UInt8)} {len:Nat} (R:Rd 1 h v (l.map .s) len) {k:IntKind} {i:Nat} {x:List UInt8} (hx:l[i]? = some x) {K:List UInt8→Prop} (hk:K x) :
    pIdxAddrSl 1 v (.i k (i:Int)) h fun a=>pLoad1 a h fun y=>asS y K:=by
  have hl:=R.length
  rw [List.length_map,Nat.mul_one] at hl
  exact R.cell Nat.one_pos (by have:=lt_of_some hx; omega) (c:=.s x) (by rw [Nat.mul_one,List.getElem?_map,hx] <;> rfl) (st_asS hk)
theorem Rd.byte {h:AHeap} {v:AV} {l:List UInt8} {len:Nat} (R:Rd 1 h v (l.map byteAV) len) {k:IntKind} {i:Nat} {x:UInt8} (hx:l[i]? = some x) {K:Int→Prop} (hk:K (x.toNat:Int)) :
    pIdxAddrSl 1 v (.i k (i:Int)) h fun a=>pLoad1 a h fun y=>asI .u8 y K:=by
  have hl:=R.length
  rw [List.length_map,Nat.mul_one] at hl
  exact R.cell Nat.one_pos (by have:=lt_of_some hx; omega) (c:=byteAV x) (by rw [Nat.mul_one,List.getElem?_map,hx] <;> rfl) (st_asI hk)
end Go.GAM
namespace Go.GAM
open Go.RowKit Go.ChangeShapes
section
variable {H:Type} {enc:TypeId × Value→H} {P:Program} {w:World} {szOf:Nat→Nat}
theorem laid_shape {n:String} {d:DataW Unit} {l:List (String × DataW Unit)} (hm:(n,d)∈l) (hL:laidMet P l w) :
    ∃ g t cs fuel p,P.globalNamed n=some g∧(P.globals[g]?).map (·.type)=some t∧w.var? P n=some cs∧DataW.trod (fun _=>()) P w 0 (fun _=>true) false fuel t cs.toList=some (d,p):=by
  obtain ⟨ps,h,hx⟩:=hL
  clear hx
  induction l generalizing ps with
  | nil=>cases hm
  | cons x l ih =>
    obtain ⟨n',d'⟩:=x
    obtain ⟨g,t,cs,fuel,p,q,h1,h2,h3,h4,h5,h6⟩:=h
    rcases List.mem_cons.1 hm with h | h
    · cases h; exact ⟨g,t,cs,fuel,p,h1,h2,h3,h4⟩
    · exact ih h _ h5
theorem var_shape {n:String} {g:Nat} {cs:Array Value} (hg:P.globalNamed n=some g) (hv:w.var? P n=some cs):∃ t fr,w.heap[g]? = some (.cells cs t fr):=by
  unfold World.var? at hv
  rw [hg] at hv
  simp only [Option.bind_some] at hv
  split at hv
  · rename_i c t fr h
    cases hv
    exact ⟨t,fr,h⟩
  · cases hv
end
end Go.GAM
namespace Go.GAM
variable {ty:Option TypeId}
open Go.RowKit
theorem inc {i:Nat} {K:Int→Prop} (h:i<9223372036854775807) (hk:K ((i+1:Nat):Int)):withI (IntKind.wrap .i64 ((i:Int)+1)) K:=
  withI_is (n:=((i+1:Nat):Int)) (by rw [wrap_i64 (by omega) (by omega)]; omega) hk
theorem inc2 {i:Nat} {K:Int→Prop} (h:i≤1000000000) (hk:K ((i+2:Nat):Int)):withI (IntKind.wrap .i64 ((i:Int)+2)) K:=
  withI_is (n:=((i+2:Nat):Int)) (by rw [wrap_i64 (by omega) (by omega)]; omega) hk
theorem eq_byte (c d:UInt8):decide ((c.toNat:Int)=(d.toNat:Int))=decide (c=d):=by
  rw [decide_eq_decide]
  constructor
  · intro h; exact UInt8.toNat_inj.1 (by omega)
  · rintro rfl; rfl
theorem take_snoc {α:Type} {l:List α} {i:Nat} {c:α} (hc:l[i]? = some c):l.take (i+1)=l.take i++[c]:=by
  rw [List.take_add_one,hc] <;> rfl
theorem at_of_drop {α:Type} {l r:List α} {i:Nat} {c:α} (h:l.drop i=c :: r):l[i]? = some c:=by
  have:(l.drop i)[0]? = some c:=by rw [h] <;> rfl
  simpa using this
theorem drop_of_at {α:Type} {l:List α} {i:Nat} {c:α} (h:l[i]? = some c):l.drop i=c :: l.drop (i+1):=by
  have hi:=lt_of_some h
  rw [List.drop_eq_getElem_cons hi]
  rw [List.getElem?_eq_getElem hi] at h
  simp only [Option.some.injEq] at h
  rw [h]
theorem callV_c {R:CallR} {f:Nat} {first cap vs:List AV} {h:AHeap} {K:AV→AHeap→Prop} (hf:Nat.blt f yid0=true) (hk:R f (first++vs++cap) h K):pCallV R (.fn (.func f) first cap) vs h K:=by
  unfold pCallV
  simp only
  unfold pCall
  exact bif_t hf hk
structure NewS (h0 h:AHeap) (v:AV) (l:List AV):Prop where
  upd:Upd (fun _=>False) h0 h
  stk:Stk h v l
  new:∀ i,SlAt v i→h0.length≤i
theorem NewS.start (h:AHeap):NewS h h (.sl none 0 none) []:=⟨Upd.refl _ _,.inl ⟨rfl,rfl⟩,fun _ h=>h.elim⟩
theorem NewS.push {bytes:Nat} {h0 h:AHeap} {v x:AV} {l zeros:List AV} (S:NewS h0 h v l) (hf:fillA zeros [(0,1,x)]=some [x]) (hx:x.cellOK=true) (hlen:(l.length+1) * bytes≤140737488355328) (hl2:l.length+1≤9223372036854775807) {K:AV→AHeap→Prop}
    (hk:∀ v' h',NewS h0 h' v' (l++[x])→Upd (SlAt v) h h'→(∀ i,SlAt v' i→SlAt v i∨h.length≤i)→K v' h'):pBuildSl 1 1 zeros [(0,1,x)] h fun y h'=>pAppend ty 1 bytes v y h' K:=
  S.stk.push hf hx hlen hl2 fun v' h' U S' F=>hk v' h' ⟨S.upd.trans U fun i hi hs=>absurd (S.new i hs) (by omega),S',fun i hi=>by
    rcases F i hi with h | h
    · exact S.new i h
    · exact Nat.le_trans S.upd.1 h⟩ U F
theorem NewS.cut {h0 h:AHeap} {v:AV} {l:List AV} (S:NewS h0 h v l) {n:Nat} (hn:n≤l.length) {K:AV→Prop} (hk:∀ v',NewS h0 h v' (l.take n)→(∀ i,SlAt v' i→SlAt v i)→K v'):pSliceSl 1 v none (some (.i .i64 n)) none h K:=
  S.stk.cut hn fun v' S' F=>hk v' ⟨S.upd,S',fun i hi=>S.new i (F i hi)⟩ F
theorem Arr.stk {h:AHeap} {v:AV} {l:List AV} {n:Nat} (A:Arr 1 h v l n):n=l.length∧Stk h v l:=by
  rcases A with ⟨rfl,rfl,rfl⟩ | ⟨id,b,rfl,h2,rfl,h4,h5,h6,h7,h8⟩
  · exact ⟨rfl,.inl ⟨rfl,rfl⟩⟩
  · have : n = b.cells.length := by omega
    subst this
    exact ⟨rfl,.inr ⟨id,b,rfl,h2,h5,Nat.le_refl _,by simp,h6,h7,h8⟩⟩
theorem flat_rep (z:AV):∀ n,(List.replicate n [z]).flatten=List.replicate n z
  | 0=>rfl
  | n+1=>by rw [List.replicate_succ,List.flatten_cons,flat_rep z n,List.replicate_succ] <;> rfl
theorem st_make {bytes n:Nat} {z:AV} {h:AHeap} {k:IntKind} (hb:bytes * n≤281474976710656) (hn:n≤9223372036854775807) {K:AV→AHeap→Prop}
    (hk:∀ v h',NewA 1 h h' v (List.replicate n z) n→K v h'):pMake 1 bytes [z] (.i k (n:Int)) (.i k (n:Int)) h K:=by
  refine ⟨by omega,by omega,Int.natCast_mul bytes n ▸ (by omega:((bytes * n:Nat):Int)≤(281474976710656:Int)),by omega,rfl,Nat.one_pos, ?_⟩
  refine hk _ _ ⟨Upd.app _ _,.inr ⟨h.length,newBlk (List.replicate n z) 1 true, ?_, ?_,rfl,by simp,rfl,Nat.le_refl _,rfl,rfl⟩,fun i hi=>by cases hi; exact Nat.le_refl _⟩
  · rw [Int.toNat_natCast,Nat.mul_one,List.length_replicate]
  · rw [Int.toNat_natCast,flat_rep,List.getElem?_append_right (Nat.le_refl _),Nat.sub_self] <;> rfl
theorem Tx.one {h0 h:AHeap} (U:Upd (fun _=>False) h0 h) {c:UInt8} {K:AV→AHeap→Prop} (hk:∀ v h',Tx h0 h' v [c]→Upd (fun _=>False) h h'→K v h'):pBuildSl 1 1 [.i .u8 0] [(0,1,.i .u8 (c.toNat:Int))] h K:=by
  refine ⟨rfl,hk _ _ ⟨U.trans (Upd.app _ _) fun _ _ h=>h,.inr ⟨h.length,newBlk [byteAV c] 1 true,rfl,by simp [byteAV]; rfl,rfl,rfl,rfl,Nat.le_refl _,rfl,rfl⟩,fun i hi=>?_⟩ (Upd.app _ _)⟩
  cases hi; exact U.1
theorem Tx.byt {h0 h:AHeap} {v:AV} {l:List UInt8} (A:Tx h0 h v l):Byt h v l:=A.arr.rd
theorem st_ext0 {a:AV} {l:List AV} {K:AV→Prop} (hk:K a):pExtract 0 (.tu (a :: l)) K:=⟨by simp,hk⟩
theorem st_ext1 {a b:AV} {l:List AV} {K:AV→Prop} (hk:K b):pExtract 1 (.tu (a :: b :: l)) K:=⟨by simp,hk⟩
theorem st_ext2 {a b c:AV} {l:List AV} {K:AV→Prop} (hk:K c):pExtract 2 (.tu (a :: b :: c :: l)) K:=⟨by simp,hk⟩
theorem bits_and_mod {x n:Nat} (hx:x<2 ^ 62) (hn:n<62):bitsOp .and .i64 (x:Int) ((2 ^ n - 1:Nat):Int)=((x % 2 ^ n:Nat):Int):=by
  have:2 ^ n≤2 ^ 61:=Nat.pow_le_pow_right (by omega) (by omega)
  rw [bits_and hx (by omega),Nat.and_two_pow_sub_one_eq_mod]
theorem wrap_u8_nat (x:Nat):IntKind.wrap .u8 (x:Int)=((x % 256:Nat):Int):=by
  have:IntKind.wrap .u8 (x:Int)=(x:Int) % 256:=by
    show (x:Int).emod (2 ^ 8)=_
    rfl
  rw [this] <;> rfl
theorem byte_mod (x:Nat):((x % 256:Nat):Int)=((UInt8.ofNat x).toNat:Int):=by
  rw [UInt8.toNat_ofNat']
end Go.GAM
namespace Go.GAM
open Go.RowKit
theorem st_shlI {a n:Int} {b:Nat} {K:Int→Prop} (hb:b≤64) (hn:a * 2 ^ b=n) (h0 : -9223372036854775808≤n) (h1:n<9223372036854775808) (hk:K n):pShl .i64 a b K:=by
  refine ⟨by omega, ?_⟩
  rw [Int.toNat_natCast,show IntKind.i64.bits=64 from rfl,Nat.min_eq_left hb,hn,wrap_i64 h0 h1]; exact hk
theorem st_shrI {a n:Int} {b:Nat} {K:Int→Prop} (hb:b≤64) (hn:a / ((2 ^ b:Nat):Int)=n) (hk:K n):pShr .i64 a b K:=by
  refine ⟨by omega, ?_⟩
  have h2:((2:Int) ^ b)=((2 ^ b:Nat):Int):=by simp
  rw [Int.toNat_natCast,show IntKind.i64.bits=64 from rfl,Nat.min_eq_left hb,h2,Int.fdiv_eq_ediv_of_nonneg _ (Int.natCast_nonneg _),hn]; exact hk
theorem wrap_ofInt (z:Int):IntKind.wrap .i64 ((BitVec.ofInt 64 z).toNat:Int)=IntKind.wrap .i64 z:=by
  have e1:(2:Int) ^ 64=18446744073709551616:=by decide
  have e2:(2:Int) ^ (64 - 1)=9223372036854775808:=by decide
  have e3:((2 ^ 64:Nat):Int)=18446744073709551616:=by decide
  rw [BitVec.toNat_ofInt,e3]
  simp only [IntKind.wrap,IntKind.bits,IntKind.signed,Bool.true_and,decide_eq_true_eq,e1,e2]
  rw [Int.toNat_of_nonneg (by omega),Int.emod_emod_of_dvd _ (Int.dvd_refl _)]
theorem or_low {a : Int} {c : Nat} (hc : c < 256) (h0 : -36028797018963968 ≤ a) (h1 : a < 36028797018963968) : bitsOp .or .i64 (a * 256) (c : Int) = a * 256 + c := by
  show IntKind.wrap .i64 (((BitVec.ofInt 64 (a * 256)) ||| (BitVec.ofInt 64 (c:Int))).toNat:Int)=_
  have hX:BitVec.ofInt 64 (a * 256)=BitVec.ofInt 64 a <<< 8:=by
    rw [BitVec.ofInt_mul,BitVec.shiftLeft_eq_mul_twoPow] <;> rfl
  have hand:BitVec.ofInt 64 (a * 256) &&& BitVec.ofInt 64 (c:Int)=0#64:=by
    rw [hX]
    apply BitVec.eq_of_getLsbD_eq
    intro i hi
    rw [BitVec.getLsbD_and,BitVec.getLsbD_shiftLeft]
    by_cases h8:i<8
    · simp [h8]
    · have : (BitVec.ofInt 64 (c : Int)).getLsbD i = false := by
        rw [BitVec.getLsbD,bits_nat (by omega)]
        apply Nat.testBit_lt_two_pow
        have:2 ^ 8≤2 ^ i:=Nat.pow_le_pow_right (by omega) (by omega)
        omega
      rw [this]; simp
  rw [← BitVec.add_eq_or_of_and_eq_zero _ _ hand, ← BitVec.ofInt_add,wrap_ofInt,wrap_i64 (by omega) (by omega)]
theorem wrap_u8_mod (z:Int):IntKind.wrap .u8 z=((UInt8.ofNat (z % 256).toNat).toNat:Int):=by
  rw [UInt8.toNat_ofNat']
  have:IntKind.wrap .u8 z=z % 256:=by
    show z.emod (2 ^ 8)=_
    rfl
  rw [this]; omega
theorem wrap_i8 (c:UInt8):IntKind.wrap .i8 (c.toNat:Int)=if c.toNat<128 then (c.toNat:Int) else (c.toNat:Int) - 256:=by
  have hc:=c.toNat_lt
  have e1:(2:Int) ^ 8=256:=by decide
  have e2:(2:Int) ^ (8 - 1)=128:=by decide
  simp only [IntKind.wrap,IntKind.bits,IntKind.signed,Bool.true_and,decide_eq_true_eq,e1,e2]
  split <;> split <;> omega
end Go.GAM
set_option linter.unusedSectionVars false
namespace Go.GAM
open Go.RowKit
section
variable {P:Program} {α:Type} [DecidableEq α]
def entsOf (κ:α→AV) (kv:List (α × AV)):List (AV × AV):=kv.map fun p=>(κ p.1,p.2)
def lkI:List (α × AV)→α→Nat→Option (Nat × AV)
  | [],_,_=>none
  | (k,v) :: r,x,i=>if x=k then some (i,v) else lkI r x (i+1)
def lkM (kv:List (α × AV)) (x:α):Option AV:=(lkI kv x 0).map (·.2)
def upM:List (α × AV)→α→AV→List (α × AV)
  | [],x,v=>[(x,v)]
  | (k,w) :: r,x,v=>if x=k then (k,v) :: r else (k,w) :: upM r x v
theorem lkI_snd (x:α):∀ (kv:List (α × AV)) (i j:Nat),(lkI kv x i).map (·.2)=(lkI kv x j).map (·.2)
  | [],_,_=>rfl
  | (k, v) :: r, i, j => by
    unfold lkI
    split
    · rfl
    · exact lkI_snd x r _ _
theorem lkM_cons (k:α) (v:AV) (r:List (α × AV)) (x:α):lkM ((k,v) :: r) x=if x=k then some v else lkM r x:=by
  unfold lkM
  rw [lkI]
  split
  · rfl
  · exact lkI_snd x r _ _
theorem lkM_up (x:α) (v:AV) (y:α):∀ kv:List (α × AV),lkM (upM kv x v) y=if y=x then some v else lkM kv y
  | []=>by rw [upM,lkM_cons]
  | (k, w) :: r => by
    unfold upM
    by_cases h:x=k
    · subst h
      rw [if_pos rfl,lkM_cons,lkM_cons]
      split <;> rfl
    · rw [if_neg h, lkM_cons, lkM_cons, lkM_up x v y r]
      by_cases hy:y=k
      · subst hy; rw [if_pos rfl,if_pos rfl,if_neg (fun e=>h e.symm)]
      · rw [if_neg hy,if_neg hy]
def KeyOK (P:Program) (kt:TypeId) (κ:α→AV):Prop:=∀ a b,aEq P 64 kt (κ a) (κ b)=some (decide (a=b))
theorem aFind_is {kt:TypeId} {κ:α→AV} (hκ:KeyOK P kt κ) (x:α):∀ (kv:List (α × AV)) (i:Nat),aFind P kt (κ x) (entsOf κ kv) i=some (lkI kv x i)
  | [],_=>rfl
  | (k, v) :: r, i => by
    have e:=aFind_is hκ x r (i+1)
    show aFind P kt (κ x) ((κ k,v) :: entsOf κ r) i=_
    rw [aFind]
    show (match aEq P 64 kt (κ x) (κ k) with
      | some true=>some (some (i,v))
      | some false=>aFind P kt (κ x) (entsOf κ r) (i+1)
      | none=>none)=_
    rw [hκ x k,lkI]
    by_cases h:x=k
    · rw [decide_eq_true h,if_pos h]
    · rw [decide_eq_false h,if_neg h]; exact e
def MapAt (κ:α→AV) (h:AHeap) (id:Nat) (kv:List (α × AV)):Prop:=h[id]? = some (mapBlk (entsOf κ kv))
theorem MapAt.lt {κ:α→AV} {h:AHeap} {id:Nat} {kv:List (α × AV)} (M:MapAt κ h id kv):id<h.length:=lt_of_some M
theorem MapAt.upd {κ:α→AV} {M:Nat→Prop} {h h':AHeap} {id:Nat} {kv:List (α × AV)} (A:MapAt κ h id kv) (U:Upd M h h') (hM:¬ M id):MapAt κ h' id kv:=(U.2 id A.lt hM).trans A
theorem st_makeMap (κ:α→AV) {h:AHeap} {K:AV→AHeap→Prop} (hk:∀ h',h'.length=h.length+1→Upd (fun _=>False) h h'→MapAt κ h' h.length []→K (.mp (some h.length)) h'):pMakeMap h K:=
  hk _ (by simp) (Upd.app _ _) (by unfold MapAt; simp [entsOf])
theorem st_lookup {κ:α→AV} {h:AHeap} {id:Nat} {kv:List (α × AV)} {kt el:TypeId} {x:α} {z:AV} {K:AV→Prop} (M:MapAt κ h id kv) (hκ:KeyOK P kt κ) (hv:keyV P kt (κ x)=true) (hz:zeroA P el=some z) (hk:K ((lkM kv x).getD z)):pLookup P kt el false (.mp (some id)) (κ x) h K:=by
  refine ⟨hv, ?_⟩
  have e:mapEs (.mp (some id)) h=some (entsOf κ kv):=by show (h[id]?).bind (·.mp)=_; rw [M] <;> rfl
  rw [e]
  simp only
  rw [aFind_is hκ]
  unfold lkM at hk
  cases hl:lkI kv x 0 with
  | none=>rw [hl] at hk; simp only; rw [hz]; exact hk
  | some p=>rw [hl] at hk; exact hk
theorem lkI_up {κ : α → AV} (x : α) (v : AV) : ∀ (kv : List (α × AV)) (i : Nat), match lkI kv x i with
    | none=>upM kv x v=kv++[(x,v)]
    | some (j,_)=>i≤j∧kv[j - i]?.map (·.1)=some x∧upM kv x v=kv.set (j - i) (x,v)
  | [],i=>rfl
  | (k, w) :: r, i => by
    have ih:=lkI_up (κ:=κ) x v r (i+1)
    rw [lkI]
    by_cases h:x=k
    · subst h
      rw [if_pos rfl]
      exact ⟨Nat.le_refl _,by simp,by simp [upM]⟩
    · rw [if_neg h]
      cases hl:lkI r x (i+1) with
      | none=>rw [hl] at ih; simp only at ih ⊢; rw [upM,if_neg h,ih] <;> rfl
      | some p =>
        obtain ⟨j,u1⟩:=p
        rw [hl] at ih
        simp only at ih ⊢
        obtain ⟨h1,h2,h3⟩:=ih
        obtain ⟨m,rfl⟩:∃ m,j=i+1+m:=⟨j - (i+1),by omega⟩
        rw [show i+1+m - (i+1)=m by omega] at h2 h3
        rw [show i+1+m - i=m+1 by omega,upM,if_neg h,h3]
        exact ⟨by omega,by simpa using h2,by simp⟩
theorem st_mapset {κ:α→AV} {h:AHeap} {id:Nat} {kv:List (α × AV)} {kt:TypeId} {x:α} {v:AV} {K:AHeap→Prop} (M:MapAt κ h id kv) (hκ:KeyOK P kt κ) (hv:keyV P kt (κ x)=true) (hp:kPure (κ x)=true)
    (hk:∀ h',h'.length=h.length→Upd (· = id) h h'→MapAt κ h' id (upM kv x v)→K h'):pMapSet P kt (.mp (some id)) (κ x) v h K:=by
  refine ⟨hv,hp,_,_,M,rfl, ?_⟩
  rw [aFind_is hκ]
  have hu:=lkI_up (κ:=κ) x v kv 0
  have fin:∀ es,es=entsOf κ (upM kv x v)→K (h.set id (mapBlk es)):=by
    rintro es rfl
    exact hk _ (by simp) (Upd.set _ _ _) (List.getElem?_set_self M.lt)
  cases hl:lkI kv x 0 with
  | none =>
    rw [hl] at hu
    exact fin _ (by simp only at hu; rw [hu]; simp [entsOf])
  | some p =>
    obtain ⟨j,u1⟩:=p
    rw [hl] at hu
    simp only [Nat.sub_zero] at hu
    obtain ⟨_,h2,h3⟩:=hu
    refine ⟨?_,fin _ (by rw [h3]; simp [entsOf,List.map_set])⟩
    obtain ⟨q,hq,hqx⟩:=Option.map_eq_some_iff.1 h2
    exact ⟨q.2,by unfold entsOf; rw [List.getElem?_map,hq]; simp [hqx]⟩
theorem keyOK_str {kt:TypeId} (hu:P.underlying kt=some .string):KeyOK P kt (fun l:List UInt8=>.s l):=fun a b=>by
  rw [aEq_str (d:=63) hu]
  show some (a == b)=_
  congr 1
  rw [Bool.eq_iff_iff]; simp
end
section
variable {P:Program}
end
end Go.GAM
namespace Go.GAM
def numAt (k:IntKind) (x:AV) (h:AHeap) (K:Int→Prop):Prop:=pLoad1 x h fun v=>asI k v K
def xLoad (k:IntKind) (args:List AV) (h:AHeap) (K:AV→AHeap→Prop):Prop:=
  match args with
  | [x]=>numAt k x h fun n=>K (.i k n) h
  | _=>False
def xStore (k:IntKind) (args:List AV) (h:AHeap) (K:AV→AHeap→Prop):Prop:=
  match args with
  | [x,.i k' n]=>k'=k∧pStore 1 x (.i k n) h fun h'=>K (.tu []) h'
  | _=>False
def xCas (k:IntKind) (args:List AV) (h:AHeap) (K:AV→AHeap→Prop):Prop:=
  match args with
  | [x,.i k1 o,.i k2 n]=>k1=k∧k2=k∧numAt k x h fun m=>m=o∧pStore 1 x (.i k n) h fun h'=>K (.b true) h'
  | _=>False
def xAdd (k:IntKind) (args:List AV) (h:AHeap) (K:AV→AHeap→Prop):Prop:=
  match args with
  | [x,.i k1 d]=>k1=k∧numAt k x h fun m=>pStore 1 x (.i k (k.wrap (m+d))) h fun h'=>K (.i k (k.wrap (m+d))) h'
  | _=>False
def xMark (args:List AV) (h:AHeap) (K:AV→AHeap→Prop):Prop:=
  match args with
  | []=>K (.tu []) h
  | [.p (some _)]=>K (.tu []) h
  | _=>False
def xSame (args:List AV) (h:AHeap) (K:AV→AHeap→Prop):Prop:=
  match args with
  | [x]=>K x h
  | _=>False
section
variable {P:Program} {w0:World} {Fz:Nat→Prop} {μ:Mu} {own:Nat→Option Nat} {h:AHeap} {w:World}
theorem ext_run' {f:FuncId} {fn:Func} {ex:Array Value→Sem Value} (hf:P.funcs[f]? = some fn) (hn:(fn.name == "runtime.NumGoroutine")=false) (hb:fn.body.isNone=true)
    (h1:Extern.findNext fn=none) (h2:Extern.find fn=some ex) {args:Array Value} {v:Value} {w w':World} (he:(ex args).run P w = .ok v w'):(callFunc f args).run P w = .ok (.value v) w':=by
  have hn':fn.name ≠ "runtime.NumGoroutine":=by simpa using hn
  have hb':fn.body=none:=by simpa using hb
  have hm:∀ (m:Mark) (k:Sem Unit) (w:World),Sem.run P (Sem.mark m k) w=Sem.run P k w:=fun _ _ _=>rfl
  unfold callFunc
  simp [go_sem,hf,hn',hb',h1,h2,mark,hm,he]
def ExtOK (P : Program) (ex : Array Value → Sem Value) (X : List AV → AHeap → (AV → AHeap → Prop) → Prop) : Prop :=
  ∀ (w0 : World) (Fz : Nat → Prop) (μ : Mu) (own : Nat → Option Nat) (h : AHeap) (w : World) (args : List AV) (cargs : List Value) (K : AV → AHeap → Prop), Rel w0 Fz μ own h w → VRels μ args cargs → X args h K →
    ∃ cv w',(ex cargs.toArray).run P w = .ok cv w'∧PostOf w0 Fz μ K cv w'
structure ExtAt (P:Program) (f:FuncId) (ex:Array Value→Sem Value):Prop where
  is:∃ fn,P.funcs[f]? = some fn∧(fn.name == "runtime.NumGoroutine")=false∧fn.body.isNone=true∧Extern.findNext fn=none∧Extern.find fn=some ex
theorem ExtAt.sim {f:FuncId} {ex:Array Value→Sem Value} {X:List AV→AHeap→(AV→AHeap→Prop)→Prop} (A:ExtAt P f ex) (E:ExtOK P ex X) (hlt:f<yid0) {μb:Mu} {args:List AV} {h:AHeap} {K:AV→AHeap→Prop} (hk:X args h K):SimAt P w0 Fz μb f args h K:=by
  intro μ own w cargs hsb R hc
  rw [if_pos hlt]
  obtain ⟨fn,h1,h2,h3,h4,h5⟩:=A.is
  obtain ⟨cv,w',e1,e2⟩:=E w0 Fz μ own h w args cargs K R hc hk
  exact .inr ⟨cv,w',ext_run' h1 h2 h3 h4 h5 e1,e2⟩
theorem store_at (R:Rel w0 Fz μ own h w) {x:AV} {cx:Value} {k:IntKind} {n:Int} {K:AHeap→Prop} (hx:VRel μ x cx) (hk:pStore 1 x (.i k n) h K) :
    ∃ ad h' w',cx = .pointer (some ad)∧K h'∧Rel w0 Fz μ own h' w'∧w.frozen? ad=false∧(∃ c el fr,w.heap[ad.block]? = some (.cells c el fr))∧∀ m,(store ad (.int k n) m).run P w = .ok () w':=by
  cases hx <;> first | exact hk.elim | skip
  rename_i a l o hl ho
  subst ho
  obtain ⟨b,hb,hro,hfv,hver,hoff,hso,hlen,hok,hk⟩:=hk
  have hlv:b.floor≤b.cells.length:=by omega
  rw [hver] at hl
  have hk0:=R.cur hb hlv hl
  have hroom:=R.room hk0 hro (off:=a.off) (n:=1) (by have:=hk0.len; omega)
  have hc:=hroom.1 0 (by omega)
  have hf:=hroom.2 0 (by omega)
  simp only [Nat.add_zero] at hc hf
  obtain ⟨c,el,fr,hrow,_⟩:=hk0.row
  refine ⟨_,_,w.setCell ⟨l.B,l.base+a.off,none⟩ (.int k n),rfl,hk,R.write hb hlv hk0 hro (.cons _ _ _ _ (.i k n) .nil) (off:=a.off) (by simp; omega),hf,⟨c,el,fr,hrow⟩,fun m=>?_⟩
  obtain ⟨v,hv⟩:=Option.isSome_iff_exists.1 hc
  simp [go_sem,stored,hv,hf]
theorem num_at (R : Rel w0 Fz μ own h w) {x : AV} {cx : Value} {k : IntKind} {K : Int → Prop} (hx : VRel μ x cx) (hk : numAt k x h K) :
    ∃ ad n,cx = .pointer (some ad)∧K n∧w.cell? ad=some (.int k n):=by
  unfold numAt at hk
  cases hx <;> first | exact hk.elim | skip
  rename_i a l o hl ho
  subst ho
  obtain ⟨b,hb,hr,hK⟩:=hk
  obtain ⟨cv,hcv,hv⟩:=R.read hb hr hl 0 (by omega)
  simp only [Nat.add_zero] at hcv hv
  generalize b.cells.getD a.off .u=v at *
  unfold asI at hK
  split at hK
  · rename_i k' n
    cases hkk:kEq k k' with
    | false=>rw [hkk] at hK; exact hK.elim
    | true =>
      rw [hkk] at hK
      have:k=k':=by
        unfold kEq at hkk
        have:=Nat.eq_of_beq_eq_true hkk
        cases k <;> cases k' <;> first | rfl | simp [kc] at this
      subst this
      cases hv
      exact ⟨_,n,rfl,hK,hcv⟩
  · exact hK.elim
theorem ext_load (k:IntKind):ExtOK P (Extern.Atomic.loadT (.int k)) (xLoad k):=by
  intro w0 Fz μ own h w args cargs K R hc hk
  unfold xLoad at hk
  split at hk
  · rename_i x
    cases hc with | cons _ _ _ _ hx t=>
    cases t
    obtain ⟨ad,n,rfl,hK,hcell⟩:=num_at R hx hk
    refine ⟨.int k n,w, ?_,_,μ,own,h,hK,.i k n,R,Sub.refl _⟩
    have hd:Extern.Atomic.loadT (.int k) #[.pointer (some ad)]=Extern.Atomic.read (.int k) ad:=rfl
    show (Extern.Atomic.loadT (.int k) #[.pointer (some ad)]).run P w=_
    rw [hd]
    simp [Extern.Atomic.read,hcell]
  · exact hk.elim
theorem ext_store (k:IntKind):ExtOK P Extern.Atomic.storeT (xStore k):=by
  intro w0 Fz μ own h w args cargs K R hc hk
  unfold xStore at hk
  split at hk
  · rename_i x k' n
    obtain ⟨rfl,hk⟩:=hk
    cases hc with | cons _ _ _ _ hx t=>
    cases t with | cons _ _ _ _ hn t=>
    cases t
    cases hn
    obtain ⟨ad,h',w',rfl,hK,R',hf,_,hrun⟩:=store_at (P:=P) R hx hk
    refine ⟨.tuple #[],w', ?_,_,μ,own,h',hK,.tu [] #[] .nil,R',Sub.refl _⟩
    show (Extern.Atomic.storeT #[.pointer (some ad),.int k' n]).run P w=_
    have hd:Extern.Atomic.storeT #[.pointer (some ad),.int k' n]=(do store ad (.int k' n) .atomic; pure Extern.Atomic.none_):=rfl
    rw [hd]
    simp only [Sem.run_bind,hrun .atomic]
    rfl
  · exact hk.elim
theorem ext_cas (k : IntKind) : ExtOK P (Extern.Atomic.casT (.int k)) (xCas k) := by
  intro w0 Fz μ own h w args cargs K R hc hk
  unfold xCas at hk
  split at hk
  · rename_i x k1 o k2 n
    obtain ⟨rfl,rfl,hk⟩:=hk
    cases hc with | cons _ _ _ _ hx t=>
    cases t with | cons _ _ _ _ ho t=>
    cases t with | cons _ _ _ _ hn t=>
    cases t
    cases ho; cases hn
    obtain ⟨ad,m,rfl,hq,hcell⟩:=num_at R hx hk
    obtain ⟨rfl,hk2⟩:=hq
    obtain ⟨ad',h',w',he,hK,R',hf,⟨c,el,fr,hrow⟩,hrun⟩:=store_at (P:=P) R hx hk2
    cases he
    refine ⟨.bool true,w', ?_,_,μ,own,h',hK,.b true,R',Sub.refl _⟩
    show (Extern.Atomic.casT (.int k2) #[.pointer (some ad),.int k2 m,.int k2 n]).run P w=_
    have hd:Extern.Atomic.casT (.int k2) #[.pointer (some ad),.int k2 m,.int k2 n]=(do
      let a ← asAddr (.pointer (some ad))
      if ← Extern.Atomic.touchesFrozen a then unsupported (.unsafePointer "a write to bytes that a string shares")
      let eq ← match Extern.Atomic.T.int k2, ← Extern.Atomic.read (.int k2) a,Value.int k2 m with
        | _,.int _ x,.int _ y=>pure (x == y)
        | .ptr,.pointer x,.pointer y=>samePointer x y
        | .int _,.pointer (some _),.int _ 0 | .int _,.int _ 0,.pointer (some _)=>pure false
        | .int _,.pointer (some _),_ | .int _,_,.pointer (some _)=>unsupported .addressObserved
        | _,_,_=>stuck "atomic.CompareAndSwap: old is no T"
      if eq then store a (.int k2 n) .atomic
      pure (.bool eq)):=rfl
    rw [hd]
    have hsh:w.shape? ad.block=some (el,c.size):=by simp [World.shape?,hrow]
    simp [asAddr,Extern.Atomic.touchesFrozen,viewAt,hsh,hf,Extern.Atomic.read,hcell,hrun .atomic]
  · exact hk.elim
theorem ext_add (k:IntKind):ExtOK P (Extern.Atomic.update (Op.intArith .add) k true) (xAdd k):=by
  intro w0 Fz μ own h w args cargs K R hc hk
  unfold xAdd at hk
  split at hk
  · rename_i x k1 d
    obtain ⟨rfl,hk⟩:=hk
    cases hc with | cons _ _ _ _ hx t=>
    cases t with | cons _ _ _ _ hn t=>
    cases t
    cases hn
    obtain ⟨ad,m,rfl,hk2,hcell⟩:=num_at R hx hk
    obtain ⟨ad',h',w',he,hK,R',hf,_,hrun⟩:=store_at (P:=P) R hx hk2
    cases he
    refine ⟨.int k1 (k1.wrap (m+d)),w', ?_,_,μ,own,h',hK,.i _ _,R',Sub.refl _⟩
    show (Extern.Atomic.update (Op.intArith .add) k1 true #[.pointer (some ad),.int k1 d]).run P w=_
    have hd:Extern.Atomic.update (Op.intArith .add) k1 true #[.pointer (some ad),.int k1 d]=(do
      let a ← asAddr (.pointer (some ad))
      let old ← Extern.Atomic.read (.int k1) a
      let new ← Op.intArith .add k1 (← asInt old) (← asInt (.int k1 d))
      store a new .atomic
      pure (if true then new else old)):=rfl
    rw [hd]
    simp [asAddr,asInt,asIntOf,Extern.Atomic.read,hcell,Op.intArith,hrun .atomic]
  · exact hk.elim
theorem ext_marked (m:Addr→Mark):ExtOK P (Extern.Race.marked m) (fun args h K=>match args with | [.p (some _)]=>K (.tu []) h | _=>False):=by
  intro w0 Fz μ own h w args cargs K R hc hk
  split at hk
  · rename_i a
    cases hc with | cons _ _ _ _ hx t=>
    cases t
    cases hx with | p _ l o hl ho=>
    exact ⟨.tuple #[],w,rfl,_,μ,own,h,hk,.tu [] #[] .nil,R,Sub.refl _⟩
  · exact hk.elim
theorem ext_mark0 (m:Mark):ExtOK P (fun _=>do mark m; pure Extern.Race.none_) (fun args h K=>match args with | []=>K (.tu []) h | _=>False):=by
  intro w0 Fz μ own h w args cargs K R hc hk
  split at hk
  · cases hc
    exact ⟨.tuple #[],w,rfl,_,μ,own,h,hk,.tu [] #[] .nil,R,Sub.refl _⟩
  · exact hk.elim
theorem ext_same:ExtOK P Extern.AbiNoEscape.same xSame:=by
  intro w0 Fz μ own h w args cargs K R hc hk
  unfold xSame at hk
  split at hk
  · rename_i x
    cases hc with | cons _ v _ _ hx t=>
    cases t
    exact ⟨v,w,rfl,_,μ,own,h,hk,hx,R,Sub.refl _⟩
  · exact hk.elim
end
end Go.GAM
namespace Go.GAM
def TBuf (E:TypeId) (h:AHeap) (v:AV) (l:List UInt8):Prop:=
  (v = .sl none 0 none∧l=[])∨∃ id b,v = .sl (some ⟨id,l.length,0⟩) l.length none∧h[id]? = some b∧b.cells=l.map byteAV∧b.sz=1∧b.floor≤l.length∧b.ro=false∧b.ex=false∧b.gl=false∧b.ty=some E∧l≠[]
theorem TBuf.upd {E:TypeId} {M:Nat→Prop} {h h':AHeap} {v:AV} {l:List UInt8} (B:TBuf E h v l) (U:Upd M h h') (hM:∀ i,SlAt v i→¬ M i):TBuf E h' v l:=by
  rcases B with B | ⟨id,b,rfl,h1,h2⟩
  · exact .inl B
  · exact .inr ⟨id,b,rfl,(U.2 id (lt_of_some h1) (hM id rfl)).trans h1,h2⟩
theorem TBuf.append {E:TypeId} {h:AHeap} {v x:AV} {l t:List UInt8} (B:TBuf E h v l) (hx:∀ K:List AV→Nat→Prop,K (t.map byteAV) t.length→newsOf 1 x h K) (hlen:l.length+t.length≤140737488355328) {K:AV→AHeap→Prop}
    (hk:∀ v' h',Upd (SlAt v) h h'→TBuf E h' v' (l++t)→(∀ i,SlAt v' i→SlAt v i∨h.length≤i)→K v' h'):pAppend (some E) 1 1 v x h K:=by
  refine ⟨by decide,hx _ ?_⟩
  have hok:(t.map byteAV).all AV.cellOK=true:=by
    rw [List.all_eq_true]; intro x hx
    obtain ⟨c,_,rfl⟩:=List.mem_map.1 hx
    rfl
  rcases B with ⟨rfl,rfl⟩ | ⟨id,b,rfl,h1,h2,h3,h4,h5,h6,h7,h8,h9⟩
  · refine ⟨by simp only [List.length_nil] at hlen; omega, by simp only [List.length_nil] at hlen; omega, ?_⟩
    by_cases ht:t=[]
    · subst ht
      show K (.sl none 0 none) h
      exact hk _ _ (Upd.refl _ _) (.inl ⟨rfl,rfl⟩) fun i hi=>.inl hi
    · have htl : t.length ≠ 0 := by simpa using ht
      rw [if_neg htl]
      refine hk _ _ ((Upd.app _ _).mono fun _ _ h=>h.elim) (.inr ⟨h.length,newBlk (t.map byteAV) 1 false (some E),by simp,by simp,rfl,rfl,by simp [newBlk],rfl,rfl,rfl,rfl,by simpa using ht⟩) fun i hi=>.inr ?_
      cases hi; exact Nat.le_refl _
  · have hidl := lt_of_some h1
    have hbl:b.cells.length=l.length:=by rw [h2]; simp
    have hll:0<l.length:=List.length_pos_iff.2 h9
    refine ⟨by omega,by omega,b,h1,h3,⟨h4,by rw [hbl]; exact Nat.le_refl _,by simp⟩, ?_⟩
    by_cases ht:t=[]
    · subst ht
      left
      exact ⟨rfl,hk _ _ (Upd.refl _ _) (.inr ⟨id,b,by simp,h1,by simpa using h2,h3,by simpa using h4,h5,h6,h7,h8,by simpa using h9⟩) fun i hi=>.inl hi⟩
    · have htl : 0 < t.length := List.length_pos_iff.2 ht
      right; right; right; left
      refine ⟨htl,h5,hbl.symm,rfl,by rw [hbl]; simp,rfl,h6,h7,hok, ?_⟩
      have hty:sameTy b.ty (some E)=some E:=by rw [h8]; simp [sameTy]
      refine hk _ _ ((Upd.set _ _ _).mono fun i _ h=>h.symm) (.inr ⟨id,{ b with cells:=b.cells++t.map byteAV,ty:=sameTy b.ty (some E) },by simp [hbl],List.getElem?_set_self hidl,by simp [h2],h3,by simp; omega,h5,h6,h7,hty,by simp [h9]⟩) fun i hi=>.inl ?_
      exact hi
structure BldAt (P:Program) (T E:TypeId) (h:AHeap) (id off:Nat) (cs:List AV) (buf:AV) (l:List UInt8):Prop where
  blk:∃ b t,h[id]? = some b∧b.cells=cs∧b.floor≤cs.length∧b.ro=false∧b.ty=some t∧liesAt P P.depth t (cs.length / P.cellsOf t) off T 1=true
  room:off+1<cs.length
  addr:cs[off]? = some (.p none)∨cs[off]? = some (.p (some ⟨id,cs.length,off⟩))
  cell:cs[off+1]? = some buf
  is:TBuf E h buf l
  own:¬ SlAt buf id
section
variable {P:Program} {T E:TypeId} {h:AHeap} {id off:Nat} {cs:List AV} {buf:AV} {l:List UInt8}
theorem BldAt.rec' (B:BldAt P T E h id off cs buf l):RecAt h id cs:=by
  obtain ⟨b,t,h1,h2,h3,h4,_⟩:=B.blk
  exact ⟨b,h1,h2,h3,h4⟩
theorem BldAt.lt (B:BldAt P T E h id off cs buf l):id<h.length:=B.rec'.lt
theorem BldAt.upd {M:Nat→Prop} {h':AHeap} (B:BldAt P T E h id off cs buf l) (U:Upd M h h') (h1:¬ M id) (h2:∀ i,SlAt buf i→¬ M i):BldAt P T E h' id off cs buf l:=by
  have hl:=B.lt
  obtain ⟨b,t,g1,g2⟩:=B.blk
  exact ⟨⟨b,t,(U.2 id hl h1).trans g1,g2⟩,B.room,B.addr,B.cell,B.is.upd U h2,B.own⟩
theorem BldAt.store {v:AV} {o:Nat} {K:AHeap→Prop} (B:BldAt P T E h id off cs buf l) (ho:o<cs.length) (hv:v.parts=[v]) (hs:v.sizeOK=true) (hc:v.cellOK=true)
    {buf':AV} {l':List UInt8} (ha:(cs.set o v)[off]? = some (.p none)∨(cs.set o v)[off]? = some (.p (some ⟨id,cs.length,off⟩))) (hb:(cs.set o v)[off+1]? = some buf') (hi:TBuf E h buf' l') (hn:¬ SlAt buf' id)
    (hk:∀ h',h'.length=h.length→Upd (· = id) h h'→BldAt P T E h' id off (cs.set o v) buf' l'→K h'):pStore 1 (.p (some ⟨id,cs.length,o⟩)) v h K:=by
  have hl:=B.lt
  obtain ⟨b,t,h1,rfl,h3,h4,h5,h6⟩:=B.blk
  refine ⟨b,h1,h4,h3,rfl,(by show o+1≤b.cells.length; omega),hs,by rw [hv] <;> rfl,by rw [hv]; simp [hc], ?_⟩
  have hU:Upd (· = id) h (h.set id { b with cells:=wr b.cells o v.parts,floor:=b.cells.length }):=Upd.set _ _ _
  refine hk _ (by simp) hU ⟨⟨_,t,List.getElem?_set_self hl, ?_, ?_,h4,h5,by simpa using h6⟩,by simpa using B.room,by simpa using ha,hb,hi.upd hU fun i hi hid=>hn (hid ▸ hi),hn⟩
  · rw [hv] <;> rfl
  · simp
theorem BldAt.put {h3:AHeap} {v:AV} {l':List UInt8} {K:AHeap→Prop} (B:BldAt P T E h id off cs buf l) (U:Upd (SlAt buf) h h3) (hi:TBuf E h3 v l') (hn:¬ SlAt v id)
    (hk:∀ h',h'.length=h3.length→Upd (· = id) h3 h'→BldAt P T E h' id off (cs.set (off+1) v) v l'→K h'):pStore 1 (.p (some ⟨id,cs.length,off+1⟩)) v h3 K:=by
  have hl:=B.lt
  have hr:=B.room
  have hv:v.parts=[v]∧v.sizeOK=true∧v.cellOK=true:=by
    rcases hi with ⟨rfl,_⟩ | ⟨_,_,rfl,_⟩ <;> exact ⟨rfl,rfl,rfl⟩
  obtain ⟨b,t,h1,rfl,h3',h4,h5,h6⟩:=B.blk
  have g1:h3[id]? = some b:=(U.2 id hl B.own).trans h1
  refine ⟨b,g1,h4,h3',rfl,(by show off+1+1≤b.cells.length; omega),hv.2.1,by rw [hv.1] <;> rfl,by rw [hv.1]; simp [hv.2.2], ?_⟩
  have hU:Upd (· = id) h3 (h3.set id { b with cells:=wr b.cells (off+1) v.parts,floor:=b.cells.length }):=Upd.set _ _ _
  have e:wr b.cells (off+1) v.parts=b.cells.set (off+1) v:=by rw [hv.1] <;> rfl
  refine hk _ (by simp) hU ⟨⟨_,t,List.getElem?_set_self (lt_of_some g1),e, ?_,h4,h5,by simpa using h6⟩,by simpa using hr, ?_,List.getElem?_set_self hr,hi.upd hU fun i hi hid=>hn (hid ▸ hi),hn⟩
  · simp
  · rw [List.getElem?_set_ne (by omega),List.length_set]; exact B.addr
theorem st_unsafe {n o:Nat} {K:AV→Prop} (R:RecAt h id cs) (hn:n=cs.length) (ho:o<cs.length) (hk:K (.p (some ⟨id,n,o⟩))):pUnsafe (.p (some ⟨id,n,o⟩)) h K:=by
  obtain ⟨b,h1,rfl,h3,h4⟩:=R
  subst hn
  exact ⟨b,h1,⟨h3,Nat.le_refl _,ho⟩,hk⟩
theorem BldAt.fromUnsafe {K:AV→Prop} (B:BldAt P T E h id off cs buf l) (hk:K (.p (some ⟨id,cs.length,off⟩))):pFromUnsafe P T (.p (some ⟨id,cs.length,off⟩)) h K:=by
  obtain ⟨b,t,h1,rfl,h3,h4,h5,h6⟩:=B.blk
  exact ⟨b,t,h1,h5,h3,rfl,h6,hk⟩
theorem st_nilEq {t:TypeId} {K:AV→Prop} (ht:isPtr P t=true) (hk:K (.b true)):pBin P .eql t (.p none) (.p none) K:=by
  simp only [pBin,ht,cond_true]; exact hk
theorem st_someEq {t:TypeId} {a:AA} {K:AV→Prop} (ht:isPtr P t=true) (hk:K (.b false)):pBin P .eql t (.p (some a)) (.p none) K:=by
  simp only [pBin,ht,cond_true]; exact hk
theorem st_selfNe {t:TypeId} {a:AA} {K:AV→Prop} (ht:isPtrI P t=true) (hk:K (.b false)):pBin P .neq t (.p (some a)) (.p (some a)) K:=by
  simp only [pBin,ht,Nat.beq_refl,Bool.and_self,cond_true]; exact hk
def bufPtr (v:AV):AV:=match v with | .sl (some a) _ _=>.p (some a) | _=>.p none
theorem TBuf.data {v:AV} {l:List UInt8} {K:AV→AHeap→Prop} (B:TBuf E h v l) (hk:K (bufPtr v) h):pSliceData v h K:=by
  rcases B with ⟨rfl,rfl⟩ | ⟨id,b,rfl,h1,h2,h3,h4,h5,h6,h7,h8,h9⟩
  · exact hk
  · exact ⟨List.length_pos_iff.2 h9,hk⟩
theorem TBuf.text {v : AV} {l : List UInt8} {K : AV → AHeap → Prop} (B : TBuf E h v l) (hE : P.underlying E = some (.int .u8)) (hc : P.cellsOf E = 1) (hl : l.length ≤ 9223372036854775807) (hk : ∀ h', h'.length = h.length → Upd (SlAt v) h h' → K (.s l) h') :
    pUString P (bufPtr v) (.i .i64 (l.length:Int)) h K:=by
  rcases B with ⟨rfl,rfl⟩ | ⟨id,b,rfl,h1,h2,h3,h4,h5,h6,h7,h8,h9⟩
  · exact ⟨rfl,hk _ rfl (Upd.refl _ _)⟩
  · have hpos := List.length_pos_iff.2 h9
    have hbl:b.cells.length=l.length:=by rw [h2]; simp
    have e:(b.cells.drop 0).take l.length=l.map byteAV:=by rw [List.drop_zero,List.take_of_length_le (by omega),h2]
    refine ⟨b,E,h1,h8,hE,hc,by omega,by omega,h5,by omega,hbl.symm,by simp [hbl], ?_, ?_⟩
    · simp only [Int.toNat_natCast, e]
      rw [List.all_eq_true]; intro x hx
      obtain ⟨c,_,rfl⟩:=List.mem_map.1 hx
      rfl
    · simp only [Int.toNat_natCast, e]
      have:(l.map byteAV).map toByte=l:=by
        rw [List.map_map]
        conv=>rhs; rw [← List.map_id l]
        refine List.map_congr_left fun c _=>?_
        simp [byteAV,toByte]
      rw [this]
      exact hk _ (by simp) ((Upd.set _ _ _).mono fun i _ h=>h.symm)
end
end Go.GAM
namespace Go.GAM
abbrev CallX:=List AV→AHeap→(AV→AHeap→Prop)→Prop
def xIndexByte:CallX:=fun args h K=>∃ (l:List UInt8) (c:UInt8),args=[.s l,.i .u8 (c.toNat:Int)]∧K (.i .i64 (Lib.indexByte l c)) h
def xCount:CallX:=fun args h K=>∃ (l:List UInt8) (c:UInt8),args=[.s l,.i .u8 (c.toNat:Int)]∧K (.i .i64 (Lib.countByte l c:Nat)) h
def xMark0:CallX:=fun args h K=>match args with | []=>K (.tu []) h | _=>False
def xMark1:CallX:=fun args h K=>match args with | [.p (some _)]=>K (.tu []) h | _=>False
def tabX (T:List (FuncId × CallX)):CallR:=fun f args h K=>∃ X,(f,X)∈T∧X args h K
section
variable {P:Program} {w0:World} {Fz:Nat→Prop} {μ:Mu} {own:Nat→Option Nat} {h:AHeap} {w:World}
theorem two_args' {μ:Mu} {l:List UInt8} {n:Int} {cargs:List Value} (h:VRels μ [.s l,.i .u8 n] cargs):∃ x:ByteArray,x.data.toList=l∧cargs=[.string x,.int .u8 n]:=by
  cases h with
  | cons _ _ _ _ a t =>
    cases t with
    | cons _ _ _ _ b t2 =>
      cases t2; cases b
      cases a with
      | s _ x hx=>exact ⟨x,hx,rfl⟩
theorem ext_indexByte:ExtOK P Extern.BytealgIndexByte.indexByte xIndexByte:=by
  rintro w0 Fz μ own h w args cargs K R hc ⟨l,c,rfl,hk⟩
  obtain ⟨x,rfl,rfl⟩:=two_args' hc
  refine ⟨_,w,Lib.run_indexByteString x c.toNat w,_,μ,own,h, ?_,.i _ _,R,Sub.refl _⟩
  have:((c.toNat:Int).toNat).toUInt8=c:=by simp
  rw [this]; exact hk
theorem ext_count:ExtOK P Extern.BytealgCount.count xCount:=by
  rintro w0 Fz μ own h w args cargs K R hc ⟨l,c,rfl,hk⟩
  obtain ⟨x,rfl,rfl⟩:=two_args' hc
  refine ⟨_,w,Lib.run_countString x c.toNat w,_,μ,own,h, ?_,.i _ _,R,Sub.refl _⟩
  have:((c.toNat:Int).toNat).toUInt8=c:=by simp
  rw [this]; exact hk
def RowX (P:Program) (r:FuncId × CallX):Prop:=r.1<yid0∧∃ ex,ExtAt P r.1 ex∧ExtOK P ex r.2
theorem tabX_sound {T:List (FuncId × CallX)} (hT:∀ r∈T,RowX P r):Sound P (tabX T):=by
  rintro w0 Fz μb f args h K ⟨X,hm,hk⟩
  obtain ⟨hlt,ex,hA,hE⟩:=hT _ hm
  exact hA.sim hE hlt hk
theorem tabX_c {T:List (FuncId × CallX)} {X:CallX} {f:FuncId} {args:List AV} {K:AV→AHeap→Prop} (hm:(f,X)∈T) (hk:X args h K):tabX T f args h K:=⟨X,hm,hk⟩
theorem inv_c {P:Program} {R:CallR} {t:TypeId} {v:AV} {name:String} {f:FuncId} {args:List AV} {K:AV→AHeap→Prop} (hf:invF P t name=some f) (hlt:Nat.blt f yid0=true) (hk:R f (v :: args) h K):pInvoke P R (.ifc t v) name args h K:=by
  simp only [pInvoke,hf]
  unfold pCall
  rw [hlt]; exact hk
end
open Go.RowKit in
theorem law_callsAt {P:Program} {X:CallR} (hm:P.follows .mixedOrders=true) (hsz:P.funcs.size≤yid0) {w:World} (hX:SoundAt P w (fun B=>B<w.heap.size) (fun _ _=>none) X) {f:FuncId} (hb:bodyOK P f=true) {szOf:Nat→Nat} {avs:List AV} {args:Array Value}
    (hv:VRels (muC w szOf) avs args.toList) (hk:acall P X f avs (heapC w szOf) Yes):Calls P f args w fun e w'=>e = .returned (.bool true)∧Below w.heap.size w w':=by
  have hlt:f<yid0:=by
    unfold bodyOK at hb
    split at hb
    · rename_i fn hf; exact Nat.lt_of_lt_of_le (Array.getElem?_eq_some_iff.1 hf).1 hsz
    · cases hb
  have hs:=acall_soundAt hm hsz hX f avs _ _ hk (muC w szOf) (ownC w) w args.toList (fun _ _ _ h=>by cases h) (canon_rel w szOf) hv
  rw [if_pos hlt] at hs
  have hrun:=bodyOK_run hb args w
  rcases hs with ⟨g,as',h1,h2⟩ | ⟨v,w',h1,h2⟩
  · rw [Array.toArray_toList, hrun] at h1
    cases h1
    refine h2.mono fun e w' ⟨v,he,v',μ',own',h',g1,g2,g3,g4⟩=>?_
    subst he
    have g1:v' = .b true:=g1
    subst g1
    cases g2
    exact ⟨rfl,g3.os,g3.tape,g3.output,g3.size0,fun k hk=>(g3.fz k hk).2⟩
  · rw [Array.toArray_toList,hrun] at h1; cases h1
end Go.GAM
set_option maxRecDepth 20000
namespace Go.Proofs.YtcdkpkkdolmfdaaGreatDoor
open Go.GAM
theorem mixedOK:prog.follows .mixedOrders=true:=by kernel_rfl
theorem sizeOK:prog.funcs.size≤yid0:=Nat.le_of_ble_eq_true (by kernel_rfl)
noncomputable def fnOf (f:FuncId):Func:=(prog.funcs[f]?).getD default
def extT:List (FuncId × CallX):=[(Y83.id,xIndexByte),(Y82.id,xCount),(Y87.id,xSame),(Y80.id,xMark0),(Y79.id,xMark0),(Y89.id,xMark1),(Y84.id,xMark1),(Y85.id,xLoad .u32),(Y86.id,xStore .u32),(Y90.id,xCas .i32),(Y91.id,xAdd .i32)]
theorem extT_ok:∀ r∈extT,RowX prog r:=by
  intro r hr
  simp only [extT,List.mem_cons,List.not_mem_nil,or_false] at hr
  rcases hr with rfl | rfl | rfl | rfl | rfl | rfl | rfl | rfl | rfl | rfl | rfl
  · exact ⟨by decide,_,⟨⟨fnOf Y83.id,by kernel_rfl,by kernel_rfl,by kernel_rfl,by kernel_rfl,by kernel_rfl⟩⟩,ext_indexByte⟩
  · exact ⟨by decide,_,⟨⟨fnOf Y82.id,by kernel_rfl,by kernel_rfl,by kernel_rfl,by kernel_rfl,by kernel_rfl⟩⟩,ext_count⟩
  · exact ⟨by decide,_,⟨⟨fnOf Y87.id,by kernel_rfl,by kernel_rfl,by kernel_rfl,by kernel_rfl,by kernel_rfl⟩⟩,ext_same⟩
  · exact ⟨by decide,_,⟨⟨fnOf Y80.id,by kernel_rfl,by kernel_rfl,by kernel_rfl,by kernel_rfl,by kernel_rfl⟩⟩,ext_mark0 .disable⟩
  · exact ⟨by decide,_,⟨⟨fnOf Y79.id,by kernel_rfl,by kernel_rfl,by kernel_rfl,by kernel_rfl,by kernel_rfl⟩⟩,ext_mark0 .enable⟩
  · exact ⟨by decide,_,⟨⟨fnOf Y89.id,by kernel_rfl,by kernel_rfl,by kernel_rfl,by kernel_rfl,by kernel_rfl⟩⟩,ext_marked .acquire⟩
  · exact ⟨by decide,_,⟨⟨fnOf Y84.id,by kernel_rfl,by kernel_rfl,by kernel_rfl,by kernel_rfl,by kernel_rfl⟩⟩,ext_marked .releaseMerge⟩
  · exact ⟨by decide,_,⟨⟨fnOf Y85.id,by kernel_rfl,by kernel_rfl,by kernel_rfl,by kernel_rfl,by kernel_rfl⟩⟩,ext_load .u32⟩
  · exact ⟨by decide,_,⟨⟨fnOf Y86.id,by kernel_rfl,by kernel_rfl,by kernel_rfl,by kernel_rfl,by kernel_rfl⟩⟩,ext_store .u32⟩
  · exact ⟨by decide,_,⟨⟨fnOf Y90.id,by kernel_rfl,by kernel_rfl,by kernel_rfl,by kernel_rfl,by kernel_rfl⟩⟩,ext_cas .i32⟩
  · exact ⟨by decide,_,⟨⟨fnOf Y91.id,by kernel_rfl,by kernel_rfl,by kernel_rfl,by kernel_rfl,by kernel_rfl⟩⟩,ext_add .i32⟩
theorem base_sound:Sound prog (tabX extT):=tabX_sound extT_ok
theorem Y83.row:(Y83.id,xIndexByte)∈extT:=by simp only [extT,List.mem_cons,true_or,or_true]
theorem Y82.row:(Y82.id,xCount)∈extT:=by simp only [extT,List.mem_cons,true_or,or_true]
theorem Y87.row:(Y87.id,xSame)∈extT:=by simp only [extT,List.mem_cons,true_or,or_true]
theorem Y80.row:(Y80.id,xMark0)∈extT:=by simp only [extT,List.mem_cons,true_or,or_true]
theorem Y79.row:(Y79.id,xMark0)∈extT:=by simp only [extT,List.mem_cons,true_or,or_true]
theorem Y89.row:(Y89.id,xMark1)∈extT:=by simp only [extT,List.mem_cons,true_or,or_true]
theorem Y84.row:(Y84.id,xMark1)∈extT:=by simp only [extT,List.mem_cons,true_or,or_true]
theorem Y85.row:(Y85.id,xLoad .u32)∈extT:=by simp only [extT,List.mem_cons,true_or,or_true]
theorem Y86.row:(Y86.id,xStore .u32)∈extT:=by simp only [extT,List.mem_cons,true_or,or_true]
theorem Y90.row:(Y90.id,xCas .i32)∈extT:=by simp only [extT,List.mem_cons,true_or,or_true]
theorem Y91.row:(Y91.id,xAdd .i32)∈extT:=by simp only [extT,List.mem_cons,true_or,or_true]
end Go.Proofs.YtcdkpkkdolmfdaaGreatDoor
namespace Go.Proofs.YtcdkpkkdolmfdaaGreatDoor
open Go.GAM
@[reducible] def xr0:XR:=⟨tabX extT⟩
section
attribute [local instance] xr0
variable {h:AHeap} {Q:AV→AHeap→Prop}
theorem ext_c {f:FuncId} {X:CallX} {args:List AV} (hm:(f,X)∈extT) (hk:X args h Q):C f args h Q:=acall_x (tabX_c hm hk)
theorem mark0_c {f:FuncId} (hm:(f,xMark0)∈extT) (hk:Q (.tu []) h):C f [] h Q:=ext_c hm hk
theorem mark1_c {f:FuncId} {a:AA} (hm:(f,xMark1)∈extT) (hk:Q (.tu []) h):C f [.p (some a)] h Q:=ext_c hm hk
theorem st_numA {k:IntKind} {h:AHeap} {id n o:Nat} {cs:List AV} {m:Int} {K:Int→Prop} (R:RecAt h id cs) (hn:n=cs.length) (hc:cs[o]? = some (.i k m)) (hk:K m):numAt k (.p (some ⟨id,n,o⟩)) h K:=
  st_load R hn hc (st_asI hk)
theorem mlock_c {id o n:Nat} {cs:List AV} (R:RecAt h id cs) (hn:n=cs.length) (hc:cs[o]? = some (.i .i32 0)) (hq:∀ h',h'.length=h.length→Upd (· = id) h h'→RecAt h' id (cs.set o (.i .i32 1))→Q (.tu []) h') :
    C Y63.id [.p (some ⟨id,n,o⟩)] h Q:=by
  have ho:=lt_of_some hc
  refine Y63.call ?_
  simp only [Y63.t]
  refine st_nil (st_fld ?_)
  refine Y75.call ?_
  simp only [Y75.t]
  refine mark0_c Y80.row ?_
  refine st_nil (st_fld ?_)
  refine ext_c Y90.row ⟨rfl,rfl,st_numA R hn hc ⟨rfl, ?_⟩⟩
  refine st_store R hn ho rfl rfl rfl fun h1 hl1 U1 R1=>?_
  refine st_asB (bif_t rfl (mark0_c Y79.row ?_))
  refine st_unsafe R1 (by simpa using hn) (by simpa using ho) (mark1_c Y89.row ?_)
  exact .inl (.inl (hq h1 hl1 U1 R1))
theorem munlock_cF {id o n:Nat} {cs:List AV} (R:RecAt h id cs) (hn:n=cs.length) (hc:cs[o]? = some (.i .i32 1)) (hq:∀ h',h'.length=h.length→Upd (· = id) h h'→RecAt h' id (cs.set o (.i .i32 0))→Q (.tu []) h') :
    aF prog C Y54.id [.p (some ⟨id,n,o⟩)] h Q:=by
  have ho:=lt_of_some hc
  refine Y54.callF ?_
  simp only [Y54.t]
  refine st_nil (st_fld ?_)
  refine Y43.call ?_
  simp only [Y43.t,Y43.j0]
  refine st_nil (st_fld (st_load R hn hc (st_asI ?_)))
  refine st_unsafe R hn ho (mark1_c Y84.row (mark0_c Y80.row ?_))
  refine st_nil (st_fld ?_)
  refine ext_c Y91.row ⟨rfl,st_numA R hn hc ?_⟩
  have hw:IntKind.wrap .i32 (1 + -1)=0:=by decide
  rw [hw]
  refine st_store R hn ho rfl rfl rfl fun h1 hl1 U1 R1=>?_
  refine st_asI (bif_f rfl ?_)
  refine Y43.i0 ?_
  simp only [Y43.t0]
  refine mark0_c Y79.row ?_
  exact .inl (.inl (hq h1 hl1 U1 R1))
theorem bload_c {id o n:Nat} {cs:List AV} {m:Int} (R:RecAt h id cs) (hn:n=cs.length) (hc:cs[o]? = some (.i .u32 m)) (hq:Q (.b (!decide (m=0))) h) :
    C Y59.id [.p (some ⟨id,n,o⟩)] h Q:=by
  refine Y59.call ?_
  simp only [Y59.t]
  refine st_nil (st_fld ?_)
  exact ext_c Y85.row (st_numA R hn hc (st_asI (.inl hq)))
theorem bstore_cF {id o n:Nat} {cs:List AV} {m:Int} (R:RecAt h id cs) (hn:n=cs.length) (hc:cs[o]? = some (.i .u32 m)) (hq:∀ h',h'.length=h.length→Upd (· = id) h h'→RecAt h' id (cs.set o (.i .u32 1))→Q (.tu []) h') :
    aF prog C Y67.id [.p (some ⟨id,n,o⟩),.b true] h Q:=by
  have ho:=lt_of_some hc
  refine Y67.callF ?_
  simp only [Y67.t]
  refine st_nil (st_fld ?_)
  refine Y73.call ?_
  simp only [Y73.t]
  refine bif_t rfl (.inl (st_asI ?_))
  refine ext_c Y86.row ⟨rfl, ?_⟩
  refine st_store R hn ho rfl rfl rfl fun h1 hl1 U1 R1=>?_
  exact .inl (hq h1 hl1 U1 R1)
def pairsS:List UInt8→List (List UInt8)
  | []=>[]
  | c :: r=>[c] :: [92,c] :: pairsS r
theorem pairsS_len:∀ l,(pairsS l).length=2 * l.length
  | []=>rfl
  | c :: r=>by simp only [pairsS,List.length_cons,pairsS_len r]; omega
theorem pairsS_even:∀ (l:List UInt8) (i:Nat) (c:UInt8),l[i]? = some c→(pairsS l)[2 * i]? = some [c]∧(pairsS l)[2 * i+1]? = some [92,c]
  | [],i,c,h=>by simp at h
  | d :: r,0,c,h=>by simp at h; subst h; exact ⟨rfl,rfl⟩
  | d :: r, i + 1, c, h => by
    have:=pairsS_even r i c (by simpa using h)
    rw [show 2 * (i+1)=2 * i+1+1 by omega]
    simpa [pairsS] using this
theorem st_pbA {zeros cs:List AV} {parts:List (Nat × Nat × AV)} {K:AV→Prop} (hf:fillA zeros parts=some cs) (hk:K (.ag cs)):pBuild zeros parts K:=by
  unfold pBuild; rw [hf]; exact hk
theorem st_strBytes {h:AHeap} {l:List UInt8} {K:AV→AHeap→Prop} (hk:∀ h',h'.length=h.length+1→Upd (fun _=>False) h h'→Byt h' (.sl (some ⟨h.length,l.length,0⟩) l.length none) l→K (.sl (some ⟨h.length,l.length,0⟩) l.length none) h'):pStrBytes (.s l) h K:=
  hk _ (by simp) (Upd.app _ _) (.inr ⟨h.length,l.length,0,none,newBlk (l.map byteAV) 1 false,rfl,by simp,rfl,by simp [newBlk],by simp [newBlk],by simp,by simp [newBlk]; exact List.take_of_length_le (by simp)⟩)
def CapA (h:AHeap) (id n:Nat) (l:List AV) (v:AV):Prop:=
  v = .sl (some ⟨id,n,0⟩) l.length none∧∃ b,h[id]? = some b∧b.cells.length=n∧b.cells.take l.length=l∧b.sz=1∧b.floor≤n∧b.ro=false∧l.length≤n
theorem CapA.upd {M:Nat→Prop} {h h':AHeap} {id n:Nat} {l:List AV} {v:AV} (A:CapA h id n l v) (U:Upd M h h') (hM:¬ M id):CapA h' id n l v:=by
  obtain ⟨e,b,h1,h2⟩:=A
  exact ⟨e,b,(U.2 id (lt_of_some h1) hM).trans h1,h2⟩
theorem CapA.rd {h:AHeap} {id n:Nat} {l:List AV} {v:AV} (A:CapA h id n l v):Rd 1 h v l l.length:=by
  obtain ⟨rfl,b,h1,h2,h3,h4,h5,h6,h7⟩:=A
  exact .inr ⟨id,n,0,none,b,rfl,h1,h4,h5,by omega,by omega,by rw [List.drop_zero,Nat.mul_one]; exact h3⟩
theorem CapA.push {h:AHeap} {id n bytes:Nat} {l:List AV} {v y a:AV} {ty:Option TypeId} (A:CapA h id n l v) (R:Rd 1 h y [a] 1) (ha:a.cellOK=true) (hr:l.length<n) (hb:(l.length+1) * bytes≤140737488355328) (hn:n≤1000000) {K:AV→AHeap→Prop}
    (hk:∀ v' h',h'.length=h.length→Upd (· = id) h h'→CapA h' id n (l++[a]) v'→K v' h'):pAppend ty 1 bytes v y h K:=by
  refine ⟨by decide,R.news ?_⟩
  obtain ⟨rfl,b,h1,h2,h3,h4,h5,h6,h7⟩:=A
  have hl:=lt_of_some h1
  refine ⟨hb,by omega,b,h1,h4,⟨h5,by show n≤_; omega,by show 0+l.length * 1≤n; omega⟩, ?_⟩
  right; right; left
  refine ⟨by decide,h6,h2.symm,by show 0+(l.length+1) * 1≤_; omega,.inl rfl,by simp [ha], ?_⟩
  refine hk _ _ (by simp) (Upd.set _ _ _) ⟨by simp,_,List.getElem?_set_self hl, ?_, ?_,h4, ?_,h6,by simp; omega⟩
  · simp [wr,h2]
  · show (wr b.cells (0 + l.length * 1) [a]).take (l ++ [a]).length = l ++ [a]
    simp only [wr,Nat.zero_add,Nat.mul_one]
    have hlt:l.length<b.cells.length:=by omega
    rw [List.length_append,List.length_singleton,List.take_succ_eq_append_getElem (by simpa using hlt),List.take_set_of_le (Nat.le_refl _),h3]
    simp
  · show b.cells.length ≤ n
    omega
structure RepAt (lo:Nat) (h:AHeap) (id:Nat) (sp:List UInt8):Prop where
  new:lo≤id
  cells:∃ cs tr,RecAt h id cs∧cs.length=257∧cs[256]? = some tr∧Rd 1 h tr (sp.reverse.map fun c=>.s [c]) sp.length∧(∀ i,SlAt tr i→lo≤i) ∧
    (∀ c:UInt8,c ∉ sp→cs[c.toNat]? = some (.sl none 0 none))∧∀ c:UInt8,c∈sp→∃ a,cs[c.toNat]? = some (.sl (some a) 2 none)∧Byt h (.sl (some a) 2 none) [92,c]∧lo≤a.id
theorem RepAt.upd {lo:Nat} {h h':AHeap} {id:Nat} {sp:List UInt8} {M:Nat→Prop} (R:RepAt lo h id sp) (U:Upd M h h') (hM:∀ i,lo≤i→¬ M i):RepAt lo h' id sp:=by
  obtain ⟨cs,tr,h1,h2,h3,h4,h5,h6,h7⟩:=R.cells
  refine ⟨R.new,cs,tr,h1.upd U (hM _ R.new),h2,h3,h4.upd U fun i hi=>hM i (h5 i hi),h5,h6,fun c hc=>?_⟩
  obtain ⟨a,g1,g2,g3⟩:=h7 c hc
  exact ⟨a,g1,g2.upd U fun i hi=>hM i (by have hi:a.id=i:=hi; omega),g3⟩
theorem RepAt.low {lo lo':Nat} {h:AHeap} {id:Nat} {sp:List UInt8} (R:RepAt lo h id sp) (hl:lo'≤lo):RepAt lo' h id sp:=by
  obtain ⟨cs,tr,h1,h2,h3,h4,h5,h6,h7⟩:=R.cells
  refine ⟨Nat.le_trans hl R.new,cs,tr,h1,h2,h3,h4,fun i hi=>Nat.le_trans hl (h5 i hi),h6,fun c hc=>?_⟩
  obtain ⟨a,g1,g2,g3⟩:=h7 c hc
  exact ⟨a,g1,g2,Nat.le_trans hl g3⟩
structure BSt (h0 h:AHeap) (idR idT:Nat) (sp:List UInt8) (j:Nat):Prop where
  upd:Upd (fun _=>False) h0 h
  newR:h0.length≤idR
  newT:h0.length≤idT
  ne:idR≠idT
  cells:∃ cs tr,RecAt h idR cs∧cs.length=257∧cs[256]? = some tr∧CapA h idT sp.length ((sp.drop j).reverse.map fun c=>.s [c]) tr ∧
    (∀ c:UInt8,c ∉ sp.drop j→cs[c.toNat]? = some (.sl none 0 none))∧∀ c:UInt8,c∈sp.drop j→∃ a,cs[c.toNat]? = some (.sl (some a) 2 none)∧Byt h (.sl (some a) 2 none) [92,c]∧a.id≠idR∧a.id≠idT∧h0.length≤a.id
theorem BSt.rep {h0 h:AHeap} {idR idT:Nat} {sp:List UInt8} (B:BSt h0 h idR idT sp 0):RepAt h0.length h idR sp:=by
  obtain ⟨cs,tr,h1,h2,h3,h4,h5,h6⟩:=B.cells
  rw [List.drop_zero] at h4 h5 h6
  refine ⟨B.newR,cs,tr,h1,h2,h3,by simpa using h4.rd,fun i hi=>?_,h5,fun c hc=>?_⟩
  · obtain ⟨rfl, _⟩ := h4
    have hi:idT=i:=hi
    have:=B.newT; omega
  obtain ⟨a,g1,g2,_,_,g5⟩:=h6 c hc
  exact ⟨a,g1,g2,g5⟩
theorem build_p5 {h0 : AHeap} {v : AV} {idR idT : Nat} {sp : List UInt8} (hnd : sp.Nodup) (hlen : sp.length ≤ 100) (hv : Rd 1 h0 v ((pairsS sp).map .s) (2 * sp.length)) (hvn : ∀ i, SlAt v i → i < h0.length)
    (hq:∀ h',Upd (fun _=>False) h0 h'→h0.length≤idR→RepAt h0.length h' idR sp→Q (.ifc 179 (.p (some ⟨idR,257,0⟩))) h') :
    ∀ (j:Nat) (h:AHeap),j≤sp.length→BSt h0 h idR idT sp j→Y6.p5 (kRet h0 Q) v (.p (some ⟨idR,257,0⟩)) (2 * (j:Int) - 2) h:=by
  intro j
  induction j with
  | zero =>
    intro h hj B
    refine Y6.i5 ?_
    simp only [Y6.t5]
    exact bif_f (by decide) (.inl (hq h B.upd B.newR B.rep))
  | succ j ih =>
    intro h hj B
    refine Y6.i5 ?_
    simp only [Y6.t5,Y6.j5,Y6.j6]
    obtain ⟨c,hc⟩:∃ c,sp[j]? = some c:=⟨sp[j],List.getElem?_eq_getElem (by omega)⟩
    obtain ⟨e1,e2⟩:=pairsS_even sp j c hc
    have e0:(2 * ((j+1:Nat):Int) - 2)=((2 * j:Nat):Int):=by omega
    rw [e0]
    have hdrop:sp.drop j=c :: sp.drop (j+1):=drop_of_at hc
    have hcn:c ∉ sp.drop (j+1):=by
      have:=(List.drop_sublist j sp).nodup hnd
      rw [hdrop] at this
      exact (List.nodup_cons.1 this).1
    have V:Rd 1 h v ((pairsS sp).map .s) (2 * sp.length):=hv.upd B.upd fun _ _ h=>h
    obtain ⟨cs,tr,R,hcl,htr,T,hno,hyes⟩:=B.cells
    have hc256:c.toNat<256:=c.toNat_lt
    refine bif_t (decide_eq_true (by omega)) ?_
    refine V.cell (by decide) (by omega) (by rw [Nat.mul_one,List.getElem?_map,e1] <;> rfl) (st_asS ?_)
    refine st_at (i:=0) (c:=c) (r:=[]) rfl ?_
    refine withI_is (show IntKind.wrap .i64 (((2 * j:Nat):Int)+1)=((2 * j+1:Nat):Int) by rw [wrap_i64 (by omega) (by omega)]; omega) ?_
    refine V.cell (by decide) (by omega) (by rw [Nat.mul_one,List.getElem?_map,e2] <;> rfl) (st_asS ?_)
    refine st_fld ⟨by omega,by omega, ?_⟩
    simp only [Int.toNat_natCast,Nat.zero_add,Nat.mul_one]
    refine st_load R hcl.symm (hno c hcn) ?_
    simp only [pBin]
    refine bif_t (by kernel_rfl) ?_
    simp only [eqOut]
    refine st_asB (bif_t rfl ?_)
    refine st_fld (st_load R hcl.symm htr ?_)
    refine st_build (cs:=[byteAV c]) rfl rfl fun y1 h1 hl1 U1 R1 F1=>?_
    refine Byt.str (l:=[c]) R1 ?_
    refine st_build (cs:=[.s [c]]) rfl rfl fun y2 h2 hl2 U2 R2 F2=>?_
    have U02:Upd (fun _=>False) h h2:=U1.trans U2 fun _ _ h=>h
    have hlT:((sp.drop (j+1)).reverse.map fun c=>AV.s [c]).length=sp.length - (j+1):=by simp
    refine (T.upd U02 fun h=>h).push R2 rfl (by rw [hlT]; omega) (by rw [hlT]; omega) (by omega) fun v3 h3 hl3 U3 T3=>?_
    have hTlt:idT<h.length:=by obtain ⟨_,b,hb,_⟩:=T; exact lt_of_some hb
    have hRlt:=R.lt
    have R3:RecAt h3 idR cs:=(R.upd U02 fun h=>h).upd U3 B.ne
    refine st_fld (st_store R3 hcl.symm (by omega) (by obtain ⟨e,_⟩:=T3; rw [e] <;> rfl) (by obtain ⟨e,_⟩:=T3; rw [e] <;> rfl) (by obtain ⟨e,_⟩:=T3; rw [e] <;> rfl) fun h4 hl4 U4 R4=>?_)
    refine Y6.i6 ?_
    simp only [Y6.t6,Y6.j5]
    refine st_strBytes fun h5 hl5 U5 X5=>?_
    refine st_fld ⟨by omega,by omega, ?_⟩
    simp only [Int.toNat_natCast,Nat.zero_add,Nat.mul_one]
    have R5:=R4.upd U5 fun h=>h
    refine st_store R5 (by rw [List.length_set,hcl]) (by rw [List.length_set,hcl]; omega) rfl rfl rfl fun h6 hl6 U6 R6=>?_
    have e6:(2 * j:Nat)=(2 * (j:Int)):=by omega
    refine withI_is (show IntKind.wrap .i64 (((2 * j:Nat):Int) - 2)=2 * (j:Int) - 2 by rw [wrap_i64 (by omega) (by omega)]; omega) ?_
    have U04:Upd (fun i=>i=idT∨i=idR) h h4:=((U02.mono fun _ _ h=>h.elim).trans (U3.mono fun _ _ h=>.inl h) fun _ _ h=>h).trans (U4.mono fun _ _ h=>.inr h) fun _ _ h=>h
    have U06:Upd (fun i=>i=idT∨i=idR) h h6:=(U04.trans (U5.mono fun _ _ h=>h.elim) fun _ _ h=>h).trans (U6.mono fun _ _ h=>.inr h) fun _ _ h=>h
    have h46:h4.length≤h6.length:=by omega
    refine ih h6 (by omega) ⟨B.upd.trans U06 fun i hi hm=>by have:=B.newR; have:=B.newT; rcases hm with rfl | rfl <;> omega,B.newR,B.newT,B.ne,_,v3,R6,by rw [List.length_set,List.length_set,hcl], ?_, ?_, ?_, ?_⟩
    · rw [List.getElem?_set_ne (by omega),List.getElem?_set_self (by omega)]
    · rw [hdrop]
      have T4:=((T3.upd U4 fun h=>B.ne h.symm).upd U5 fun h=>h).upd U6 fun h=>B.ne h.symm
      simpa using T4
    · intro d hd
      rw [hdrop,List.mem_cons,not_or] at hd
      have hne:c.toNat≠d.toNat:=fun e=>hd.1 (UInt8.toNat_inj.1 e.symm)
      have:=d.toNat_lt
      rw [List.getElem?_set_ne hne,List.getElem?_set_ne (by omega)]
      exact hno d hd.2
    · intro d hd
      rw [hdrop,List.mem_cons] at hd
      by_cases hdc:d=c
      · subst hdc
        have hU:=B.upd.1
        refine ⟨⟨h4.length,2,0⟩, ?_, ?_, ?_, ?_,by show h0.length≤h4.length; omega⟩
        · rw [List.getElem?_set_self (by rw [List.length_set,hcl]; omega)] <;> rfl
        · exact X5.upd U6 fun i hi e=>by have hi:h4.length=i:=hi; omega
        · show h4.length≠idR; omega
        · show h4.length≠idT; omega
      · have hd' := hd.resolve_left hdc
        obtain ⟨a,g1,g2,g3,g4,g5⟩:=hyes d hd'
        have hne:c.toNat≠d.toNat:=fun e=>hdc (UInt8.toNat_inj.1 e.symm)
        have:=d.toNat_lt
        refine ⟨a,by rw [List.getElem?_set_ne hne,List.getElem?_set_ne (by omega)]; exact g1,g2.upd U06 fun i hi=>?_,g3,g4,g5⟩
        cases hi
        exact fun h=>h.elim g4 g3
def nils:List AV:=List.replicate 256 (.sl none 0 none)
theorem build_p1 {h:AHeap} {v:AV} {sp:List UInt8} (hnd:sp.Nodup) (hlen:sp.length≤100) (hpos:0<sp.length) (hv:Rd 1 h v ((pairsS sp).map .s) (2 * sp.length))
    (hq:∀ id h',Upd (fun _=>False) h h'→h.length≤id→RepAt h.length h' id sp→Q (.ifc 179 (.p (some ⟨id,257,0⟩))) h') :
    ∀ (k j:Nat) (x4:Bool),j+k=sp.length→(k=0→x4=false)→Y6.p1 (kRet h Q) v x4 (2 * (j:Int)) h:=by
  intro k
  induction k with
  | zero =>
    intro j x4 hj hx
    refine Y6.i1 ?_
    simp only [Y6.t1,Y6.j5]
    refine hv.len (bif_f (decide_eq_false (by omega)) ?_)
    rw [hx rfl]
    refine bif_f rfl (hv.len ?_)
    refine st_quo (n:=(sp.length:Int)) (by decide) (by rw [show ((2 * sp.length:Nat):Int)=(sp.length:Int) * 2 by omega,Int.mul_tdiv_cancel _ (by decide)]; exact wrap_i64 (by omega) (by omega)) ?_
    refine ⟨by omega,by omega,by omega,by omega,rfl,by decide, ?_⟩
    have hUT:Upd (fun _=>False) h (h++[newBlk (List.replicate (sp.length:Int).toNat [AV.s []]).flatten 1 true]):=Upd.app _ _
    have hTc:CapA (h++[newBlk (List.replicate (sp.length:Int).toNat [AV.s []]).flatten 1 true]) h.length sp.length [] (.sl (some ⟨h.length,(sp.length:Int).toNat * 1,0⟩) (0:Int).toNat none):=by
      refine ⟨by simp,newBlk (List.replicate (sp.length:Int).toNat [AV.s []]).flatten 1 true,by simp,by simp [newBlk],rfl,rfl,by simp [newBlk],rfl,by simp⟩
    generalize h++[newBlk (List.replicate (sp.length:Int).toNat [AV.s []]).flatten 1 true]=hT at *
    generalize (AV.sl (some ⟨h.length,(sp.length:Int).toNat * 1,0⟩) (0:Int).toNat none)=vT at *
    have hvT:vT.parts=[vT]∧vT.sizeOK=true∧vT.cellOK=true:=by obtain ⟨e,_⟩:=hTc; rw [e]; exact ⟨rfl,rfl,rfl⟩
    have hTlt:h.length<hT.length:=by obtain ⟨_,b,hb,_⟩:=hTc; exact lt_of_some hb
    refine st_pbA (cs:=nils++[vT]) (by obtain ⟨e,_⟩:=hTc; subst e; rfl) ?_
    refine st_alloc fun h1 hl1 U1 R1=>?_
    have T1:=hTc.upd U1 fun h=>h
    refine st_storeN R1 rfl (by simp [nils]) (by simp [nils,hvT.2.2]; rfl) fun h2 hl2 U2 R2=>?_
    refine hv.upd (hUT.trans U1 fun _ _ h=>h) (fun _ _ h=>h) |>.upd U2 (fun i hi e=>by have:=hv.lt hi; omega) |>.len ?_
    refine withI_is (show IntKind.wrap .i64 (((2 * sp.length:Nat):Int) - 2)=2 * (sp.length:Int) - 2 by rw [wrap_i64 (by omega) (by omega)]; omega) ?_
    have U2':Upd (fun _=>False) h h2:=(hUT.trans U1 fun _ _ h=>h).trans U2 fun i hi e=>by omega
    refine build_p5 hnd hlen hv (fun i hi=>hv.lt hi) (idR:=hT.length) (idT:=h.length) (fun h' U hn R=>hq _ h' U hn R) sp.length h2 (Nat.le_refl _) ⟨U2',by omega,Nat.le_refl _,by omega,nils++[vT],vT,R2,by simp [nils],by simp [nils], ?_, ?_, ?_⟩
    · rw [List.drop_length]
      exact T1.upd U2 (by omega)
    · intro c _
      have:=c.toNat_lt
      rw [List.getElem?_append_left (by simp [nils]; omega)]
      unfold nils
      rw [List.getElem?_replicate,if_pos this]
    · intro c hc
      rw [List.drop_length] at hc
      cases hc
  | succ k ih =>
    intro j x4 hj hx
    refine Y6.i1 ?_
    simp only [Y6.t1,Y6.j2]
    obtain ⟨c,hc⟩:∃ c,sp[j]? = some c:=⟨sp[j],List.getElem?_eq_getElem (by omega)⟩
    obtain ⟨e1,e2⟩:=pairsS_even sp j c hc
    refine hv.len (bif_t (decide_eq_true (by omega)) ?_)
    have e0:(2 * (j:Int))=((2 * j:Nat):Int):=by omega
    rw [e0]
    refine hv.cell (by decide) (by omega) (by rw [Nat.mul_one,List.getElem?_map,e1] <;> rfl) (st_asS ?_)
    refine bif_f rfl ?_
    refine withI_is (show IntKind.wrap .i64 (((2 * j:Nat):Int)+1)=((2 * j+1:Nat):Int) by rw [wrap_i64 (by omega) (by omega)]; omega) ?_
    refine hv.cell (by decide) (by omega) (by rw [Nat.mul_one,List.getElem?_map,e2] <;> rfl) (st_asS ?_)
    refine bif_t rfl ?_
    refine Y6.i2 ?_
    simp only [Y6.t2,Y6.j1]
    refine withI_is (show IntKind.wrap .i64 (((2 * j:Nat):Int)+2)=2 * ((j+1:Nat):Int) by rw [wrap_i64 (by omega) (by omega)]; omega) ?_
    exact ih (j+1) false (by omega) fun _=>rfl
theorem build_c {id:Nat} {cs:List AV} {v:AV} {sp:List UInt8} (hnd:sp.Nodup) (hlen:sp.length≤100) (hpos:2≤sp.length) (R:RecAt h id cs) (hcl:cs.length=5) (hc:cs[4]? = some v) (hv:Rd 1 h v ((pairsS sp).map .s) (2 * sp.length))
    (hq:∀ id h',Upd (fun _=>False) h h'→h.length≤id→RepAt h.length h' id sp→Q (.ifc 179 (.p (some ⟨id,257,0⟩))) h'):C Y6.id [.p (some ⟨id,5,0⟩)] h Q:=by
  refine Y6.call ?_
  simp only [Y6.t,Y6.j0]
  refine st_nil (st_fld (st_load R hcl.symm hc (hv.len ?_)))
  refine bif_f (decide_eq_false (by omega)) ?_
  refine Y6.i0 ?_
  simp only [Y6.t0,Y6.j1]
  refine bif_f rfl ?_
  exact build_p1 hnd hlen (by omega) hv hq sp.length 0 true (by omega) (by omega)
structure NewRep (h:AHeap) (id:Nat) (sp:List UInt8):Prop where
  is:∃ v,RecAt h id [.i .u32 0,.i .i32 0,.i .u32 0,.ni,v]∧Rd 1 h v ((pairsS sp).map .s) (2 * sp.length)∧¬ SlAt v id
def UsedRep (h:AHeap) (id:Nat) (sp:List UInt8):Prop:=∃ idR,RecAt h id [.i .u32 1,.i .i32 0,.i .u32 0,.ifc 179 (.p (some ⟨idR,257,0⟩)),.sl none 0 none]∧RepAt (id+1) h idR sp
theorem doSlow_x {id:Nat} {sp:List UInt8} (hnd:sp.Nodup) (hlen:sp.length≤100) (hpos:2≤sp.length) (N:NewRep h id sp) (hq:∀ h',Upd (· = id) h h'→UsedRep h' id sp→Q (.tu []) h') :
    aFD prog C Y78.id [.p (some ⟨id,5,0⟩),.fn (.func Y72.id) [.p (some ⟨id,5,0⟩)] []] h Q:=by
  obtain ⟨v,R,hv,hvn⟩:=N.is
  refine Y78.callD ?_
  simp only [Y78.tD]
  refine st_nil (st_fld ?_)
  refine mlock_c R rfl rfl fun h1 hl1 U1 R1=>?_
  refine st_nil (st_fld (st_nil (st_fld ?_)))
  refine bload_c R1 rfl rfl (st_asB (bif_t rfl ?_))
  refine st_nil (st_fld ?_)
  refine callV_c (by decide) ?_
  refine Y72.call ?_
  simp only [Y72.t]
  have hv1:=hv.upd U1 fun i hi e=>hvn (e ▸ hi)
  refine build_c hnd hlen hpos R1 rfl rfl hv1 fun idR h2 U2 hn2 P2=>?_
  have R2:=R1.upd U2 fun h=>h
  have hlt:=R.lt
  refine st_nil (st_fld (st_store R2 rfl (by simp) rfl rfl rfl fun h3 hl3 U3 R3=>?_))
  refine st_nil (st_fld (st_store R3 rfl (by simp) rfl rfl rfl fun h4 hl4 U4 R4=>?_))
  refine .inl ?_
  refine bstore_cF R4 rfl rfl fun h5 hl5 U5 R5=>?_
  refine munlock_cF R5 rfl rfl fun h6 hl6 U6 R6=>?_
  have hne:idR≠id:=by omega
  have V:Upd (· = id) h2 h6:=((U3.trans U4 fun _ _ h=>h).trans U5 fun _ _ h=>h).trans U6 fun _ _ h=>h
  refine .inl (hq h6 ((U1.trans (U2.mono fun _ _ h=>h.elim) fun _ _ h=>h).trans V fun _ _ h=>h) ⟨idR,R6, ?_⟩)
  have P6:=P2.upd V fun i hi e=>by omega
  exact P6.low (by omega)
end
end Go.Proofs.YtcdkpkkdolmfdaaGreatDoor
