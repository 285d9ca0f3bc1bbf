/- Lemmas (several texts in one). -/
import Derived.Test.YtcdkpkkdolmfdaaGreatDoorMg5
set_option linter.unusedVariables false
set_option linter.unusedSimpArgs false
set_option linter.unusedSectionVars false
set_option maxRecDepth 20000
namespace Go.Proofs.YtcdkpkkdolmfdaaGreatDoor
open Go.GAM
@[reducible] def xr0:XR:=⟨aI9 fU⟩
section
attribute [local instance] xr0
variable {h:aA} {Q:AV→aA→Prop}
theorem yH {f:FuncId} {X:mP} {args:List AV} (hm:(f,X)∈fU) (hk:X args h Q):C f args h Q:=rI (aIX hm hk)
theorem uE {f:FuncId} (hm:(f,vY)∈fU) (hk:Q (.tu []) h):C f [] h Q:=yH hm hk
theorem aE5 {f:FuncId} {a:AA} (hm:(f,wD)∈fU) (hk:Q (.tu []) h):C f [.p (some a)] h Q:=yH hm hk
theorem zU {k:IntKind} {h:aA} {id n o:Nat} {cs:List AV} {m:Int} {K:Int→Prop} (R:bE h id cs) (hn:n=cs.length) (hc:cs[o]? = some (.i k m)) (hk:K m):yM k (.p (some ⟨id,n,o⟩)) h K:=
 aO R hn hc (aU hk)
theorem aMH {id o n:Nat} {cs:List AV} (R:bE h id cs) (hn:n=cs.length) (hc:cs[o]? = some (.i .i32 0)) (hq:∀ h',h'.length=h.length→Upd (· = id) h h'→bE h' id (cs.set o (.i .i32 1))→Q (.tu []) h') :
  C Y98.id [.p (some ⟨id,n,o⟩)] h Q:=by
 have ho:=bM hc
 refine Y98.call ?_
 simp only [Y98.t]
 refine b8 (aP ?_)
 refine Y102.call ?_
 simp only [Y102.t]
 refine uE Y105.row ?_
 refine b8 (aP ?_)
 refine yH Y109.row ⟨rfl,rfl,zU R hn hc ⟨rfl, ?_⟩⟩
 refine cM R hn ho rfl rfl rfl fun h1 hl1 U1 R1=>?_
 refine aX (aM rfl (uE Y104.row ?_))
 refine sT R1 (by simpa using hn) (by simpa using ho) (aE5 Y115.row ?_)
 exact .inl (.inl (hq h1 hl1 U1 R1))
theorem aDE {id o n:Nat} {cs:List AV} (R:bE h id cs) (hn:n=cs.length) (hc:cs[o]? = some (.i .i32 1)) (hq:∀ h',h'.length=h.length→Upd (· = id) h h'→bE h' id (cs.set o (.i .i32 0))→Q (.tu []) h') :
  aF prog C Y68.id [.p (some ⟨id,n,o⟩)] h Q:=by
 have ho:=bM hc
 refine Y68.callF ?_
 simp only [Y68.t]
 refine b8 (aP ?_)
 refine Y67.call ?_
 simp only [Y67.t, ← Y67.p0.eq_1]
 refine b8 (aP (aO R hn hc (aU ?_)))
 refine sT R hn ho (aE5 Y112.row (uE Y105.row ?_))
 refine b8 (aP ?_)
 refine yH Y113.row ⟨rfl,zU R hn hc ?_⟩
 have hw:IntKind.wrap .i32 (1 + -1)=0:=by decide
 rw [hw]
 refine cM R hn ho rfl rfl rfl fun h1 hl1 U1 R1=>?_
 refine aU (aK rfl ?_)
 refine Y67.i0 ?_
 simp only [Y67.t0]
 refine uE Y104.row ?_
 exact .inl (.inl (hq h1 hl1 U1 R1))
theorem aE2 {id o n:Nat} {cs:List AV} {m:Int} (R:bE h id cs) (hn:n=cs.length) (hc:cs[o]? = some (.i .u32 m)) (hq:Q (.b (!decide (m=0))) h) :
  C Y79.id [.p (some ⟨id,n,o⟩)] h Q:=by
 refine Y79.call ?_
 simp only [Y79.t]
 refine b8 (aP ?_)
 exact yH Y114.row (zU R hn hc (aU (.inl hq)))
theorem aG2 {id o n:Nat} {cs:List AV} {m:Int} (R:bE h id cs) (hn:n=cs.length) (hc:cs[o]? = some (.i .u32 m)) (hq:∀ h',h'.length=h.length→Upd (· = id) h h'→bE h' id (cs.set o (.i .u32 1))→Q (.tu []) h') :
  aF prog C Y69.id [.p (some ⟨id,n,o⟩),.b true] h Q:=by
 have ho:=bM hc
 refine Y69.callF ?_
 simp only [Y69.t]
 refine b8 (aP ?_)
 refine Y99.call ?_
 simp only [Y99.t]
 refine aM rfl (.inl (aU ?_))
 refine yH Y110.row ⟨rfl, ?_⟩
 refine cM R hn ho rfl rfl rfl fun h1 hl1 U1 R1=>?_
 exact .inl (hq h1 hl1 U1 R1)
def fK:List UInt8→List (List UInt8)
 | []=>[]
 | c :: r=>[c] :: [92,c] :: fK r
theorem wX:∀ l,(fK l).length=2 * l.length
 | []=>rfl
 | c :: r=>by simp only [fK,List.length_cons,wX r]; omega
theorem nA:∀ (l:List UInt8) (i:Nat) (c:UInt8),l[i]? = some c→(fK l)[2 * i]? = some [c]∧(fK l)[2 * i+1]? = some [92,c]
 | [],i,c,h=>by simp at h
 | d :: r,0,c,h=>by simp at h; subst h; exact ⟨rfl,rfl⟩
 | d :: r, i + 1, c, h => by
  have:=nA r i c (by simpa using h)
  rw [show 2 * (i+1)=2 * i+1+1 by omega]
  simpa [fK] using this
theorem zX {zeros cs:List AV} {parts:List (Nat × Nat × AV)} {K:AV→Prop} (hf:fC zeros parts=some cs) (hk:K (.ag cs)):dO zeros parts K:=by
 unfold dO; rw [hf]; exact hk
theorem aC5 {h:aA} {l:List UInt8} {K:AV→aA→Prop} (hk:∀ h',h'.length=h.length+1→Upd (fun _=>False) h h'→Byt h' (.sl (some ⟨h.length,l.length,0⟩) l.length none) l→K (.sl (some ⟨h.length,l.length,0⟩) l.length none) h'):fJ (.s l) h K:=
 hk _ (by simp) (Upd.app _ _) (.inr ⟨h.length,l.length,0,none,bR (l.map byteAV) 1 false,rfl,by simp,rfl,by simp [bR],by simp [bR],by simp,by simp [bR]; exact List.take_of_length_le (by simp)⟩)
def xH (h:aA) (id n:Nat) (l:List AV) (v:AV):Prop:=
 v = .sl (some ⟨id,n,0⟩) l.length none∧∃ b,h[id]? = some b∧b.cells.length=n∧b.cells.take l.length=l∧b.sz=1∧b.floor≤n∧b.ro=false∧l.length≤n
theorem xH.upd {M:Nat→Prop} {h h':aA} {id n:Nat} {l:List AV} {v:AV} (A:xH h id n l v) (U:Upd M h h') (hM:¬ M id):xH h' id n l v:=by
 obtain ⟨e,b,h1,h2⟩:=A
 exact ⟨e,b,(U.2 id (bM h1) hM).trans h1,h2⟩
theorem xH.rd {h:aA} {id n:Nat} {l:List AV} {v:AV} (A:xH h id n l v):Rd 1 h v l l.length:=by
 obtain ⟨rfl,b,h1,h2,h3,h4,h5,h6,h7⟩:=A
 exact .inr ⟨id,n,0,none,b,rfl,h1,h4,h5,by omega,by omega,by rw [List.drop_zero,Nat.mul_one]; exact h3⟩
theorem xH.push {h:aA} {id n bytes:Nat} {l:List AV} {v y a:AV} {ty:Option TypeId} (A:xH h id n l v) (R:Rd 1 h y [a] 1) (ha:a.cellOK=true) (hr:l.length<n) (hb:(l.length+1) * bytes≤140737488355328) (hn:n≤1000000) {K:AV→aA→Prop}
  (hk:∀ v' h',h'.length=h.length→Upd (· = id) h h'→xH h' id n (l++[a]) v'→K v' h'):bN ty 1 bytes v y h K:=by
 refine ⟨by decide,R.news ?_⟩
 obtain ⟨rfl,b,h1,h2,h3,h4,h5,h6,h7⟩:=A
 have hl:=bM h1
 refine ⟨hb,by omega,b,h1,h4,⟨h5,by show n≤_; omega,by show 0+l.length * 1≤n; omega⟩, ?_⟩
 right; right; left
 refine ⟨by decide,h6,h2.symm,by show 0+(l.length+1) * 1≤_; omega,.inl rfl,by simp [ha], ?_⟩
 refine hk _ _ (by simp) (Upd.set _ _ _) ⟨by simp,_,List.getElem?_set_self hl, ?_, ?_,h4, ?_,h6,by simp; omega⟩
 ·simp [wr,h2]
 ·show (wr b.cells (0 + l.length * 1) [a]).take (l ++ [a]).length = l ++ [a]
  simp only [wr,Nat.zero_add,Nat.mul_one]
  have hlt:l.length<b.cells.length:=by omega
  rw [List.length_append,List.length_singleton,List.take_succ_eq_append_getElem (by simpa using hlt),List.take_set_of_le (Nat.le_refl _),h3]
  simp
 ·show b.cells.length ≤ n
  omega
structure gL (lo:Nat) (h:aA) (id:Nat) (sp:List UInt8):Prop where
 new:lo≤id
 cells:∃ cs tr,bE h id cs∧cs.length=257∧cs[256]? = some tr∧Rd 1 h tr (sp.reverse.map fun c=>.s [c]) sp.length∧(∀ i,bZ tr i→lo≤i) ∧
  (∀ c:UInt8,c ∉ sp→cs[c.toNat]? = some (.sl none 0 none))∧∀ c:UInt8,c∈sp→∃ a,cs[c.toNat]? = some (.sl (some a) 2 none)∧Byt h (.sl (some a) 2 none) [92,c]∧lo≤a.id
theorem gL.upd {lo:Nat} {h h':aA} {id:Nat} {sp:List UInt8} {M:Nat→Prop} (R:gL lo h id sp) (U:Upd M h h') (hM:∀ i,lo≤i→¬ M i):gL lo h' id sp:=by
 obtain ⟨cs,tr,h1,h2,h3,h4,h5,h6,h7⟩:=R.cells
 refine ⟨R.new,cs,tr,h1.upd U (hM _ R.new),h2,h3,h4.upd U fun i hi=>hM i (h5 i hi),h5,h6,fun c hc=>?_⟩
 obtain ⟨a,g1,g2,g3⟩:=h7 c hc
 exact ⟨a,g1,g2.upd U fun i hi=>hM i (by have hi:a.id=i:=hi; omega),g3⟩
theorem gL.low {lo lo':Nat} {h:aA} {id:Nat} {sp:List UInt8} (R:gL lo h id sp) (hl:lo'≤lo):gL lo' h id sp:=by
 obtain ⟨cs,tr,h1,h2,h3,h4,h5,h6,h7⟩:=R.cells
 refine ⟨Nat.le_trans hl R.new,cs,tr,h1,h2,h3,h4,fun i hi=>Nat.le_trans hl (h5 i hi),h6,fun c hc=>?_⟩
 obtain ⟨a,g1,g2,g3⟩:=h7 c hc
 exact ⟨a,g1,g2,Nat.le_trans hl g3⟩
structure BSt (h0 h:aA) (idR idT:Nat) (sp:List UInt8) (j:Nat):Prop where
 upd:Upd (fun _=>False) h0 h
 newR:h0.length≤idR
 newT:h0.length≤idT
 ne:idR≠idT
 cells:∃ cs tr,bE h idR cs∧cs.length=257∧cs[256]? = some tr∧xH h idT sp.length ((sp.drop j).reverse.map fun c=>.s [c]) tr ∧
  (∀ c:UInt8,c ∉ sp.drop j→cs[c.toNat]? = some (.sl none 0 none))∧∀ c:UInt8,c∈sp.drop j→∃ a,cs[c.toNat]? = some (.sl (some a) 2 none)∧Byt h (.sl (some a) 2 none) [92,c]∧a.id≠idR∧a.id≠idT∧h0.length≤a.id
theorem BSt.rep {h0 h:aA} {idR idT:Nat} {sp:List UInt8} (B:BSt h0 h idR idT sp 0):gL h0.length h idR sp:=by
 obtain ⟨cs,tr,h1,h2,h3,h4,h5,h6⟩:=B.cells
 rw [List.drop_zero] at h4 h5 h6
 refine ⟨B.newR,cs,tr,h1,h2,h3,by simpa using h4.rd,fun i hi=>?_,h5,fun c hc=>?_⟩
 ·obtain ⟨rfl, _⟩ := h4
  have hi:idT=i:=hi
  have:=B.newT; omega
 obtain ⟨a,g1,g2,_,_,g5⟩:=h6 c hc
 exact ⟨a,g1,g2,g5⟩
theorem aIW {h0 : aA} {v : AV} {idR idT : Nat} {sp : List UInt8} (hnd : sp.Nodup) (hlen : sp.length ≤ 100) (hv : Rd 1 h0 v ((fK sp).map .s) (2 * sp.length)) (hvn : ∀ i, bZ v i → i < h0.length)
  (hq:∀ h',Upd (fun _=>False) h0 h'→h0.length≤idR→gL h0.length h' idR sp→Q (.ifc 179 (.p (some ⟨idR,257,0⟩))) h') :
  ∀ (j:Nat) (h:aA),j≤sp.length→BSt h0 h idR idT sp j→Y10.p5 (aI h0 Q) v (.p (some ⟨idR,257,0⟩)) (2 * (j:Int) - 2) h:=by
 intro j
 induction j with
 | zero =>
  intro h hj B
  refine Y10.i5 ?_
  simp only [Y10.t5]
  exact aK (by decide) (.inl (hq h B.upd B.newR B.rep))
 | succ j ih =>
  intro h hj B
  refine Y10.i5 ?_
  simp only [Y10.t5, ← Y10.p5.eq_1, ← Y10.p6.eq_1]
  obtain ⟨c,hc⟩:∃ c,sp[j]? = some c:=⟨sp[j],List.getElem?_eq_getElem (by omega)⟩
  obtain ⟨e1,e2⟩:=nA sp j c hc
  have e0:(2 * ((j+1:Nat):Int) - 2)=((2 * j:Nat):Int):=by omega
  rw [e0]
  have hdrop:sp.drop j=c :: sp.drop (j+1):=fB hc
  have hcn:c ∉ sp.drop (j+1):=by
   have:=(List.drop_sublist j sp).nodup hnd
   rw [hdrop] at this
   exact (List.nodup_cons.1 this).1
  have V:Rd 1 h v ((fK sp).map .s) (2 * sp.length):=hv.upd B.upd fun _ _ h=>h
  obtain ⟨cs,tr,R,hcl,htr,T,hno,hyes⟩:=B.cells
  have hc256:c.toNat<256:=c.toNat_lt
  refine aM (decide_eq_true (by omega)) ?_
  refine V.cell (by decide) (by omega) (by rw [Nat.mul_one,List.getElem?_map,e1] <;> rfl) (aZ ?_)
  refine cW (i:=0) (c:=c) (r:=[]) rfl ?_
  refine aJ (show IntKind.wrap .i64 (((2 * j:Nat):Int)+1)=((2 * j+1:Nat):Int) by rw [aL (by omega) (by omega)]; omega) ?_
  refine V.cell (by decide) (by omega) (by rw [Nat.mul_one,List.getElem?_map,e2] <;> rfl) (aZ ?_)
  refine aP ⟨by omega,by omega, ?_⟩
  simp only [Int.toNat_natCast,Nat.zero_add,Nat.mul_one]
  refine aO R hcl.symm (hno c hcn) ?_
  simp only [f9]
  refine aM (by kernel_rfl) ?_
  simp only [fG]
  refine aX (aM rfl ?_)
  refine aP (aO R hcl.symm htr ?_)
  refine eO (cs:=[byteAV c]) rfl rfl fun y1 h1 hl1 U1 R1 F1=>?_
  refine Byt.str (l:=[c]) R1 ?_
  refine eO (cs:=[.s [c]]) rfl rfl fun y2 h2 hl2 U2 R2 F2=>?_
  have U02:Upd (fun _=>False) h h2:=U1.trans U2 fun _ _ h=>h
  have hlT:((sp.drop (j+1)).reverse.map fun c=>AV.s [c]).length=sp.length - (j+1):=by simp
  refine (T.upd U02 fun h=>h).push R2 rfl (by rw [hlT]; omega) (by rw [hlT]; omega) (by omega) fun v3 h3 hl3 U3 T3=>?_
  have hTlt:idT<h.length:=by obtain ⟨_,b,hb,_⟩:=T; exact bM hb
  have hRlt:=R.lt
  have R3:bE h3 idR cs:=(R.upd U02 fun h=>h).upd U3 B.ne
  refine aP (cM R3 hcl.symm (by omega) (by obtain ⟨e,_⟩:=T3; rw [e] <;> rfl) (by obtain ⟨e,_⟩:=T3; rw [e] <;> rfl) (by obtain ⟨e,_⟩:=T3; rw [e] <;> rfl) fun h4 hl4 U4 R4=>?_)
  refine Y10.i6 ?_
  simp only [Y10.t6, ← Y10.p5.eq_1]
  refine aC5 fun h5 hl5 U5 X5=>?_
  refine aP ⟨by omega,by omega, ?_⟩
  simp only [Int.toNat_natCast,Nat.zero_add,Nat.mul_one]
  have R5:=R4.upd U5 fun h=>h
  refine cM R5 (by rw [List.length_set,hcl]) (by rw [List.length_set,hcl]; omega) rfl rfl rfl fun h6 hl6 U6 R6=>?_
  have e6:(2 * j:Nat)=(2 * (j:Int)):=by omega
  refine aJ (show IntKind.wrap .i64 (((2 * j:Nat):Int) - 2)=2 * (j:Int) - 2 by rw [aL (by omega) (by omega)]; omega) ?_
  have U04:Upd (fun i=>i=idT∨i=idR) h h4:=((U02.mono fun _ _ h=>h.elim).trans (U3.mono fun _ _ h=>.inl h) fun _ _ h=>h).trans (U4.mono fun _ _ h=>.inr h) fun _ _ h=>h
  have U06:Upd (fun i=>i=idT∨i=idR) h h6:=(U04.trans (U5.mono fun _ _ h=>h.elim) fun _ _ h=>h).trans (U6.mono fun _ _ h=>.inr h) fun _ _ h=>h
  have h46:h4.length≤h6.length:=by omega
  refine ih h6 (by omega) ⟨B.upd.trans U06 fun i hi hm=>by have:=B.newR; have:=B.newT; rcases hm with rfl | rfl <;> omega,B.newR,B.newT,B.ne,_,v3,R6,by rw [List.length_set,List.length_set,hcl], ?_, ?_, ?_, ?_⟩
  ·rw [List.getElem?_set_ne (by omega),List.getElem?_set_self (by omega)]
  ·rw [hdrop]
   have T4:=((T3.upd U4 fun h=>B.ne h.symm).upd U5 fun h=>h).upd U6 fun h=>B.ne h.symm
   simpa using T4
  ·intro d hd
   rw [hdrop,List.mem_cons,not_or] at hd
   have hne:c.toNat≠d.toNat:=fun e=>hd.1 (UInt8.toNat_inj.1 e.symm)
   have:=d.toNat_lt
   rw [List.getElem?_set_ne hne,List.getElem?_set_ne (by omega)]
   exact hno d hd.2
  ·intro d hd
   rw [hdrop,List.mem_cons] at hd
   by_cases hdc:d=c
   ·subst hdc
    have hU:=B.upd.1
    refine ⟨⟨h4.length,2,0⟩, ?_, ?_, ?_, ?_,by show h0.length≤h4.length; omega⟩
    ·rw [List.getElem?_set_self (by rw [List.length_set,hcl]; omega)] <;> rfl
    ·exact X5.upd U6 fun i hi e=>by have hi:h4.length=i:=hi; omega
    ·show h4.length≠idR; omega
    ·show h4.length≠idT; omega
   ·have hd' := hd.resolve_left hdc
    obtain ⟨a,g1,g2,g3,g4,g5⟩:=hyes d hd'
    have hne:c.toNat≠d.toNat:=fun e=>hdc (UInt8.toNat_inj.1 e.symm)
    have:=d.toNat_lt
    refine ⟨a,by rw [List.getElem?_set_ne hne,List.getElem?_set_ne (by omega)]; exact g1,g2.upd U06 fun i hi=>?_,g3,g4,g5⟩
    cases hi
    exact fun h=>h.elim g4 g3
def aA0:List AV:=List.replicate 256 (.sl none 0 none)
theorem aH5 {h:aA} {v:AV} {sp:List UInt8} (hnd:sp.Nodup) (hlen:sp.length≤100) (hpos:0<sp.length) (hv:Rd 1 h v ((fK sp).map .s) (2 * sp.length))
  (hq:∀ id h',Upd (fun _=>False) h h'→h.length≤id→gL h.length h' id sp→Q (.ifc 179 (.p (some ⟨id,257,0⟩))) h') :
  ∀ (k j:Nat) (x4:Bool),j+k=sp.length→(k=0→x4=false)→Y10.p1 (aI h Q) v x4 (2 * (j:Int)) h:=by
 intro k
 induction k with
 | zero =>
  intro j x4 hj hx
  refine Y10.i1 ?_
  simp only [Y10.t1, ← Y10.p5.eq_1]
  refine hv.len (aK (decide_eq_false (by omega)) ?_)
  rw [hx rfl]
  refine aK rfl (hv.len ?_)
  refine aH2 (n:=(sp.length:Int)) (by decide) (by rw [show ((2 * sp.length:Nat):Int)=(sp.length:Int) * 2 by omega,Int.mul_tdiv_cancel _ (by decide)]; exact aL (by omega) (by omega)) ?_
  refine ⟨by omega,by omega,by omega,by omega,rfl,by decide, ?_⟩
  have hUT:Upd (fun _=>False) h (h++[bR (List.replicate (sp.length:Int).toNat [AV.s []]).flatten 1 true]):=Upd.app _ _
  have hTc:xH (h++[bR (List.replicate (sp.length:Int).toNat [AV.s []]).flatten 1 true]) h.length sp.length [] (.sl (some ⟨h.length,(sp.length:Int).toNat * 1,0⟩) (0:Int).toNat none):=by
   refine ⟨by simp,bR (List.replicate (sp.length:Int).toNat [AV.s []]).flatten 1 true,by simp,by simp [bR],rfl,rfl,by simp [bR],rfl,by simp⟩
  generalize h++[bR (List.replicate (sp.length:Int).toNat [AV.s []]).flatten 1 true]=hT at *
  generalize (AV.sl (some ⟨h.length,(sp.length:Int).toNat * 1,0⟩) (0:Int).toNat none)=vT at *
  have hvT:vT.parts=[vT]∧vT.sizeOK=true∧vT.cellOK=true:=by obtain ⟨e,_⟩:=hTc; rw [e]; exact ⟨rfl,rfl,rfl⟩
  have hTlt:h.length<hT.length:=by obtain ⟨_,b,hb,_⟩:=hTc; exact bM hb
  refine zX (cs:=aA0++[vT]) (by obtain ⟨e,_⟩:=hTc; subst e; rfl) ?_
  refine b9 fun h1 hl1 U1 R1=>?_
  have T1:=hTc.upd U1 fun h=>h
  refine bA R1 rfl (by simp [aA0]) (by simp [aA0,hvT.2.2]; rfl) fun h2 hl2 U2 R2=>?_
  refine hv.upd (hUT.trans U1 fun _ _ h=>h) (fun _ _ h=>h) |>.upd U2 (fun i hi e=>by have:=hv.lt hi; omega) |>.len ?_
  refine aJ (show IntKind.wrap .i64 (((2 * sp.length:Nat):Int) - 2)=2 * (sp.length:Int) - 2 by rw [aL (by omega) (by omega)]; omega) ?_
  have U2':Upd (fun _=>False) h h2:=(hUT.trans U1 fun _ _ h=>h).trans U2 fun i hi e=>by omega
  refine aIW hnd hlen hv (fun i hi=>hv.lt hi) (idR:=hT.length) (idT:=h.length) (fun h' U hn R=>hq _ h' U hn R) sp.length h2 (Nat.le_refl _) ⟨U2',by omega,Nat.le_refl _,by omega,aA0++[vT],vT,R2,by simp [aA0],by simp [aA0], ?_, ?_, ?_⟩
  ·rw [List.drop_length]
   exact T1.upd U2 (by omega)
  ·intro c _
   have:=c.toNat_lt
   rw [List.getElem?_append_left (by simp [aA0]; omega)]
   unfold aA0
   rw [List.getElem?_replicate,if_pos this]
  ·intro c hc
   rw [List.drop_length] at hc
   cases hc
 | succ k ih =>
  intro j x4 hj hx
  refine Y10.i1 ?_
  simp only [Y10.t1, ← Y10.p2.eq_1]
  obtain ⟨c,hc⟩:∃ c,sp[j]? = some c:=⟨sp[j],List.getElem?_eq_getElem (by omega)⟩
  obtain ⟨e1,e2⟩:=nA sp j c hc
  refine hv.len (aM (decide_eq_true (by omega)) ?_)
  have e0:(2 * (j:Int))=((2 * j:Nat):Int):=by omega
  rw [e0]
  refine hv.cell (by decide) (by omega) (by rw [Nat.mul_one,List.getElem?_map,e1] <;> rfl) (aZ ?_)
  refine aK rfl ?_
  refine aJ (show IntKind.wrap .i64 (((2 * j:Nat):Int)+1)=((2 * j+1:Nat):Int) by rw [aL (by omega) (by omega)]; omega) ?_
  refine hv.cell (by decide) (by omega) (by rw [Nat.mul_one,List.getElem?_map,e2] <;> rfl) (aZ ?_)
  refine aM rfl ?_
  refine Y10.i2 ?_
  simp only [Y10.t2, ← Y10.p1.eq_1]
  refine aJ (show IntKind.wrap .i64 (((2 * j:Nat):Int)+2)=2 * ((j+1:Nat):Int) by rw [aL (by omega) (by omega)]; omega) ?_
  exact ih (j+1) false (by omega) fun _=>rfl
theorem aLB {id:Nat} {cs:List AV} {v:AV} {sp:List UInt8} (hnd:sp.Nodup) (hlen:sp.length≤100) (hpos:2≤sp.length) (R:bE h id cs) (hcl:cs.length=5) (hc:cs[4]? = some v) (hv:Rd 1 h v ((fK sp).map .s) (2 * sp.length))
  (hq:∀ id h',Upd (fun _=>False) h h'→h.length≤id→gL h.length h' id sp→Q (.ifc 179 (.p (some ⟨id,257,0⟩))) h'):C Y10.id [.p (some ⟨id,5,0⟩)] h Q:=by
 refine Y10.call ?_
 simp only [Y10.t, ← Y10.p0.eq_1]
 refine b8 (aP (aO R hcl.symm hc (hv.len ?_)))
 refine aK (decide_eq_false (by omega)) ?_
 refine Y10.i0 ?_
 simp only [Y10.t0, ← Y10.p1.eq_1]
 refine aK rfl ?_
 exact aH5 hnd hlen (by omega) hv hq sp.length 0 true (by omega) (by omega)
structure aDP (h:aA) (id:Nat) (sp:List UInt8):Prop where
 is:∃ v,bE h id [.i .u32 0,.i .i32 0,.i .u32 0,.ni,v]∧Rd 1 h v ((fK sp).map .s) (2 * sp.length)∧¬ bZ v id
def aFP (h:aA) (id:Nat) (sp:List UInt8):Prop:=∃ idR,bE h id [.i .u32 1,.i .i32 0,.i .u32 0,.ifc 179 (.p (some ⟨idR,257,0⟩)),.sl none 0 none]∧gL (id+1) h idR sp
theorem aJZ {id:Nat} {sp:List UInt8} (hnd:sp.Nodup) (hlen:sp.length≤100) (hpos:2≤sp.length) (N:aDP h id sp) (hq:∀ h',Upd (· = id) h h'→aFP h' id sp→Q (.tu []) h') :
  aFD prog C Y84.id [.p (some ⟨id,5,0⟩),.fn (.func Y92.id) [.p (some ⟨id,5,0⟩)] []] h Q:=by
 obtain ⟨v,R,hv,hvn⟩:=N.is
 refine Y84.callD ?_
 simp only [Y84.tD]
 refine b8 (aP ?_)
 refine aMH R rfl rfl fun h1 hl1 U1 R1=>?_
 refine b8 (aP (b8 (aP ?_)))
 refine aE2 R1 rfl rfl (aX (aM rfl ?_))
 refine b8 (aP ?_)
 refine fW (by decide) ?_
 refine Y92.call ?_
 simp only [Y92.t]
 have hv1:=hv.upd U1 fun i hi e=>hvn (e ▸ hi)
 refine aLB hnd hlen hpos R1 rfl rfl hv1 fun idR h2 U2 hn2 P2=>?_
 have R2:=R1.upd U2 fun h=>h
 have hlt:=R.lt
 refine b8 (aP (cM R2 rfl (by simp) rfl rfl rfl fun h3 hl3 U3 R3=>?_))
 refine b8 (aP (cM R3 rfl (by simp) rfl rfl rfl fun h4 hl4 U4 R4=>?_))
 refine .inl ?_
 refine aG2 R4 rfl rfl fun h5 hl5 U5 R5=>?_
 refine aDE R5 rfl rfl fun h6 hl6 U6 R6=>?_
 have hne:idR≠id:=by omega
 have V:Upd (· = id) h2 h6:=((U3.trans U4 fun _ _ h=>h).trans U5 fun _ _ h=>h).trans U6 fun _ _ h=>h
 refine .inl (hq h6 ((U1.trans (U2.mono fun _ _ h=>h.elim) fun _ _ h=>h).trans V fun _ _ h=>h) ⟨idR,R6, ?_⟩)
 have P6:=P2.upd V fun i hi e=>by omega
 exact P6.low (by omega)
end
end Go.Proofs.YtcdkpkkdolmfdaaGreatDoor
