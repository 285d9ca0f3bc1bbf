/- Lemmas (several texts in one). -/
import Derived.Test.YtpaphfeihpgamaaDoorMg3
set_option linter.unusedVariables false
set_option linter.unusedSimpArgs false
set_option linter.unusedSectionVars false
set_option maxRecDepth 20000
namespace Go.Proofs.YtpaphfeihpgamaaDoor
open Go.GAM
open Go.Infl (bF dA bW Out Lim)
structure DR where
 past:AV
 total:Nat
 fresh:AV
 input:Nat
 last:Bool
 done:Bool
 bad:Bool
 skip:Bool
 rest:List UInt8
 acc:Nat
 have':Nat
 need:Nat
 code:AV
 next:AV
abbrev iN (n:Nat):AV:=.i .i64 (n:Int)
def DR.cells (L:Lim) (r:DR):List AV:=[iN L.output,iN L.ratio,r.past,iN r.total,r.fresh,iN r.input,.b r.last,.b r.done,.b r.bad,.b r.skip,.s r.rest,iN r.acc,iN r.have',iN r.need,r.code,r.next]
abbrev dp (d:Nat):AV:=.p (some ⟨d,16,0⟩)
abbrev cp (c:Nat):AV:=.p (some ⟨c,52,0⟩)
abbrev Fn (f:FuncId) (cap:List AV):AV:=.fn (.func f) [] cap
def bB (l:List Nat):List AV:=l.map fun n:Nat=>.i .i64 (n:Int)
def Mut (d:Nat) (r:DR) (i:Nat):Prop:=i=d∨aO r.past i∨aO r.fresh i
structure Dec (L:Lim) (h:aA) (F:Nat→Prop) (d:Nat) (r:DR) (out:List UInt8) (told:Nat):Prop where
 recd:bC h d (r.cells L)
 past:Stk h r.past (out.map byteAV)
 fresh:Stk h r.fresh ((out.drop told).map byteAV)
 total:r.total=out.length
 told:told≤out.length
 d1:¬ aO r.past d
 d2:¬ aO r.fresh d
 d3:∀ i,aO r.past i→¬ aO r.fresh i
 lim:L.output≤65536∧L.ratio≤1100
 inp:r.input≤1099511627776
 len:out.length≤65536
 f:∀ i,Mut d r i→F i
theorem Dec.lt {L:Lim} {h:aA} {F:Nat→Prop} {d:Nat} {r:DR} {out:List UInt8} {told:Nat} (D:Dec L h F d r out told) {i:Nat} (hi:Mut d r i):i<h.length:=by
 rcases hi with rfl | hi | hi
 ·exact D.recd.lt
 ·exact D.past.rd.lt hi
 ·exact D.fresh.rd.lt hi
theorem Dec.upd {L:Lim} {h h':aA} {F:Nat→Prop} {d:Nat} {r:DR} {out:List UInt8} {told:Nat} (D:Dec L h F d r out told) {M:Nat→Prop} (U:Upd M h h') (hM:∀ i,Mut d r i→¬ M i):Dec L h' F d r out told:=
 { D with recd:=D.recd.upd U (hM d (.inl rfl)),past:=D.past.upd U fun i hi=>hM i (.inr (.inl hi)),fresh:=D.fresh.upd U fun i hi=>hM i (.inr (.inr hi)) }
theorem Dec.ext {L:Lim} {h h':aA} {F:Nat→Prop} {d:Nat} {r:DR} {out:List UInt8} {told:Nat} (D:Dec L h F d r out told) (U:Upd (fun _=>False) h h'):Dec L h' F d r out told:=D.upd U fun _ _ h=>h
theorem Dec.with {L:Lim} {h h':aA} {F:Nat→Prop} {d:Nat} {r r':DR} {out:List UInt8} {told:Nat} (D:Dec L h F d r out told) (U:Upd (· = d) h h') (R:bC h' d (r'.cells L)) (h1:r'.past=r.past) (h2:r'.fresh=r.fresh) (h3:r'.total=r.total) (h4:r'.input=r.input):Dec L h' F d r' out told:=
 { recd:=R,past:=by rw [h1]; exact D.past.upd U fun i hi e=>D.d1 (e ▸ hi),fresh:=by rw [h2]; exact D.fresh.upd U fun i hi e=>D.d2 (e ▸ hi),total:=by rw [h3]; exact D.total,told:=D.told,d1:=by rw [h1]; exact D.d1,d2:=by rw [h2]; exact D.d2,d3:=by rw [h1,h2]; exact D.d3,lim:=D.lim,inp:=by rw [h4]; exact D.inp,len:=D.len,f:=fun i hi=>D.f i (by unfold Mut at hi ⊢; rw [h1,h2] at hi; exact hi) }
def Bx (h:aA) (G:Nat→Prop) (b v:AV):Prop:=∃ id,b = .p (some ⟨id,1,0⟩)∧bC h id [v]∧G id
theorem Bx.upd {h h':aA} {G G' N:Nat→Prop} {b v:AV} (B:Bx h G b v) (U:Upd N h h') (hN:∀ i,G i→¬ N i) (hG:∀ i,i<h.length→G i→G' i):Bx h' G' b v:=by
 obtain ⟨id,e,R,g⟩:=B
 exact ⟨id,e,R.upd U (hN id g),hG id R.lt g⟩
theorem Bx.ld {h:aA} {G:Nat→Prop} {b v:AV} {K:AV→Prop} (B:Bx h G b v):aB b h K=K v:=by
 obtain ⟨id,rfl,R,g⟩:=B
 exact aGZ R rfl rfl
theorem Bx.new {h h1:aA} {G:Nat→Prop} {v:AV} (R:bC h1 h.length [v]) (hG:G h.length):Bx h1 G (.p (some ⟨h.length,1,0⟩)) v:=⟨_,rfl,R,hG⟩
def cR (l:List Nat) (n:Nat):Nat:=((List.range n).map (Huff.cnt l)).sum
def i5 (n:Nat):List Nat→Nat→List Nat
 | [],_=>[]
 | x :: r,i=>if x=n then i :: i5 n r (i+1) else i5 n r (i+1)
def wW (l:List Nat) (n:Nat):List Nat:=i5 n l 0
def eK (l:List Nat) (n:Nat):List Nat:=(List.range n).flatMap fun k=>wW l (k+1)
def cQ (l:List Nat) (sym:AV) (n x:Nat):List AV:=bB ((List.range 16).map (Huff.cnt l))++bB ((List.range 16).map (Huff.fst l))++[sym]++bB ((List.range 16).map (cR l))++[iN (Huff.longest l),iN x,iN n]
structure bZ (h:aA) (G:Nat→Prop) (id:Nat) (l:List Nat) (sym:AV) (n x:Nat):Prop where
 recd:bC h id (cQ l sym n x)
 syms:RdI 1 h sym (bB (eK l 15)) (eK l 15).length
 g:G id
 gs:∀ i,aO sym i→G i∧i≠id∧i<h.length
 ok:Huff.checkP l=0
 len:l.length≤320
 le:∀ x∈l,x≤15
theorem bZ.upd {h h':aA} {G G' N:Nat→Prop} {id n x:Nat} {l:List Nat} {sym:AV} (A:bZ h G id l sym n x) (U:Upd N h h') (hN:∀ i,G i→¬ N i) (hG:∀ i,i<h.length→G i→G' i):bZ h' G' id l sym n x:=
 { A with recd:=A.recd.upd U (hN id A.g),syms:=A.syms.upd U fun i hi=>hN i (A.gs i hi).1,g:=hG id A.recd.lt A.g,gs:=fun i hi=>⟨hG i (A.gs i hi).2.2 (A.gs i hi).1,(A.gs i hi).2.1,Nat.lt_of_lt_of_le (A.gs i hi).2.2 U.1⟩ }
def dE (h:aA) (G:Nat→Prop) (v:AV) (l:List Nat):Prop:=∃ id b,v = .sl (some ⟨id,l.length,0⟩) l.length none∧h[id]? = some b∧b.cells=bB l∧b.floor≤l.length∧b.ro=false∧b.sz=1∧G id
theorem dE.upd {h h':aA} {G G' N:Nat→Prop} {v:AV} {l:List Nat} (A:dE h G v l) (U:Upd N h h') (hN:∀ i,G i→¬ N i) (hG:∀ i,i<h.length→G i→G' i):dE h' G' v l:=by
 obtain ⟨id,b,e,h1,h2,h3,h4,h5,g⟩:=A
 exact ⟨id,b,e,(U.2 id (aI h1) (hN id g)).trans h1,h2,h3,h4,h5,hG id (aI h1) g⟩
def Exa (h:aA) (v:AV) (l:List Nat):Prop:=
 (v = .sl none 0 none∧l=[])∨∃ id b,v = .sl (some ⟨id,l.length,0⟩) l.length none∧h[id]? = some b∧b.sz=1∧b.cells=bB l∧b.floor≤l.length∧b.ro=false∧b.gl=false
theorem Exa.upd {M:Nat→Prop} {h h':aA} {v:AV} {l:List Nat} (S:Exa h v l) (U:Upd M h h') (hM:∀ i,aO v i→¬ M i):Exa h' v l:=by
 rcases S with h1 | ⟨id,b,rfl,h1,h2⟩
 ·exact .inl h1
 ·exact .inr ⟨id,b,rfl,(U.2 id (aI h1) (hM id rfl)).trans h1,h2⟩
theorem Exa.lt {h:aA} {v:AV} {l:List Nat} (S:Exa h v l) {i:Nat} (hi:aO v i):i<h.length:=by
 rcases S with ⟨rfl,_⟩ | ⟨id,b,rfl,h1,h2⟩
 ·exact hi.elim
 ·have e : id = i := hi
  exact e ▸ aI h1
def Lst (h:aA) (G:Nat→Prop) (v:AV) (l:List Nat):Prop:=Exa h v l∧∀ i,aO v i→G i
theorem Lst.upd {h h':aA} {G G' N:Nat→Prop} {v:AV} {l:List Nat} (A:Lst h G v l) (U:Upd N h h') (hN:∀ i,G i→¬ N i) (hG:∀ i,i<h.length→G i→G' i):Lst h' G' v l:=
 ⟨A.1.upd U fun i hi=>hN i (A.2 i hi),fun i hi=>hG i (A.1.lt hi) (A.2 i hi)⟩
def Two (h:aA) (G:Nat→Prop) (ia:Nat) (syma:AV) (a:List Nat) (ib:Nat) (symb:AV) (b:List Nat):Prop:=
 bZ h (fun i=>G i∧i≠ib) ia a syma 0 0∧bZ h (fun i=>G i∧i≠ia) ib b symb 0 0
theorem Two.upd {h h':aA} {G G' N:Nat→Prop} {ia ib:Nat} {syma symb:AV} {a b:List Nat} (A:Two h G ia syma a ib symb b) (U:Upd N h h') (hN:∀ i,G i→¬ N i) (hG:∀ i,i<h.length→G i→G' i):Two h' G' ia syma a ib symb b:=
 ⟨A.1.upd U (fun i hi=>hN i hi.1) fun i hl hi=>⟨hG i hl hi.1,hi.2⟩,A.2.upd U (fun i hi=>hN i hi.1) fun i hl hi=>⟨hG i hl hi.1,hi.2⟩⟩
def Clo (h:aA) (G:Nat→Prop) (d:Nat) (ic:Nat) (sym:AV):bW→AV→Prop
 | .block,v=>∃ bd,v=Fn Y50.id [bd]∧Bx h G bd (dp d)
 | .stored1,v=>∃ bd,v=Fn Y47.id [bd]∧Bx h G bd (dp d)
 | .stored2 n,v=>∃ bn bd,v=Fn Y55.id [bn,bd]∧Bx h G bn (iN n)∧Bx h G bd (dp d)
 | .raw n,v=>∃ bd bn,v=Fn Y56.id [bd,bn]∧Bx h G bd (dp d)∧Bx h G bn (iN n)
 | .lit a b,v=>∃ bd ba bb ib symb,v=Fn Y48.id [bd,ba,bb]∧Bx h G bd (dp d)∧Bx h G ba (cp ic)∧Bx h G bb (cp ib)∧bZ h G ib b symb 0 0∧¬ aO sym ib
 | .more a b n,v=>∃ bd bb bn ba ia syma ib symb,v=Fn Y53.id [bd,bb,bn,ba]∧Bx h G bd (dp d)∧Bx h G bb (cp ib)∧Bx h G bn (iN n)∧Bx h G ba (cp ia)∧Two h G ia syma a ib symb b
 | .far a b n,v=>∃ bd bn bm ba bb n0 m ia syma,v=Fn Y64.id [bd,bn,bm,ba,bb]∧n=n0+m∧Bx h G bd (dp d)∧Bx h G bn (iN n0)∧Bx h G bm (iN m)∧Bx h G ba (cp ia)∧Bx h G bb (cp ic)∧bZ h G ia a syma 0 0∧¬ aO sym ia
 | .farMore a b n f,v=>∃ bd bn bm bf ba bb n0 m ia syma ib symb,v=Fn Y51.id [bd,bn,bm,bf,ba,bb]∧n=n0+m∧Bx h G bd (dp d)∧Bx h G bn (iN n0)∧Bx h G bm (iN m)∧Bx h G bf (iN f)∧Bx h G ba (cp ia)∧Bx h G bb (cp ib)∧Two h G ia syma a ib symb b
 | .dyn1,v=>∃ bd,v=Fn Y63.id [bd]∧Bx h G bd (dp d)
 | .dyn2 lits,v=>∃ bd bl,v=Fn Y58.id [bd,bl]∧Bx h G bd (dp d)∧Bx h G bl (iN lits)
 | .dyn3 lits dists,v=>∃ bd bl bs,v=Fn Y61.id [bd,bl,bs]∧Bx h G bd (dp d)∧Bx h G bl (iN lits)∧Bx h G bs (iN dists)
 | .third l i n lits dists,v=>∃ bl bi bd bn bt bs lv,v=Fn Y52.id [bl,bi,bd,bn,bt,bs]∧dE h G lv l∧Bx h (fun i=>G i∧¬ aO lv i) bl lv∧Bx h (fun i=>G i∧¬ aO lv i) bi (iN i)∧Bx h (fun i=>G i∧¬ aO lv i) bd (dp d)∧Bx h (fun i=>G i∧¬ aO lv i) bn (iN n)∧Bx h (fun i=>G i∧¬ aO lv i) bt (iN lits)∧Bx h (fun i=>G i∧¬ aO lv i) bs (iN dists)
 | .lens c l lits dists,v=>∃ bd bc bl bt bs br lv,v=Fn Y23.id [bd,bc,bl,bt,bs,br]∧Lst h G lv l∧(∀ i,aO lv i→¬ aO sym i)∧Bx h (fun i=>G i∧¬ aO lv i) bd (dp d)∧Bx h (fun i=>G i∧¬ aO lv i) bc (cp ic)∧Bx h (fun i=>G i∧¬ aO lv i) bl lv∧Bx h (fun i=>G i∧¬ aO lv i) bt (iN lits)∧Bx h (fun i=>G i∧¬ aO lv i) bs (iN dists)∧Bx h (fun i=>G i∧¬ aO lv i) br (Fn Y39.id [bd,bl,bt,bs,bc])
 | .rep c l lits dists m x,v=>∃ bl bm bt bs bd bc bx ic symc lv,v=Fn Y49.id [bl,bm,bt,bs,bd,bc,bx]∧Lst h (fun i=>G i∧i≠ic∧¬ aO symc i) lv l∧bZ h G ic c symc 0 0∧Bx h (fun i=>G i∧¬ aO lv i) bl lv∧Bx h (fun i=>G i∧¬ aO lv i) bm (iN m)∧Bx h (fun i=>G i∧¬ aO lv i) bt (iN lits)∧Bx h (fun i=>G i∧¬ aO lv i) bs (iN dists)∧Bx h (fun i=>G i∧¬ aO lv i) bd (dp d)∧Bx h (fun i=>G i∧¬ aO lv i) bc (cp ic)∧Bx h (fun i=>G i∧¬ aO lv i) bx (iN x)
theorem Clo.upd {h h':aA} {G G' N:Nat→Prop} {d ic:Nat} {sym:AV} {c:bW} {v:AV} (A:Clo h G d ic sym c v) (U:Upd N h h') (hN:∀ i,G i→¬ N i) (hG:∀ i,i<h.length→G i→G' i):Clo h' G' d ic sym c v:=by
 have b:∀ {x y},Bx h G x y→Bx h' G' x y:=fun B=>B.upd U hN hG
 have b2:∀ {x y} {S:Nat→Prop},Bx h (fun i=>G i∧¬ S i) x y→Bx h' (fun i=>G' i∧¬ S i) x y:=fun B=>B.upd U (fun i hi=>hN i hi.1) fun i hl hi=>⟨hG i hl hi.1,hi.2⟩
 have k:∀ {i l s n x},bZ h G i l s n x→bZ h' G' i l s n x:=fun B=>B.upd U hN hG
 have tw:∀ {ia syma a ib symb b},Two h G ia syma a ib symb b→Two h' G' ia syma a ib symb b:=fun B=>B.upd U hN hG
 cases c with
 | block=>obtain ⟨bd,e,h1⟩:=A; exact ⟨bd,e,b h1⟩
 | stored1=>obtain ⟨bd,e,h1⟩:=A; exact ⟨bd,e,b h1⟩
 | stored2 n=>obtain ⟨bn,bd,e,h1,h2⟩:=A; exact ⟨bn,bd,e,b h1,b h2⟩
 | raw n=>obtain ⟨bn,bd,e,h1,h2⟩:=A; exact ⟨bn,bd,e,b h1,b h2⟩
 | lit x y=>obtain ⟨bd,ba,bb,ib,symb,e,h1,h2,h3,h4,h5⟩:=A; exact ⟨bd,ba,bb,ib,symb,e,b h1,b h2,b h3,k h4,h5⟩
 | more x y n=>obtain ⟨bd,bb,bn,ba,ia,syma,ib,symb,e,h1,h2,h3,h4,h5⟩:=A; exact ⟨bd,bb,bn,ba,ia,syma,ib,symb,e,b h1,b h2,b h3,b h4,tw h5⟩
 | far x y n=>obtain ⟨bd,bn,bm,ba,bb,n0,m,ia,syma,e,hn,h1,h2,h3,h4,h5,h6,h7⟩:=A; exact ⟨bd,bn,bm,ba,bb,n0,m,ia,syma,e,hn,b h1,b h2,b h3,b h4,b h5,k h6,h7⟩
 | farMore x y n f=>obtain ⟨bd,bn,bm,bf,ba,bb,n0,m,ia,syma,ib,symb,e,hn,h1,h2,h3,h4,h5,h6,h7⟩:=A; exact ⟨bd,bn,bm,bf,ba,bb,n0,m,ia,syma,ib,symb,e,hn,b h1,b h2,b h3,b h4,b h5,b h6,tw h7⟩
 | dyn1=>obtain ⟨bd,e,h1⟩:=A; exact ⟨bd,e,b h1⟩
 | dyn2 lits=>obtain ⟨bd,bl,e,h1,h2⟩:=A; exact ⟨bd,bl,e,b h1,b h2⟩
 | dyn3 lits dists=>obtain ⟨bd,bl,bs,e,h1,h2,h3⟩:=A; exact ⟨bd,bl,bs,e,b h1,b h2,b h3⟩
 | third l i n lits dists=>obtain ⟨bl,bi,bd,bn,bt,bs,lv,e,h0,h1,h2,h3,h4,h5,h6⟩:=A; exact ⟨bl,bi,bd,bn,bt,bs,lv,e,h0.upd U hN hG,b2 h1,b2 h2,b2 h3,b2 h4,b2 h5,b2 h6⟩
 | lens x l lits dists=>obtain ⟨bd,bc,bl,bt,bs,br,lv,e,h0,h00,h1,h2,h3,h4,h5,h6⟩:=A; exact ⟨bd,bc,bl,bt,bs,br,lv,e,h0.upd U hN hG,h00,b2 h1,b2 h2,b2 h3,b2 h4,b2 h5,b2 h6⟩
 | rep x l lits dists m y=>obtain ⟨bl,bm,bt,bs,bd,bc,bx,ic,symc,lv,e,h0,h00,h1,h2,h3,h4,h5,h6,h7⟩:=A; exact ⟨bl,bm,bt,bs,bd,bc,bx,ic,symc,lv,e,h0.upd U (fun i hi=>hN i hi.1) (fun i hl hi=>⟨hG i hl hi.1,hi.2⟩),k h00,b2 h1,b2 h2,b2 h3,b2 h4,b2 h5,b2 h6,b2 h7⟩
def Gd (F:Nat→Prop) (d:Nat) (r:DR) (i:Nat):Prop:=F i∧¬ Mut d r i
def jP:bW→Option (List Nat)
 | .lit a _=>some a
 | .far _ b _=>some b
 | .lens c _ _ _=>some c
 | _=>none
def vH (h:aA) (F:Nat→Prop) (d:Nat) (r:DR):dA→bW→Prop
 | .num need have' acc,c=>jP c=none∧r.code = .p none∧r.need=need∧r.have'=have'∧r.acc=acc∧Clo h (Gd F d r) d 0 (.p none) c r.next
 | .sym l n x,c=>jP c=some l∧∃ ic sym,r.code=cp ic∧bZ h (Gd F d r) ic l sym n x∧Clo h (fun i=>Gd F d r i∧i≠ic) d ic sym c r.next
def fit:bW→Nat→Prop
 | .block,v=>v<8
 | .stored1,v=>v<65536
 | .stored2 n,v=>n<65536∧v<65536
 | .raw n,v=>0<n∧n<65536∧v<256
 | .lit a b,v=>v<320
 | .more a b n,v=>n+v≤300
 | .far a b n,v=>n≤300∧v<320
 | .farMore a b n f,v=>n≤300∧0<f∧f+v≤32768
 | .dyn1,v=>v<32
 | .dyn2 lits,v=>lits≤286∧v<32
 | .dyn3 lits dists,v=>lits≤286∧dists≤30∧v<16
 | .third l i n lits dists,v=>lits≤286∧dists≤30∧l.length=19∧i<n∧n≤19∧(∀ x∈l,x<8)∧v<8
 | .lens c l lits dists,v=>c.length≤19∧lits≤286∧dists≤30∧l.length<lits+dists∧(∀ x∈l,x<16)∧v<19
 | .rep c l lits dists m x,v=>c.length≤19∧lits≤286∧dists≤30∧l.length<lits+dists∧(∀ x∈l,x<16)∧x<16∧0<m∧m+v≤138
def short:bW→Prop
 | .more .. | .farMore ..=>True
 | _=>False
def wA:dA→bW→Prop
 | .num need have' acc,c=>need≤16∧acc<2 ^ have'∧(have'<need∨need=0∧have'=0∧short c)∧∀ v,v<2 ^ need→fit c v
 | .sym l n x,c=>n≤15∧x<2 ^ n∧∀ v,v<l.length→fit c v
def eno:Nat→Int
 | 1=>2
 | 2=>16
 | _=>2
def St (h:aA) (F:Nat→Prop) (d:Nat) (r:DR):Out→Int→Prop
 | .wait k w c,e=>e=0∧r.last=k.last∧r.skip=k.skip∧r.done=false∧vH h F d r w c∧wA w c
 | .done k,e=>e=0∧r.done=true
 | .err x k,e=>e=eno x∧(x=1∨x=2)∧r.done=false
structure cM (M:Nat→Prop) (L:Lim) (h:aA) (F:Nat→Prop) (d:Nat) (r:DR) (told:Nat) (o:Out) (e:Int) (h':aA) (r':DR):Prop where
 upd:Upd M h h'
 keep:∀ i,i<h.length→Mut d r' i→Mut d r i
 dec:Dec L h' F d r' o.core.out told
 inp:r'.input=r.input
 bad:r'.bad=r.bad
 rest:r'.rest=r.rest
 st:St h' F d r' o e
theorem cM.from {M N:Nat→Prop} {L:Lim} {h h1 h':aA} {F:Nat→Prop} {d:Nat} {r r1 r':DR} {told:Nat} {o:Out} {e:Int} (P:cM M L h1 F d r1 told o e h' r') (U:Upd N h h1) (hN:∀ i,i<h.length→N i→M i) (hk:∀ i,i<h.length→Mut d r1 i→Mut d r i) (e1:r1.input=r.input) (e2:r1.bad=r.bad) (e3:r1.rest=r.rest):cM M L h F d r told o e h' r':=
 ⟨(U.mono hN).trans P.upd fun _ _ h=>h,fun i hi hm=>hk i hi (P.keep i (Nat.lt_of_lt_of_le hi U.1) hm),P.dec,P.inp.trans e1,P.bad.trans e2,P.rest.trans e3,P.st⟩
theorem cM.mono {M N:Nat→Prop} {L:Lim} {h h':aA} {F:Nat→Prop} {d:Nat} {r r':DR} {told:Nat} {o:Out} {e:Int} (P:cM M L h F d r told o e h' r') (hN:∀ i,i<h.length→M i→N i):cM N L h F d r told o e h' r':={ P with upd:=P.upd.mono hN }
end Go.Proofs.YtpaphfeihpgamaaDoor
namespace Go.Proofs.YtpaphfeihpgamaaDoor
open Go.GAM
open Go.Infl (bF dA bW Out Lim)
theorem ltr {a b:Nat} (h:Nat.ble (a+1) b=true):a<b:=Nat.le_of_ble_eq_true h
section
variable [XR] {h:aA} {Q:AV→aA→Prop} {L:Lim} {F:Nat→Prop} {d:Nat} {r:DR} {out:List UInt8} {told:Nat}
theorem Dec.gd (D:Dec L h F d r out told) (hF:∀ i,h.length≤i→F i) {i:Nat} (hi:h.length≤i):Gd F d r i:=⟨hF i hi,fun m=>absurd (D.lt m) (by omega)⟩
theorem aDG (D:Dec L h F d r out told) {n:Nat} {f:FuncId} {cap:List AV} (hq:∀ h',h'.length=h.length→Upd (· = d) h h'→Dec L h' F d { r with acc:=0,have':=0,need:=n,code:=.p none,next:=Fn f cap } out told→Q (iN 0) h'):C Y27.id [dp d,iN n,Fn f cap] h Q:=by
 refine Y27.call ?_
 simp only [Y27.t,bI,bH]
 refine aQ D.recd rfl (ltr rfl) (hk:=fun h1 l1 U1 R1=>?_)
 refine aQ R1 rfl (ltr rfl) (hk:=fun h2 l2 U2 R2=>?_)
 refine aQ R2 rfl (ltr rfl) (hk:=fun h3 l3 U3 R3=>?_)
 refine aQ R3 rfl (ltr rfl) (hk:=fun h4 l4 U4 R4=>?_)
 refine aQ R4 rfl (ltr rfl) (hk:=fun h5 l5 U5 R5=>?_)
 have U:=(((U1.trans U2 fun _ _ h=>h).trans U3 fun _ _ h=>h).trans U4 fun _ _ h=>h).trans U5 fun _ _ h=>h
 exact .inl (hq h5 (by omega) U (D.with U R5 rfl rfl rfl rfl))
theorem dH (D:Dec L h F d r out told) (hd:r.done=false) {n:Nat} {c:bW} {f:FuncId} {cap:List AV} (hc:Clo h (Gd F d r) d 0 (.p none) c (Fn f cap)) (hf:wA (.num n 0 0) c)
  (hq:∀ h' r',cM (· = d) L h F d r told (.wait ⟨out,r.last,r.skip⟩ (.num n 0 0) c) 0 h' r'→Q (iN 0) h') (hco:jP c=none:=by rfl):C Y27.id [dp d,iN n,Fn f cap] h Q:=
 aDG D fun h' hl U D'=>hq h' { r with acc:=0,have':=0,need:=n,code:=.p none,next:=Fn f cap } ⟨U,fun _ _ h=>h,D',rfl,rfl,rfl,rfl,rfl,rfl,hd,⟨hco,rfl,rfl,rfl,rfl,hc.upd U (fun i hi e=>hi.2 (.inl e)) fun _ _ h=>h⟩,hf⟩
theorem pG (D:Dec L h F d r out told) (hd:r.done=false) {l:List Nat} {ic:Nat} {sym:AV} {c:bW} {f:FuncId} {cap:List AV} (hk:bZ h (Gd F d r) ic l sym 0 0) (hc:Clo h (fun i=>Gd F d r i∧i≠ic) d ic sym c (Fn f cap)) (hf:wA (.sym l 0 0) c)
  (hq:∀ h' r',cM (· = d) L h F d r told (.wait ⟨out,r.last,r.skip⟩ (.sym l 0 0) c) 0 h' r'→Q (iN 0) h') (hco:jP c=some l:=by rfl):C Y35.id [dp d,cp ic,Fn f cap] h Q:=by
 refine Y35.call ?_
 simp only [Y35.t,bI,bH]
 refine aQ D.recd rfl (ltr rfl) (hk:=fun h1 l1 U1 R1=>?_)
 refine aQ R1 rfl (ltr rfl) (hk:=fun h2 l2 U2 R2=>?_)
 have U:=U1.trans U2 fun _ _ h=>h
 exact .inl (hq h2 { r with code:=cp ic,next:=Fn f cap } ⟨U,fun _ _ h=>h,D.with U R2 rfl rfl rfl rfl,rfl,rfl,rfl,rfl,rfl,rfl,hd,⟨hco,ic,sym,rfl,hk.upd U (fun i hi e=>hi.2 (.inl e)) fun _ _ h=>h,hc.upd U (fun i hi e=>hi.1.2 (.inl e)) fun _ _ h=>h⟩,hf⟩)
theorem aAN:wA (.num 3 0 0) .block:=⟨by decide,by decide,.inl (by decide),fun v hv=>hv⟩
theorem sH (D:Dec L h F d r out told) (hF:∀ i,h.length≤i→F i) (hd:r.done=false) (hq:∀ e h' r',cM (· = d) L h F d r told (Infl.block ⟨out,r.last,r.skip⟩) e h' r'→Q (.i .i64 e) h'):C Y32.id [dp d] h Q:=by
 refine Y32.call ?_
 simp only [Y32.t]
 refine bS (hk:=fun h1 l1 U1 R1=>?_)
 have D1:=D.ext U1
 have B:Bx h1 (Gd F d r) (.p (some ⟨h.length,1,0⟩)) (dp d):=Bx.new R1 (D.gd hF (Nat.le_refl _))
 refine aE R1 rfl rfl ?_
 simp only [bI,bH]
 refine aE D1.recd rfl rfl (bE ?_)
 refine aR (fun e=>?_) fun e=>?_
 ·refine aE R1 rfl rfl ?_
  simp only [bI,bH]
  refine aQ D1.recd rfl (ltr rfl) (hk:=fun h2 l2 U2 R2=>?_)
  refine .inl (hq 0 h2 { r with done:=true } ⟨(U1.mono fun _ _ h=>h.elim).trans U2 fun _ _ h=>h,fun _ _ h=>h, ?_,rfl,rfl,rfl, ?_⟩)
  ·unfold Infl.block
   rw [if_pos e]
   exact D1.with U2 R2 rfl rfl rfl rfl
  ·unfold Infl.block
   rw [if_pos e]
   exact ⟨rfl,rfl⟩
 ·refine aE R1 rfl rfl ?_
  refine dH D1 hd (c:=.block) ⟨_,rfl,B⟩ aAN fun h2 r2 P=>?_
  refine aD (.inl (hq 0 h2 r2 ?_))
  unfold Infl.block
  rw [if_neg (by simp [e])]
  exact P.from U1 (fun _ _ h=>h.elim) (fun _ _ h=>h) rfl rfl rfl
theorem aEU {n:Nat} (h0:n≠0) (h1:n<65536):wA (.num 8 0 0) (.raw n):=⟨by decide,by decide,.inl (by decide),fun v hv=>⟨by omega,h1,hv⟩⟩
theorem aFA {n:Nat} (hn:n<65536) (D:Dec L h F d r out told) (hF:∀ i,h.length≤i→F i) (hd:r.done=false) (hq:∀ e h' r',cM (· = d) L h F d r told (Infl.raw ⟨out,r.last,r.skip⟩ n) e h' r'→Q (.i .i64 e) h'):C Y44.id [dp d,iN n] h Q:=by
 refine Y44.call ?_
 simp only [Y44.t]
 refine bS (hk:=fun h1 l1 U1 R1=>?_)
 refine bS (hk:=fun h2 l2 U2 R2=>?_)
 have U:=U1.then U2
 have D2:=D.ext U
 have R1:=R1.upd U2 fun h=>h
 have B:Bx h2 (Gd F d r) (.p (some ⟨h.length,1,0⟩)) (dp d):=⟨_,rfl,R1,D.gd hF (Nat.le_refl _)⟩
 have B2:Bx h2 (Gd F d r) (.p (some ⟨h1.length,1,0⟩)) (iN n):=⟨_,rfl,R2,D.gd hF (by omega)⟩
 refine aE R2 rfl rfl (aD ?_)
 refine aR (fun e=>?_) fun e=>?_
 ·have e : n = 0 := by simpa using e
  refine aE R1 rfl rfl ?_
  refine sH D2 (fun i hi=>hF i (by omega)) hd fun e h3 r3 P=>aD (.inl (hq _ h3 r3 ?_))
  unfold Infl.raw
  rw [if_pos ‹n=0›]
  exact P.from U (fun _ _ h=>h.elim) (fun _ _ h=>h) rfl rfl rfl
 ·have e : n ≠ 0 := by simpa using e
  refine aE R1 rfl rfl ?_
  refine dH D2 hd (c:=.raw n) ⟨_,_,rfl,B,B2⟩ (aEU e hn) fun h3 r3 P=>aD (.inl (hq 0 h3 r3 ?_))
  unfold Infl.raw
  rw [if_neg e]
  exact P.from U (fun _ _ h=>h.elim) (fun _ _ h=>h) rfl rfl rfl
theorem aBM (D:Dec L h F d r out told) (hF:∀ i,h.length≤i→F i) (hd:r.done=false) (hq:∀ e h' r',cM (· = d) L h F d r told (.wait ⟨out,r.last,r.skip⟩ (.num 16 0 0) .stored1) e h' r'→Q (.i .i64 e) h'):C Y60.id [dp d] h Q:=by
 refine Y60.call ?_
 simp only [Y60.t]
 refine bS (hk:=fun h1 l1 U1 R1=>?_)
 refine aE R1 rfl rfl ?_
 refine dH (D.ext U1) hd (c:=.stored1) ⟨_,rfl,Bx.new R1 (D.gd hF (Nat.le_refl _))⟩ ⟨by decide,by decide,.inl (by decide),fun v hv=>hv⟩ fun h2 r2 P=>aD (.inl (hq 0 h2 r2 ?_))
 exact P.from U1 (fun _ _ h=>h.elim) (fun _ _ h=>h) rfl rfl rfl
theorem zJ (D:Dec L h F d r out told) (hF:∀ i,h.length≤i→F i) (hd:r.done=false) (hq:∀ e h' r',cM (· = d) L h F d r told (.wait ⟨out,r.last,r.skip⟩ (.num 5 0 0) .dyn1) e h' r'→Q (.i .i64 e) h'):C Y57.id [dp d] h Q:=by
 refine Y57.call ?_
 simp only [Y57.t]
 refine bS (hk:=fun h1 l1 U1 R1=>?_)
 refine aE R1 rfl rfl ?_
 refine dH (D.ext U1) hd (c:=.dyn1) ⟨_,rfl,Bx.new R1 (D.gd hF (Nat.le_refl _))⟩ ⟨by decide,by decide,.inl (by decide),fun v hv=>hv⟩ fun h2 r2 P=>aD (.inl (hq 0 h2 r2 ?_))
 exact P.from U1 (fun _ _ h=>h.elim) (fun _ _ h=>h) rfl rfl rfl
theorem y6 {x:Nat} {v:AV} (D:Dec L h F d r out told) (hF:∀ i,h.length≤i→F i) (hd:r.done=false) (hc:Clo h (Gd F d r) d 0 (.p none) .stored1 v) (hf:fit .stored1 x)
  (hq:∀ e h' r',cM F L h F d r told (Infl.apply L r.input ⟨out,r.last,r.skip⟩ x .stored1) e h' r'→Q (.i .i64 e) h'):bU C v [iN x] h Q:=by
 obtain ⟨bd,rfl,B⟩:=hc
 refine cP (by decide) (Y47.call ?_)
 simp only [Y47.t]
 refine bS (hk:=fun h1 l1 U1 R1=>?_)
 have B1:=B.upd U1 (fun _ _ h=>h) fun _ _ h=>h
 rw [B1.ld]
 refine dH (D.ext U1) hd (c:=.stored2 x) ⟨_,_,rfl,Bx.new R1 (D.gd hF (Nat.le_refl _)),B1⟩ ⟨by decide,by decide,.inl (by decide),fun v hv=>⟨hf,hv⟩⟩ fun h2 r2 P=>aD (.inl (hq 0 h2 r2 ?_))
 exact (P.from U1 (fun _ _ h=>h.elim) (fun _ _ h=>h) rfl rfl rfl).mono fun i _ e=>D.f i (.inl e)
theorem aA0 {x n:Nat} {v:AV} (D:Dec L h F d r out told) (hF:∀ i,h.length≤i→F i) (hd:r.done=false) (hc:Clo h (Gd F d r) d 0 (.p none) (.stored2 n) v) (hf:fit (.stored2 n) x)
  (hq:∀ e h' r',cM F L h F d r told (Infl.apply L r.input ⟨out,r.last,r.skip⟩ x (.stored2 n)) e h' r'→Q (.i .i64 e) h'):bU C v [iN x] h Q:=by
 obtain ⟨bn,bd,rfl,Bn,B⟩:=hc
 obtain ⟨hn,hx⟩:=hf
 refine cP (by decide) (Y55.call ?_)
 simp only [Y55.t,Bn.ld,B.ld,gY]
 refine dK (n:=((65535 - n:Nat):Int)) (by omega) (by omega) (by omega) ?_
 refine aR (fun e=>?_) fun e=>?_
 ·have e : ¬ (x + n = 65535) := by simp at e; omega
  refine .inl (hq 2 h r ?_)
  simp only [Infl.apply]
  rw [if_neg e]
  exact ⟨Upd.refl _ _,fun _ _ h=>h,D,rfl,rfl,rfl,rfl,.inl rfl,hd⟩
 ·have e : x + n = 65535 := by simp at e; omega
  refine aFA hn D hF hd fun e1 h1 r1 P=>aD (.inl (hq _ h1 r1 ?_))
  simp only [Infl.apply]
  rw [if_pos e]
  exact P.mono fun i _ e=>D.f i (.inl e)
theorem aFR {x:Nat} {v:AV} (D:Dec L h F d r out told) (hF:∀ i,h.length≤i→F i) (hd:r.done=false) (hc:Clo h (Gd F d r) d 0 (.p none) .dyn1 v) (hf:fit .dyn1 x)
  (hq:∀ e h' r',cM F L h F d r told (Infl.apply L r.input ⟨out,r.last,r.skip⟩ x .dyn1) e h' r'→Q (.i .i64 e) h'):bU C v [iN x] h Q:=by
 obtain ⟨bd,rfl,B⟩:=hc
 have hf:x<32:=hf
 refine cP (by decide) (Y63.call ?_)
 simp only [Y63.t]
 refine dK (n:=((x+257:Nat):Int)) (by omega) (by omega) (by omega) ?_
 refine cE fun h1 l1 U1 R1=>?_
 refine aQ R1 rfl (ltr rfl) (hk:=fun h2 l2 U2 R2=>?_)
 have U:Upd (fun _=>False) h h2:=U1.own U2 (Nat.le_refl _)
 have B2:=B.upd U (fun _ _ h=>h) fun _ _ h=>h
 have Bn:Bx h2 (Gd F d r) (.p (some ⟨h.length,1,0⟩)) (iN (x+257)):=⟨_,rfl,R2,D.gd hF (Nat.le_refl _)⟩
 refine aE R2 rfl rfl (aD ?_)
 refine aR (fun e=>?_) fun e=>?_
 ·have e : 286 < x + 257 := by simp at e; omega
  refine .inl (hq 2 h2 r ?_)
  simp only [Infl.apply]
  rw [if_pos e]
  exact ⟨U.mono fun _ _ h=>h.elim,fun _ _ h=>h,D.ext U,rfl,rfl,rfl,rfl,.inl rfl,hd⟩
 ·have e : ¬ 286 < x + 257 := by simp at e; omega
  rw [B2.ld]
  refine dH (D.ext U) hd (c:=.dyn2 (x+257)) ⟨_,_,rfl,B2,Bn⟩ ⟨by decide,by decide,.inl (by decide),fun v hv=>⟨by omega,hv⟩⟩ fun h3 r3 P=>aD (.inl (hq 0 h3 r3 ?_))
  simp only [Infl.apply]
  rw [if_neg e]
  exact (P.from U (fun _ _ h=>h.elim) (fun _ _ h=>h) rfl rfl rfl).mono fun i _ e=>D.f i (.inl e)
theorem aFG {x lits:Nat} {v:AV} (D:Dec L h F d r out told) (hF:∀ i,h.length≤i→F i) (hd:r.done=false) (hc:Clo h (Gd F d r) d 0 (.p none) (.dyn2 lits) v) (hf:fit (.dyn2 lits) x)
  (hq:∀ e h' r',cM F L h F d r told (Infl.apply L r.input ⟨out,r.last,r.skip⟩ x (.dyn2 lits)) e h' r'→Q (.i .i64 e) h'):bU C v [iN x] h Q:=by
 obtain ⟨bd,bl,rfl,B,Bl⟩:=hc
 obtain ⟨hl,hf⟩:=hf
 refine cP (by decide) (Y58.call ?_)
 simp only [Y58.t]
 refine dK (n:=((x+1:Nat):Int)) (by omega) (by omega) (by omega) ?_
 refine cE fun h1 l1 U1 R1=>?_
 refine aQ R1 rfl (ltr rfl) (hk:=fun h2 l2 U2 R2=>?_)
 have U:Upd (fun _=>False) h h2:=U1.own U2 (Nat.le_refl _)
 have B2:=B.upd U (fun _ _ h=>h) fun _ _ h=>h
 have Bl2:=Bl.upd U (fun _ _ h=>h) fun _ _ h=>h
 have Bn:Bx h2 (Gd F d r) (.p (some ⟨h.length,1,0⟩)) (iN (x+1)):=⟨_,rfl,R2,D.gd hF (Nat.le_refl _)⟩
 refine aE R2 rfl rfl (aD ?_)
 refine aR (fun e=>?_) fun e=>?_
 ·have e : 30 < x + 1 := by simp at e; omega
  refine .inl (hq 2 h2 r ?_)
  simp only [Infl.apply]
  rw [if_pos e]
  exact ⟨U.mono fun _ _ h=>h.elim,fun _ _ h=>h,D.ext U,rfl,rfl,rfl,rfl,.inl rfl,hd⟩
 ·have e : ¬ 30 < x + 1 := by simp at e; omega
  rw [B2.ld]
  refine dH (D.ext U) hd (c:=.dyn3 lits (x+1)) ⟨_,_,_,rfl,B2,Bl2,Bn⟩ ⟨by decide,by decide,.inl (by decide),fun v hv=>⟨hl,by omega,hv⟩⟩ fun h3 r3 P=>aD (.inl (hq 0 h3 r3 ?_))
  simp only [Infl.apply]
  rw [if_neg e]
  exact (P.from U (fun _ _ h=>h.elim) (fun _ _ h=>h) rfl rfl rfl).mono fun i _ e=>D.f i (.inl e)
end
end Go.Proofs.YtpaphfeihpgamaaDoor
namespace Go.Proofs.YtpaphfeihpgamaaDoor
open Go.GAM
open Go.Infl (bF dA bW Out Lim)
section
variable [XR] {h:aA} {Q:AV→aA→Prop} {L:Lim} {F:Nat→Prop} {d:Nat} {r:DR} {out:List UInt8} {told:Nat}
theorem Stk.kind {h:aA} {v:AV} {l:List AV} (S:Stk h v l):v.parts=[v]∧v.sizeOK=true∧v.cellOK=true:=by
 rcases S with ⟨rfl,_⟩ | ⟨id,b,rfl,_⟩ <;> exact ⟨rfl,rfl,rfl⟩
theorem aBN (D : Dec L h F d r out told) (hF : ∀ i, h.length ≤ i → F i) {c : UInt8} (hq0 : Infl.full L r.input out = true → Q (.i .i64 16) h)
    (hq1:Infl.full L r.input out=false→∀ p f h',Upd (Mut d r) h h'→(∀ i,i<h.length→Mut d { r with past:=p,total:=r.total+1,fresh:=f } i→Mut d r i)→Dec L h' F d { r with past:=p,total:=r.total+1,fresh:=f } (out++[c]) told→Q (.i .i64 0) h') :
    C Y16.id [dp d,.i .u8 (c.toNat:Int)] h Q:=by
  have ht:=D.total
  have hi:=D.inp
  obtain ⟨hl1,hl2⟩:=D.lim
  have hmul:L.ratio * r.input≤1100 * 1099511627776:=Nat.mul_le_mul hl2 hi
  have hld:=D.recd.lt
  have P0 : ∀ b, b = Infl.full L r.input out → Y16.p0 (aK h Q) (dp d) (c.toNat : Int) b h := by
    intro b hb
    refine Y16.i0 ?_
    simp only [Y16.t0,bI,bH, ← Y16.p1.eq_1]
    refine aR (fun e=>?_) fun e=>?_
    · exact .inl (hq0 (hb ▸ e))
    · have hfull : Infl.full L r.input out = false := hb ▸ e
      have hlen:out.length<65536:=by
        unfold Infl.full at hfull
        simp at hfull
        omega
      refine aE D.recd rfl rfl (aD (dK (n:=((r.total+1:Nat):Int)) (by omega) (by omega) (by omega) ?_))
      refine aQ D.recd rfl (ltr rfl) (hk:=fun h1 l1 U1 R1=>?_)
      refine aE R1 rfl rfl ?_
      have S1:=D.fresh.upd U1 fun i hi e=>D.d2 (e ▸ hi)
      refine S1.push rfl rfl (by simp; have:=D.told; omega) (by simp; have:=D.told; omega) fun f h2 U2 S2 N2=>?_
      have R2:=R1.upd U2 D.d2
      refine aQ R2 rfl (ltr rfl) (hv:=(Stk.kind S2).1) (hs:=(Stk.kind S2).2.1) (hc:=(Stk.kind S2).2.2) (hk:=fun h3 l3 U3 R3=>?_)
      refine aE R3 rfl rfl ?_
      have T1:=D.past.upd U1 fun i hi e=>D.d1 (e ▸ hi)
      have T2:=T1.upd U2 D.d3
      have T3:=T2.upd U3 fun i hi e=>D.d1 (e ▸ hi)
      refine T3.rd.len ?_
      refine aX (by simp; omega) ?_
      refine Y16.i1 ?_
      simp only [Y16.t1,bI,bH]
      refine aE R3 rfl rfl ?_
      refine T3.push rfl rfl (by simp; omega) (by simp; omega) fun p h4 U4 S4 N4=>?_
      have R4:=R3.upd U4 D.d1
      refine aQ R4 rfl (ltr rfl) (hv:=(Stk.kind S4).1) (hs:=(Stk.kind S4).2.1) (hc:=(Stk.kind S4).2.2) (hk:=fun h5 l5 U5 R5=>?_)
      have hl12:=U2.1
      have hl34:=U4.1
      have fd:¬ aO f d:=fun hs=>by rcases N2 d hs with g | g; exact D.d2 g; omega
      have pd:¬ aO p d:=fun hs=>by rcases N4 d hs with g | g; exact D.d1 g; omega
      have S3:=S2.upd U3 fun i hi e=>fd (e ▸ hi)
      have pf:∀ i,aO p i→¬ aO f i:=by
        intro i hp hf
        have hfl:=S2.rd.lt hf
        rcases N4 i hp with g | g
        · rcases N2 i hf with g2 | g2
          · exact D.d3 i g g2
          · have:=D.past.rd.lt g; omega
        · omega
      have S4':=S3.upd U4 fun i hi e=>by
        rcases N2 i hi with g2 | g2
        · exact D.d3 i e g2
        · have:=D.past.rd.lt e; omega
      have S5:=S4'.upd U5 fun i hi e=>fd (e ▸ hi)
      have T5:=S4.upd U5 fun i hi e=>pd (e ▸ hi)
      refine .inl (hq1 hfull p f h5 ?_ ?_ ?_)
      · have a1 := (U1.mono (M' := Mut d r) fun i _ e => .inl e).trans U2 fun i _ e => .inr (.inr e)
        exact ((a1.trans U3 fun i _ e=>.inl e).trans U4 fun i _ e=>.inr (.inl e)).trans U5 fun i _ e=>.inl e
      · rintro i hi (e | e | e)
        · exact .inl e
        · rcases N4 i e with g | g
          · exact .inr (.inl g)
          · omega
        · rcases N2 i e with g | g
          · exact .inr (.inr g)
          · omega
      · have hto := D.told
        exact { recd := R5, past := by rw [List.map_append]; exact T5, fresh := by rw [List.drop_append_of_le_length hto, List.map_append]; exact S5, total := by simp [ht], told := by simp; omega, d1 := pd, d2 := fd, d3 := pf, lim := D.lim, inp := D.inp, len := by simp; omega,
                f := by
                  rintro i (e | e | e)
                  · exact D.f i (.inl e)
                  · rcases N4 i e with g | g
                    · exact D.f i (.inr (.inl g))
                    · exact hF i (by omega)
                  · rcases N2 i e with g | g
                    · exact D.f i (.inr (.inr g))
                    · exact hF i (by omega) }
  refine Y16.call ?_
  simp only [Y16.t,bI,bH, ← Y16.p0.eq_1]
  refine aE D.recd rfl rfl (aD (aE D.recd rfl rfl (aD ?_)))
  refine aR (fun e=>?_) fun e=>?_
  · refine P0 true ?_
    unfold Infl.full
    simp at e
    simp; omega
  · refine aE D.recd rfl rfl (aD (aE D.recd rfl rfl (aD (aE D.recd rfl rfl (aD ?_)))))
    refine dK (n:=((L.ratio * r.input:Nat):Int)) (by rw [Int.natCast_mul]) (by omega) (by omega) ?_
    refine dK (n:=((L.ratio * r.input+1024:Nat):Int)) (by omega) (by omega) (by omega) ?_
    refine P0 _ ?_
    unfold Infl.full
    simp at e
    have:¬ L.output≤out.length:=by omega
    simp only [this,decide_false,Bool.false_or]
    congr 1
    simp; omega
end
end Go.Proofs.YtpaphfeihpgamaaDoor
namespace Go.Proofs.YtpaphfeihpgamaaDoor
open Go.GAM
open Go.Infl (bF dA bW Out Lim)
theorem aE0 {x:Nat} (h:x<256):IntKind.wrap .u8 (x:Int)=((UInt8.ofNat x).toNat:Int):=by
 rw [xU (by omega) (by omega)]; simp; omega
section
variable [XR] {h:aA} {Q:AV→aA→Prop} {L:Lim} {F:Nat→Prop} {d:Nat} {r:DR} {out:List UInt8} {told:Nat}
theorem eM {r r':DR} (hk:∀ i,i<h.length→Mut d r' i→Mut d r i):∀ i,i<h.length→Gd F d r i→Gd F d r' i:=fun i hl hi=>⟨hi.1,fun m=>hi.2 (hk i hl m)⟩
theorem aD2 {h0' : aA} {far : Nat} (h0 : 0 < far) {n : Nat} (hn : n ≤ 300) : ∀ (m i : Nat) (h : aA) (r : DR) (k : bF), i + m = n → Dec L h F d r k.out told → (∀ i, h.length ≤ i → F i) → far ≤ k.out.length →
  (∀ e h' p f t,Upd (Mut d r) h h'→(∀ i,i<h.length→Mut d { r with past:=p,total:=t,fresh:=f } i→Mut d r i)→Dec L h' F d { r with past:=p,total:=t,fresh:=f } (Infl.copyP L r.input far m k).1.out told→((Infl.copyP L r.input far m k).2=true∧e=0∨(Infl.copyP L r.input far m k).2=false∧e=16)→Q (.i .i64 e) h') →
  Y20.p0 (aK h0' Q) (dp d) far n i h:=by
 intro m
 induction m with
 | zero =>
  intro i h r k hi D hF hf hq
  obtain rfl:i=n:=by omega
  refine Y20.i0 ?_
  simp only [Y20.t0]
  exact aX (by simp) (.inl (hq 0 h r.past r.fresh r.total (Upd.refl _ _) (fun _ _ h=>h) D (.inl ⟨rfl,rfl⟩)))
 | succ m ih =>
  intro i h r k hi D hF hf hq
  refine Y20.i0 ?_
  simp only [Y20.t0,bI,bH, ← Y20.p0.eq_1]
  refine bA (by simp; omega) ?_
  refine aE D.recd rfl rfl (aE D.recd rfl rfl (D.past.rd.len ?_))
  have hlen:=D.len
  simp only [List.length_map]
  refine dK (n:=((k.out.length - far:Nat):Int)) (by omega) (by omega) (by omega) ?_
  obtain ⟨c,hc⟩:∃ c,k.out[k.out.length - far]? = some c:=⟨_,List.getElem?_eq_getElem (by omega)⟩
  refine D.past.rd.byte (i:=k.out.length - far) hc ?_
  have hg:k.out.getD (k.out.length - far) 0=c:=by rw [List.getD_eq_getElem?_getD,hc] <;> rfl
  refine aBN D hF (fun hfull=>?_) fun hfull p f h1 U1 K1 D1=>?_
  ·refine aD (bA rfl (.inl (hq 16 h r.past r.fresh r.total (Upd.refl _ _) (fun _ _ h => h) ?_ (.inr ?_))))
   ·unfold Infl.copyP Infl.putP
    rw [if_pos hfull]
    exact D
   ·unfold Infl.copyP Infl.putP
    rw [if_pos hfull]
    exact ⟨rfl,rfl⟩
  ·refine aD (aX rfl (inc (by omega) ?_))
   refine ih (i+1) h1 _ { k with out:=k.out++[c] } (by omega) D1 (fun i hi=>hF i (Nat.le_trans U1.1 hi)) (by simp; omega) fun e h2 p2 f2 t2 U2 K2 D2 he=>?_
   have hcp:Infl.copyP L r.input far (m+1) k=Infl.copyP L r.input far m { k with out:=k.out++[c] }:=by
    rw [Infl.copyP]
    unfold Infl.putP
    rw [if_neg (by simp [hfull]),hg]
   refine hq e h2 p2 f2 t2 (U1.trans U2 K1) (fun i hi hm=>K1 i hi (K2 i (Nat.lt_of_lt_of_le hi U1.1) hm)) (by rw [hcp]; exact D2) (by rw [hcp]; exact he)
theorem pH {input far:Nat}:∀ (m:Nat) (k:bF),(Infl.copyP L input far m k).1=⟨(Infl.copyP L input far m k).1.out,k.last,k.skip⟩
 | 0,k=>by rfl
 | m + 1, k => by
  rw [Infl.copyP]
  unfold Infl.putP
  by_cases hf:Infl.full L input k.out
  ·rw [if_pos hf]
  ·rw [if_neg hf]
   exact pH m _
theorem aFQ {far n:Nat} (h0:0<far) (hn:n≤300) (hfar:far≤32768) (D:Dec L h F d r out told) (hF:∀ i,h.length≤i→F i) (hq0:out.length<far→Q (.i .i64 2) h)
  (hq:far≤out.length→∀ e h' p f t,Upd (Mut d r) h h'→(∀ i,i<h.length→Mut d { r with past:=p,total:=t,fresh:=f } i→Mut d r i)→Dec L h' F d { r with past:=p,total:=t,fresh:=f } (Infl.copyP L r.input far n ⟨out,r.last,r.skip⟩).1.out told→((Infl.copyP L r.input far n ⟨out,r.last,r.skip⟩).2=true∧e=0∨(Infl.copyP L r.input far n ⟨out,r.last,r.skip⟩).2=false∧e=16)→Q (.i .i64 e) h') :
  C Y20.id [dp d,iN n,iN far] h Q:=by
 have ht:=D.total
 refine Y20.call ?_
 simp only [Y20.t,bI,bH, ← Y20.p0.eq_1]
 refine aE D.recd rfl rfl (aD ?_)
 refine aR (fun e=>?_) fun e=>?_
 ·exact .inl (hq0 (by simp at e; omega))
 ·have e : far ≤ out.length := by simp at e; omega
  exact aD2 h0 hn n 0 h r ⟨out,r.last,r.skip⟩ (by omega) D hF e (hq e)
theorem aF9 {x n:Nat} {v:AV} (D:Dec L h F d r out told) (hF:∀ i,h.length≤i→F i) (hd:r.done=false) (hc:Clo h (Gd F d r) d 0 (.p none) (.raw n) v) (hf:fit (.raw n) x)
  (hq:∀ e h' r',cM F L h F d r told (Infl.apply L r.input ⟨out,r.last,r.skip⟩ x (.raw n)) e h' r'→Q (.i .i64 e) h'):bU C v [iN x] h Q:=by
 obtain ⟨bd,bn,rfl,B,Bn⟩:=hc
 obtain ⟨hn0,hn,hx⟩:=hf
 refine cP (by decide) (Y56.call ?_)
 simp only [Y56.t,B.ld,aE0 hx]
 refine aBN D hF (fun hfull=>?_) fun hfull p f h1 U1 K1 D1=>?_
 ·refine aD (bA rfl (.inl (hq 16 h r ?_)))
  simp only [Infl.apply,Infl.putP]
  rw [if_pos hfull]
  exact ⟨Upd.refl _ _,fun _ _ h=>h,D,rfl,rfl,rfl,rfl,.inr rfl,hd⟩
 ·refine aD (aX rfl ?_)
  have B1:=B.upd U1 (fun i hi hm=>hi.2 hm) (eM K1)
  have Bn1:=Bn.upd U1 (fun i hi hm=>hi.2 hm) (eM K1)
  rw [B1.ld,Bn1.ld]
  refine aD (dK (n:=((n - 1:Nat):Int)) (by omega) (by omega) (by omega) ?_)
  refine aFA (by omega) D1 (fun i hi=>hF i (Nat.le_trans U1.1 hi)) hd fun e h2 r2 P=>aD (.inl (hq e h2 r2 ?_))
  simp only [Infl.apply,Infl.putP]
  rw [if_neg (by simp [hfull])]
  exact (P.mono fun i _ e=>D1.f i (.inl e)).from U1 (fun i _ hm=>D.f i hm) K1 rfl rfl rfl
end
end Go.Proofs.YtpaphfeihpgamaaDoor
namespace Go.Proofs.YtpaphfeihpgamaaDoor
open Go.GAM
theorem j3 {h:aA} {v:AV} {l:List Nat} (R:RdI 1 h v (bB l) l.length) {k:IntKind} {i x:Nat} (hx:l[i]? = some x) {K:Int→Prop} (hk:K (x:Int)):aW 1 v (.i k (i:Int)) h fun a=>aB a h fun y=>asI .i64 y K:=by
 have hi:=aI hx
 rw [aGG R (by omega) (by omega),Int.toNat_natCast,aGR R hi Nat.one_pos (c:=.i .i64 (x:Int)) (by unfold bB; rw [Nat.mul_one,Nat.add_zero,List.getElem?_map,hx] <;> rfl)]
 exact hk
theorem aT (l:List Nat):(bB l).length=l.length:=by simp [bB]
theorem gQ {l:List Nat} {i x:Nat} (hx:l[i]? = some x):(bB l)[i]? = some (iN x):=by unfold bB; rw [List.getElem?_map,hx] <;> rfl
theorem i7 (l:List Nat) (i x:Nat):(bB l).set i (iN x)=bB (l.set i x):=by unfold bB; rw [List.map_set]
theorem eR (a b:List Nat):bB (a++b)=bB a++bB b:=by unfold bB; rw [List.map_append]
theorem jW (l:List Nat):(bB l).all AV.cellOK=true:=by
 rw [List.all_eq_true]; intro x hx
 obtain ⟨i,_,rfl⟩:=List.mem_map.1 hx
 rfl
theorem aB9 (a b:Nat):mmI true (a:Int) (b:Int)=((max a b:Nat):Int):=by
 unfold mmI
 rw [cond_true]
 by_cases h:(b:Int) > a
 ·have : max a b = b := by omega
  rw [this,if_pos h]
 ·have : max a b = a := by omega
  rw [this,if_neg h]
theorem yQ (x L:Nat):∀ l:List Nat,Huff.kr (l++[x]) L=Huff.kr l L+(if 0<x∧x≤L then 2 ^ (L - x) else 0)
 | []=>by simp [Huff.kr]
 | y :: l => by
  show _+Huff.kr (l++[x]) L=_+Huff.kr l L+_
  rw [yQ x L l,Nat.add_assoc]
theorem aFB {L:Nat}:∀ l:List Nat,Huff.kr l L≤l.length * 2 ^ L
 | []=>by simp [Huff.kr]
 | y :: l => by
  have:=aFB (L:=L) l
  have h2:(if 0<y∧y≤L then 2 ^ (L - y) else 0)≤2 ^ L:=by
   split
   ·exact Nat.pow_le_pow_right (by decide) (by omega)
   ·exact Nat.zero_le _
  unfold Huff.kr
  rw [List.length_cons,Nat.succ_mul]
  omega
theorem yY (x:Nat) (l:List Nat):Huff.used (l++[x])=Huff.used l+(if 0<x then 1 else 0):=by
 unfold Huff.used
 rw [List.countP_append]
 by_cases h:0<x <;> simp [h]
theorem sL (x:Nat) (l:List Nat):Huff.longest (l++[x])=max (Huff.longest l) x:=by
 unfold Huff.longest
 rw [List.foldl_append] <;> rfl
theorem aDY (l:List Nat):Huff.used l≤l.length:=List.countP_le_length
def gI (l:List Nat):Int:=match Huff.checkP l with
 | 0=>0
 | 1=>2
 | _=>1
section
variable [XR] {h:aA} {Q:AV→aA→Prop} {v:AV} {l:List Nat}
theorem jX {e:Bool} (he:e=decide (Huff.kr l 15<32768∧0<Huff.used l∧(1<Huff.used l∨1<Huff.longest l))) (hk:Huff.kr l 15≤32768) (hq:Q (.i .i64 (gI l)) h):Y4.p3 (aK h Q) e h:=by
 refine Y4.i3 ?_
 simp only [Y4.t3]
 unfold gI Huff.checkP at hq
 rw [if_neg (show ¬ 2 ^ 15<Huff.kr l 15 by omega)] at hq
 by_cases hc:Huff.kr l 15<2 ^ 15∧0<Huff.used l∧(1<Huff.used l∨1<Huff.longest l)
 ·rw [if_pos hc] at hq
  exact bA (by rw [he]; exact decide_eq_true hc) (.inl hq)
 ·rw [if_neg hc] at hq
  exact aX (by rw [he]; exact decide_eq_false hc) (.inl hq)
theorem wX (R : RdI 1 h v (bB l) l.length) (hl : l.length ≤ 320) (h15 : ∀ x ∈ l, x ≤ 15) (hq : Q (.i .i64 (gI l)) h) : ∀ (m i : Nat), i + m = l.length →
    Y4.p0 (aK h Q) (Huff.kr (l.take i) 15) (Huff.used (l.take i)) (Huff.longest (l.take i)) v l.length i h:=by
  intro m
  induction m with
  | zero =>
    intro i hi
    obtain rfl:i=l.length:=by omega
    rw [List.take_length]
    refine Y4.i0 ?_
    simp only [Y4.t0, ← Y4.p3.eq_1]
    refine aX (by simp) ?_
    refine aR (fun e=>?_) fun e=>?_
    · have e : 32768 < Huff.kr l 15 := by simp at e; omega
      unfold gI Huff.checkP at hq
      rw [if_pos (show 2 ^ 15<Huff.kr l 15 from e)] at hq
      exact .inl hq
    · have e : Huff.kr l 15 ≤ 32768 := by simp at e; omega
      refine aR ?_ ?_ <;> intro e1
      · refine aR (fun e2 => ?_) fun e2 => ?_
        · refine aR (fun e3 => ?_) fun e3 => ?_
          · refine jX ?_ e hq
            simp at e1 e2 e3 ⊢; omega
          · refine jX ?_ e hq
            simp only [decide_eq_true_eq,decide_eq_false_iff_not] at e1 e2 e3
            rw [decide_eq_decide]; omega
        · refine jX ?_ e hq
          simp at e1 e2 ⊢; omega
      · refine jX ?_ e hq
        simp at e1 ⊢; omega
  | succ m ih =>
    intro i hi
    obtain ⟨x,hx⟩:∃ x,l[i]? = some x:=⟨_,List.getElem?_eq_getElem (by omega)⟩
    have hx15:x≤15:=h15 x (List.mem_of_getElem? hx)
    have nxt:=ih (i+1) (by omega)
    rw [fE hx,yQ,yY,sL] at nxt
    have k1:=aFB (L:=15) (l.take i)
    have k2:=aDY (l.take i)
    rw [List.length_take] at k1 k2
    have k3:min i l.length * 2 ^ 15≤320 * 32768:=Nat.mul_le_mul (by omega) (by decide)
    refine Y4.i0 ?_
    simp only [Y4.t0, ← Y4.p1.eq_1]
    refine bA (by simp; omega) (j3 R hx ?_)
    refine aX (by simp) ?_
    refine Y4.i1 ?_
    simp only [Y4.t1, ← Y4.p2.eq_1]
    refine aX (by simp; omega) ?_
    refine aR (fun e=>?_) fun e=>?_
    · have e : 0 < x := by simp at e; omega
      rw [if_pos ⟨e,hx15⟩,if_pos e] at nxt
      have hp:2 ^ (15 - x)≤32768:=Nat.pow_le_pow_right (n:=2) (by decide) (show 15 - x≤15 by omega)
      have sh:∀ K:Int→Prop,K ((2 ^ (15 - x):Nat):Int)→nY .i64 1 ((15 - x:Nat):Int) K:=fun K hk=>mG (a:=1) (b:=15 - x) (by omega) (by rw [Nat.one_mul]; omega) (by rw [Nat.one_mul]; exact hk)
      generalize 2 ^ (15 - x)=pw at hp nxt sh
      refine dK (n:=((15 - x:Nat):Int)) (by omega) (by omega) (by omega) ?_
      refine sh _ ?_
      refine dK (n:=((Huff.kr (l.take i) 15+pw:Nat):Int)) (by omega) (by omega) (by omega) (inc (by omega) ?_)
      rw [aB9]
      refine Y4.i2 ?_
      simp only [Y4.t2, ← Y4.p0.eq_1]
      exact inc (by omega) nxt
    · have e : x = 0 := by simp at e; omega
      subst e
      rw [if_neg (by omega),if_neg (by omega),Nat.add_zero,Nat.add_zero,Nat.max_zero] at nxt
      refine Y4.i2 ?_
      simp only [Y4.t2, ← Y4.p0.eq_1]
      exact inc (by omega) nxt
theorem xZ (R:RdI 1 h v (bB l) l.length) (hl:l.length≤320) (h15:∀ x∈l,x≤15) (hq:Q (.i .i64 (gI l)) h):C Y4.id [v] h Q:=by
 refine Y4.call ?_
 simp only [Y4.t, ← Y4.p0.eq_1]
 refine R.len (aX (by simp; omega) (R.len ?_))
 exact wX R hl h15 hq l.length 0 (by omega)
end
def d6 (l:List Nat):List Nat:=(List.range 16).map (Huff.cnt l)
def j5 (l:List Nat) (n:Nat):List Nat:=(List.range 16).map fun j=>if j<n then Huff.fst l j else 0
theorem b7 (l:List Nat):(d6 l).length=16:=by simp [d6]
theorem gS (l:List Nat) (n:Nat):(j5 l n).length=16:=by simp [j5]
theorem lE (l:List Nat) {n:Nat} (h:n<16):(d6 l)[n]? = some (Huff.cnt l n):=by simp [d6,h]
theorem sF (l:List Nat) {n k:Nat} (h:k<16) (h2:k<n):(j5 l n)[k]? = some (Huff.fst l k):=by simp [j5,h,h2]
theorem lA (l:List Nat) (x n:Nat):Huff.cnt (l++[x]) n=if 0<x∧n=x then Huff.cnt l n+1 else Huff.cnt l n:=by
 cases n with
 | zero =>
  rw [if_neg (by omega)] <;> rfl
 | succ n =>
  show List.countP _ _=if _ then List.countP _ _+1 else List.countP _ _
  rw [List.countP_append]
  by_cases h:x=n+1
  ·rw [if_pos ⟨by omega,h.symm⟩]; simp [h]
  ·rw [if_neg (by omega)]; simp [h]
theorem aAR {l:List Nat} {x:Nat} (h0:0<x) (h:x<16):(d6 l).set x (Huff.cnt l x+1)=d6 (l++[x]):=by
 refine List.ext_getElem? fun j=>?_
 rw [List.getElem?_set]
 by_cases hj:j<16
 ·have a1 := lE (l ++ [x]) hj
  have a2:=lE l hj
  rw [a1,a2,lA]
  by_cases e:x=j
  ·subst e; rw [if_pos rfl,if_pos (by rw [b7]; exact h),if_pos ⟨h0,rfl⟩]
  ·rw [if_neg e,if_neg (by omega)]
 ·have e1 : (d6 (l ++ [x]))[j]? = none := by rw [List.getElem?_eq_none]; rw [b7]; omega
  have e2:(d6 l)[j]? = none:=by rw [List.getElem?_eq_none]; rw [b7]; omega
  rw [if_neg (by omega),e1,e2]
theorem vO {l:List Nat}:d6 (l++[0])=d6 l:=by
 unfold d6
 exact List.map_congr_left fun j _=>by rw [lA,if_neg (by omega)]
theorem aDD {l:List Nat} {n:Nat} (h:n<16):(j5 l n).set n (Huff.fst l n)=j5 l (n+1):=by
 refine List.ext_getElem? fun j=>?_
 rw [List.getElem?_set]
 by_cases hj:j<16
 ·by_cases e : n = j
  ·subst e; rw [if_pos rfl,if_pos (by rw [gS]; exact h),sF _ h (by omega)]
  ·rw [if_neg e]
   simp [j5,hj]
   by_cases hjn:j<n
   ·rw [if_pos hjn,if_pos (by omega)]
   ·rw [if_neg hjn,if_neg (by omega)]
 ·have e1 : (j5 l (n + 1))[j]? = none := by rw [List.getElem?_eq_none]; rw [gS]; omega
  have e2:(j5 l n)[j]? = none:=by rw [List.getElem?_eq_none]; rw [gS]; omega
  rw [if_neg (by omega),e1,e2]
theorem aCK (l:List Nat):j5 l 16=(List.range 16).map (Huff.fst l):=List.map_congr_left fun j hj=>by rw [if_pos (List.mem_range.1 hj)]
theorem aA4 (l:List Nat):j5 l 1=List.replicate 16 0:=by
 refine List.ext_getElem? fun j=>?_
 by_cases hj:j<16
 ·by_cases e : j = 0
  ·subst e; rw [sF _ (by omega) (by omega)] <;> rfl
  ·rw [show (j5 l 1)[j]? = some 0 from by simp [j5,hj,e]]; rw [List.getElem?_replicate,if_pos hj]
 ·rw [List.getElem?_eq_none (by rw [gS]; omega),List.getElem?_eq_none (by simp; omega)]
theorem kT (l:List Nat):∀ n,Huff.cnt l n≤l.length
 | 0=>Nat.zero_le _
 | n+1=>List.countP_le_length
theorem aB3 (l:List Nat):∀ n,Huff.fst l n≤l.length * (2 ^ (n+1) - 2)
 | 0=>Nat.zero_le _
 | n + 1 => by
  have:=aB3 l n
  have h2:=kT l n
  have hp:2≤2 ^ (n+1):=by rw [Nat.pow_succ]; have:=Nat.pow_pos (n:=n) (show 0<2 by decide); omega
  show 2 * (Huff.fst l n+Huff.cnt l n)≤_
  have e:2 ^ (n+1+1) - 2=2 * (2 ^ (n+1) - 2)+2:=by rw [Nat.pow_succ]; omega
  rw [e]
  generalize 2 ^ (n+1) - 2=P at *
  have:l.length * (2 * P+2)=2 * (l.length * P)+2 * l.length:=by rw [Nat.mul_add,Nat.mul_left_comm,Nat.mul_comm l.length 2]
  omega
theorem rZ {l:List Nat} (hl:l.length≤320) {n:Nat} (hn:n≤15):Huff.fst l n≤320 * 65536:=by
 refine Nat.le_trans (aB3 l n) (Nat.mul_le_mul hl ?_)
 have:2 ^ (n+1)≤65536:=Nat.pow_le_pow_right (n:=2) (by decide) (show n+1≤16 by omega)
 omega
def tab (c f:List Nat):List AV:=bB c++bB f
theorem dR {c f:List Nat} (hc:c.length=16) (hf:f.length=16):32=(tab c f).length:=by simp [tab,aT,hc,hf]
theorem sU {c f:List Nat} (hc:c.length=16) {n x:Nat} (hx:c[n]? = some x):(tab c f)[n]? = some (iN x):=by
 have:=aI hx
 unfold tab
 rw [List.getElem?_append_left (by rw [aT]; omega)]; exact gQ hx
theorem yB {c f:List Nat} (hc:c.length=16) {n x:Nat} (hx:f[n]? = some x):(tab c f)[16+n]? = some (iN x):=by
 unfold tab
 rw [List.getElem?_append_right (by rw [aT]; omega),aT,hc,Nat.add_sub_cancel_left]; exact gQ hx
theorem aBJ {c f:List Nat} (hc:c.length=16) {n x:Nat} (hn:n<16):(tab c f).set n (iN x)=tab (c.set n x) f:=by
 unfold tab
 rw [List.set_append_left _ _ (by rw [aT]; omega),i7]
theorem aC9 {c f:List Nat} (hc:c.length=16) {n x:Nat}:(tab c f).set (16+n) (iN x)=tab c (f.set n x):=by
 unfold tab
 rw [List.set_append_right _ _ (by rw [aT]; omega),aT,hc,Nat.add_sub_cancel_left,i7]
theorem aF1 (c f:List Nat):(tab c f).all AV.cellOK=true:=by unfold tab; rw [List.all_append,jW,jW] <;> rfl
section
variable [XR] {h:aA} {Q:AV→aA→Prop} {v:AV} {l:List Nat}
theorem zE (hl : l.length ≤ 320) {h0 : aA} {a b : Nat} (hab : a ≠ b) (ha : h0.length ≤ a) (hb : h0.length ≤ b) (hq : ∀ h', Upd (fun _ => False) h0 h' → Q (.ag (tab (d6 l) ((List.range 16).map (Huff.fst l)))) h') :
  ∀ (m n:Nat) (h:aA) (ca:List AV),n+m=16→1≤n→Upd (fun _=>False) h0 h→bC h a ca→ca.length=32→bC h b (tab (d6 l) (j5 l n))→Y6.p2 (aK h0 Q) (.p (some ⟨a,32,0⟩)) (.p (some ⟨b,32,0⟩)) n h:=by
 intro m
 induction m with
 | zero =>
  intro n h ca hn h1 U Ra hca Rb
  obtain rfl:n=16:=by omega
  rw [aCK] at Rb
  refine Y6.i2 ?_
  simp only [Y6.t2]
  refine aX (by simp) ?_
  have tl:=dR (b7 l) (f:=(List.range 16).map (Huff.fst l)) (by simp)
  refine jN Rb tl (g8 Ra hca.symm tl.symm (aF1 _ _) fun h1 l1 U1 R1=>jN R1 tl ?_)
  exact .inl (hq h1 (U.own U1 ha))
 | succ m ih =>
  intro n h ca hn h1 U Ra hca Rb
  refine Y6.i2 ?_
  simp only [Y6.t2,bH, ← Y6.p2.eq_1]
  refine bA (by simp; omega) ?_
  have tl:=dR (b7 l) (gS l n)
  have c1:=kT l (n - 1)
  have f1:=rZ hl (n:=n - 1) (by omega)
  refine dK (n:=((n - 1:Nat):Int)) (by omega) (by omega) (by omega) ?_
  refine ⟨by omega,by omega, ?_⟩
  refine aE Rb tl (o:=0+16+((n - 1:Nat):Int).toNat * 1) (v:=iN (Huff.fst l (n - 1))) ?_ (aD ?_)
  ·rw [Int.toNat_natCast,Nat.mul_one,Nat.zero_add]; exact yB (b7 l) (sF l (by omega) (by omega))
  refine dK (n:=((n - 1:Nat):Int)) (by omega) (by omega) (by omega) ?_
  refine ⟨by omega,by omega, ?_⟩
  refine aE Rb tl (o:=0+0+((n - 1:Nat):Int).toNat * 1) (v:=iN (Huff.cnt l (n - 1))) ?_ (aD ?_)
  ·rw [Int.toNat_natCast,Nat.mul_one,Nat.zero_add]; exact sU (b7 l) (lE l (by omega))
  refine dK (n:=((Huff.fst l (n - 1)+Huff.cnt l (n - 1):Nat):Int)) (by omega) (by omega) (by omega) ?_
  have sh:∀ K:Int→Prop,K ((Huff.fst l n:Nat):Int)→nY .i64 ((Huff.fst l (n - 1)+Huff.cnt l (n - 1):Nat):Int) 1 K:=fun K hk=>by
   obtain ⟨k,rfl⟩:∃ k,n=k+1:=⟨n - 1,by omega⟩
   refine mG (b:=1) (by omega) (by simp at c1 f1 ⊢; omega) ?_
   have:(Huff.fst l (k+1 - 1)+Huff.cnt l (k+1 - 1)) * 2 ^ 1=Huff.fst l (k+1):=by
    show _=2 * (Huff.fst l k+Huff.cnt l k)
    simp; omega
   rw [this]; exact hk
  refine sh _ ?_
  refine ⟨by omega,by omega, ?_⟩
  refine aQ Rb tl (o:=0+16+(n:Int).toNat * 1) (by rw [← tl]; simp; omega) (hk:=fun h1 l1 U1 R1=>?_)
  refine inc (by omega) (ih (n+1) h1 ca (by omega) (by omega) (U.own U1 hb) (Ra.upd U1 hab) hca ?_)
  rw [Int.toNat_natCast,Nat.mul_one,Nat.zero_add,aC9 (b7 l),aDD (by omega)] at R1
  exact R1
theorem y2 (hl:l.length≤320) (h15:∀ x∈l,x≤15) {h0:aA} (R0:RdI 1 h0 v (bB l) l.length) {a b:Nat} (hab:a≠b) (ha:h0.length≤a) (hb:h0.length≤b) (hq:∀ h',Upd (fun _=>False) h0 h'→Q (.ag (tab (d6 l) ((List.range 16).map (Huff.fst l)))) h') :
  ∀ (m i:Nat) (h:aA) (ca:List AV),i+m=l.length→Upd (fun _=>False) h0 h→bC h a ca→ca.length=32→bC h b (tab (d6 (l.take i)) (j5 l 1))→Y6.p0 (aK h0 Q) (.p (some ⟨a,32,0⟩)) (.p (some ⟨b,32,0⟩)) v l.length i h:=by
 intro m
 induction m with
 | zero =>
  intro i h ca hi U Ra hca Rb
  obtain rfl:i=l.length:=by omega
  rw [List.take_length] at Rb
  refine Y6.i0 ?_
  simp only [Y6.t0, ← Y6.p2.eq_1]
  exact aX (by simp) (zE hl hab ha hb hq 15 1 h ca (by omega) (by omega) U Ra hca Rb)
 | succ m ih =>
  intro i h ca hi U Ra hca Rb
  obtain ⟨x,hx⟩:∃ x,l[i]? = some x:=⟨_,List.getElem?_eq_getElem (by omega)⟩
  have hx15:x≤15:=h15 x (List.mem_of_getElem? hx)
  have c1:=kT (l.take i) x
  rw [List.length_take] at c1
  have nxt:∀ h',Upd (fun _=>False) h0 h'→bC h' a ca→bC h' b (tab (d6 (l.take (i+1))) (j5 l 1))→Y6.p1 (aK h0 Q) (.p (some ⟨a,32,0⟩)) (.p (some ⟨b,32,0⟩)) v l.length i h':=fun h' U' Ra' Rb'=>by
   refine Y6.i1 ?_
   simp only [Y6.t1, ← Y6.p0.eq_1]
   exact inc (by omega) (ih (i+1) h' ca (by omega) U' Ra' hca Rb')
  rw [fE hx] at nxt
  refine Y6.i0 ?_
  simp only [Y6.t0,bH, ← Y6.p1.eq_1]
  refine bA (by simp; omega) (j3 (R0.ext U) hx ?_)
  have tl:=dR (b7 (l.take i)) (gS l 1)
  refine aR (fun e=>?_) fun e=>?_
  ·have e : 0 < x := by simp at e; omega
   refine ⟨by omega,by omega, ?_⟩
   refine aE Rb tl (o:=0+0+(x:Int).toNat * 1) (v:=iN (Huff.cnt (l.take i) x)) ?_ (aD (inc (by omega) ?_))
   ·rw [Int.toNat_natCast,Nat.mul_one,Nat.zero_add]; exact sU (b7 _) (lE _ (by omega))
   refine ⟨by omega,by omega, ?_⟩
   refine aQ Rb tl (o:=0+0+(x:Int).toNat * 1) (by rw [← tl]; simp; omega) (hk:=fun h1 l1 U1 R1=>?_)
   refine nxt h1 (U.own U1 hb) (Ra.upd U1 hab) ?_
   rw [Int.toNat_natCast,Nat.mul_one,Nat.zero_add,Nat.zero_add,aBJ (b7 _) (by omega),aAR e (by omega)] at R1
   exact R1
  ·have e : x = 0 := by simp at e; omega
   subst e
   rw [vO] at nxt
   exact nxt h U Ra Rb
theorem yS (hl:l.length≤320) (h15:∀ x∈l,x≤15) (R:RdI 1 h v (bB l) l.length) (hq:∀ h',Upd (fun _=>False) h h'→Q (.ag (tab (d6 l) ((List.range 16).map (Huff.fst l)))) h'):C Y6.id [v] h Q:=by
 refine Y6.call ?_
 simp only [Y6.t, ← Y6.p0.eq_1]
 refine cE fun h1 l1 U1 R1=>cE fun h2 l2 U2 R2=>R.len ?_
 have U:=U1.then U2
 refine y2 hl h15 R (by omega) (Nat.le_refl _) (by omega) hq l.length 0 h2 _ (by omega) U (R1.upd U2 fun h=>h) rfl ?_
 rw [aA4]
 exact R2
end
end Go.Proofs.YtpaphfeihpgamaaDoor
namespace Go.Proofs.YtpaphfeihpgamaaDoor
open Go.GAM
theorem mB (n x:Nat):∀ (r:List Nat) (i:Nat),i5 n (r++[x]) i=i5 n r i++(if x=n then [i+r.length] else [])
 | [], i => by
  by_cases h:x=n <;> simp [i5,h]
 | y :: r, i => by
  have:=mB n x r (i+1)
  have e:i+1+r.length=i+(r.length+1):=by omega
  rw [e] at this
  simp only [List.cons_append,i5,List.length_cons]
  by_cases h:y=n
  ·rw [if_pos h,if_pos h,this] <;> rfl
  ·rw [if_neg h,if_neg h,this]
theorem lF (n:Nat):∀ (r:List Nat) (i:Nat),(i5 n r i).length=r.countP (· == n)
 | [],i=>rfl
 | y :: r, i => by
  unfold i5
  rw [List.countP_cons]
  by_cases h:y=n
  ·rw [if_pos h,List.length_cons,lF n r]; simp [h]
  ·rw [if_neg h,lF n r]; simp [h]
theorem jF (n:Nat):∀ (r:List Nat) (i k:Nat),Huff.pickFrom n r i k=(i5 n r i)[k]?
 | [],i,k=>by simp [Huff.pickFrom,i5]
 | y :: r, i, k => by
  unfold Huff.pickFrom i5
  by_cases h:y=n
  ·rw [if_pos h, if_pos h]
   cases k with
   | zero=>rfl
   | succ k=>rw [if_neg (by omega),jF n r] <;> rfl
  ·rw [if_neg h,if_neg h,jF n r]
theorem aEG (l:List Nat) (n k:Nat):Huff.pick l n k=(wW l n)[k]?:=jF n l 0 k
theorem vI (l:List Nat) (n:Nat):(wW l (n+1)).length=Huff.cnt l (n+1):=lF _ _ _
theorem fR (l:List Nat) (n:Nat):eK l (n+1)=eK l n++wW l (n+1):=by simp [eK,List.range_succ]
theorem nN (l:List Nat) (n:Nat):cR l (n+1)=cR l n+Huff.cnt l n:=by simp [cR,List.range_succ]
theorem fN (l:List Nat):∀ n,(eK l n).length=cR l (n+1)
 | 0=>rfl
 | n+1=>by rw [fR,List.length_append,fN l n,vI,nN l (n+1)]
theorem mC (l:List Nat):∀ n,cR l n≤n * l.length
 | 0=>Nat.zero_le _
 | n + 1 => by
  have:=mC l n
  have:=kT l n
  rw [nN,Nat.succ_mul]; omega
theorem p6 (l:List Nat) (n:Nat):∀ m, ∃ t,eK l (n+m)=eK l n++t
 | 0=>⟨[],by simp⟩
 | m + 1 => by
  obtain ⟨t,ht⟩:=p6 l n m
  exact ⟨t++wW l (n+m+1),by rw [show n+(m+1)=n+m+1 by omega,fR,ht,List.append_assoc]⟩
theorem aEK {l:List Nat} {n k j:Nat} (h0:0<n) (h:n≤15) (hp:Huff.pick l n k=some j):(eK l 15)[cR l n+k]? = some j:=by
 obtain ⟨n,rfl⟩:∃ m,n=m+1:=⟨n - 1,by omega⟩
 obtain ⟨t,ht⟩:=p6 l (n+1) (15 - (n+1))
 rw [show n+1+(15 - (n+1))=15 by omega,fR l n] at ht
 rw [aEG] at hp
 have hlt:=aI hp
 rw [ht,List.append_assoc,List.getElem?_append_right (by rw [fN]; omega),fN,Nat.add_sub_cancel_left,List.getElem?_append_left hlt]
 exact hp
def lg (l:List Nat):Nat→Nat
 | 0=>0
 | n+1=>if wW l (n+1)=[] then lg l n else n+1
theorem iJ {l : List Nat} (h15 : ∀ x ∈ l, x ≤ 15) : lg l 15 = Huff.longest l := by
 have key:∀ n,lg l n≤n∧(∀ x∈l,x≤n→x≤lg l n)∧(lg l n=0∨lg l n∈l):=by
  intro n
  induction n with
  | zero=>exact ⟨Nat.le_refl _,fun x _ h=>h,.inl rfl⟩
  | succ n ih =>
   unfold lg
   have hc:=vI l n
   by_cases he:wW l (n+1)=[]
   ·rw [if_pos he]
    rw [he] at hc
    have h0:List.countP (· == n+1) l=0:=hc.symm
    refine ⟨by omega,fun x hx hxn=>?_,ih.2.2⟩
    have:¬ x=n+1:=by have:=List.countP_eq_zero.1 h0 x hx; simpa using this
    exact ih.2.1 x hx (by omega)
   ·rw [if_neg he]
    refine ⟨Nat.le_refl _,fun x _ h=>h,.inr ?_⟩
    have:0<List.countP (· == n+1) l:=by
     have e:Huff.cnt l (n+1)=List.countP (· == n+1) l:=rfl
     rw [← e, ← hc]
     exact List.length_pos_iff.2 he
    obtain ⟨x,hx,hxe⟩:=List.countP_pos_iff.1 this
    have:x=n+1:=by simpa using hxe
    exact this ▸ hx
 obtain ⟨h1,h2,h3⟩:=key 15
 have a:Huff.longest l≤lg l 15:=by
  have:∀ (r:List Nat) (a b:Nat),a≤b→(∀ x∈r,x≤b)→r.foldl max a≤b:=by
   intro r
   induction r with
   | nil=>intro a b h _; exact h
   | cons y r ih=>intro a b h hr; exact ih _ _ (by have:=hr y (by simp); omega) fun x hx=>hr x (by simp [hx])
  exact this l 0 _ (Nat.zero_le _) fun x hx=>h2 x hx (h15 x hx)
 have b:lg l 15≤Huff.longest l:=by
  rcases h3 with h | h
  ·rw [h]; exact Nat.zero_le _
  ·exact Huff.le_longest h
 omega
def d4 (l:List Nat) (n:Nat):List Nat:=(List.range 16).map fun j=>if j<n then cR l j else 0
theorem dV (l:List Nat) (n:Nat):(d4 l n).length=16:=by simp [d4]
theorem rC (l:List Nat) {n k:Nat} (h:k<16) (h2:k<n):(d4 l n)[k]? = some (cR l k):=by simp [d4,h,h2]
theorem wU {l:List Nat} {n:Nat} (h:n<16):(d4 l n).set n (cR l n)=d4 l (n+1):=by
 refine List.ext_getElem? fun j=>?_
 rw [List.getElem?_set]
 by_cases hj:j<16
 ·by_cases e : n = j
  ·subst e; rw [if_pos rfl,if_pos (by rw [dV]; exact h),rC _ h (by omega)]
  ·rw [if_neg e]
   simp [d4,hj]
   by_cases hjn:j<n
   ·rw [if_pos hjn,if_pos (by omega)]
   ·rw [if_neg hjn,if_neg (by omega)]
 ·rw [if_neg (by omega),List.getElem?_eq_none (by rw [dV]; omega),List.getElem?_eq_none (by rw [dV]; omega)]
theorem wP (l:List Nat):d4 l 16=(List.range 16).map (cR l):=List.map_congr_left fun j hj=>by rw [if_pos (List.mem_range.1 hj)]
theorem wZ (l:List Nat):d4 l 1=List.replicate 16 0:=by
 refine List.ext_getElem? fun j=>?_
 by_cases hj:j<16
 ·by_cases e : j = 0
  ·subst e; rw [rC _ (by omega) (by omega)] <;> rfl
  ·rw [show (d4 l 1)[j]? = some 0 from by simp [d4,hj,e]]; rw [List.getElem?_replicate,if_pos hj]
 ·rw [List.getElem?_eq_none (by rw [dV]; omega),List.getElem?_eq_none (by simp; omega)]
def dS (c f:List Nat) (sym:AV) (s:List Nat) (g x n:Nat):List AV:=(tab c f++[sym])++(bB s++[iN g,iN x,iN n])
section
variable {c f s:List Nat} {sym:AV} {g x n:Nat}
theorem gV (hc:c.length=16) (hf:f.length=16):(tab c f++[sym]).length=33:=by rw [List.length_append, ← dR hc hf] <;> rfl
theorem cK (hc:c.length=16) (hf:f.length=16) (hs:s.length=16):52=(dS c f sym s g x n).length:=by
 unfold dS
 rw [List.length_append,gV hc hf,List.length_append,aT,hs] <;> rfl
theorem aEW (hc:c.length=16) (hf:f.length=16) {i y:Nat} (hx:c[i]? = some y):(dS c f sym s g x n)[i]? = some (iN y):=by
 have:=aI hx
 unfold dS
 rw [List.getElem?_append_left (by rw [gV hc hf]; omega),List.getElem?_append_left (by rw [← dR hc hf]; omega)]; exact sU hc hx
theorem sX (hc:c.length=16) (hf:f.length=16) {i y:Nat} (hx:f[i]? = some y):(dS c f sym s g x n)[16+i]? = some (iN y):=by
 have:=aI hx
 unfold dS
 rw [List.getElem?_append_left (by rw [gV hc hf]; omega),List.getElem?_append_left (by rw [← dR hc hf]; omega)]; exact yB hc hx
theorem tM (hc:c.length=16) (hf:f.length=16):(dS c f sym s g x n)[32]? = some sym:=by
 unfold dS
 rw [List.getElem?_append_left (by rw [gV hc hf]; omega),List.getElem?_append_right (by rw [← dR hc hf]; omega), ← dR hc hf] <;> rfl
theorem aAE (hc:c.length=16) (hf:f.length=16) {i y:Nat} (hx:s[i]? = some y):(dS c f sym s g x n)[33+i]? = some (iN y):=by
 have:=aI hx
 unfold dS
 rw [List.getElem?_append_right (by rw [gV hc hf]; omega),gV hc hf,Nat.add_sub_cancel_left,List.getElem?_append_left (by rw [aT]; omega)]; exact gQ hx
theorem eP (hc:c.length=16) (hf:f.length=16) (hs:s.length=16) {i:Nat}:(dS c f sym s g x n)[49+i]? = [iN g,iN x,iN n][i]?:=by
 unfold dS
 rw [List.getElem?_append_right (by rw [gV hc hf]; omega),gV hc hf,List.getElem?_append_right (by rw [aT]; omega),aT,hs]
 congr 1
 omega
theorem zU (hc:c.length=16) (hf:f.length=16) {v:AV}:(dS c f sym s g x n).set 32 v=dS c f v s g x n:=by
 unfold dS
 rw [List.set_append_left _ _ (by rw [gV hc hf]; omega),List.set_append_right _ _ (by rw [← dR hc hf]; omega), ← dR hc hf] <;> rfl
theorem aDI (hc:c.length=16) (hf:f.length=16) {i y:Nat} (hi:i<s.length):(dS c f sym s g x n).set (33+i) (iN y)=dS c f sym (s.set i y) g x n:=by
 unfold dS
 rw [List.set_append_right _ _ (by rw [gV hc hf]; omega),gV hc hf,Nat.add_sub_cancel_left,List.set_append_left _ _ (by rw [aT]; exact hi),i7]
theorem jL (hc:c.length=16) (hf:f.length=16) (hs:s.length=16) {i:Nat} {v:AV}:(dS c f sym s g x n).set (49+i) v=(tab c f++[sym])++(bB s++[iN g,iN x,iN n].set i v):=by
 unfold dS
 rw [List.set_append_right _ _ (by rw [gV hc hf]; omega),gV hc hf,List.set_append_right _ _ (by rw [aT]; omega),aT,hs,show 49+i - 33 - 16=i by omega]
end
theorem uT:∀ (cs pre z1 z2:List AV),z1.length=cs.length→(cs.zipIdx pre.length).foldl (fun a (p:AV × Nat)=>a.set (0+p.2) p.1) (pre++(z1++z2))=pre++(cs++z2)
 | [], pre, z1, z2, h => by
  have:z1=[]:=List.eq_nil_of_length_eq_zero h
  subst this; rfl
 | c :: cs,pre,[],z2,h=>by simp at h
 | c :: cs, pre, z :: z1, z2, h => by
  rw [List.zipIdx_cons,List.foldl_cons]
  have e:(pre++(z :: z1++z2)).set (0+pre.length) c=(pre++[c])++(z1++z2):=by
   rw [Nat.zero_add,List.set_append_right _ _ (Nat.le_refl _)]; simp
  have:=uT cs (pre++[c]) z1 z2 (by simpa using h)
  simp only at this ⊢
  rw [e]
  rw [show (pre++[c]).length=pre.length+1 by simp] at this
  rw [this]; simp
theorem wR {z1 z2 cs:List AV} (h:z1.length=cs.length):eU (z1++z2) [(0,cs.length,.ag cs)]=some (cs++z2):=by
 unfold eU
 have hc:((AV.ag cs).sizeOK&&(AV.ag cs).parts.length == cs.length&&decide (0+(AV.ag cs).parts.length≤(z1++z2).length))=true:=by
  have e1:(AV.ag cs).parts=cs:=rfl
  have e2:(AV.ag cs).sizeOK=true:=rfl
  rw [e1,e2]; simp; omega
 simp only [hc,if_true]
 unfold eU
 congr 1
 exact uT cs [] z1 z2 h
theorem aFK {c f:List Nat} (hc:c.length=16) (hf:f.length=16):eU (List.replicate 32 (iN 0)++([.sl none 0 none]++List.replicate 19 (iN 0))) [(0,32,.ag (tab c f))]=some (dS c f (.sl none 0 none) (List.replicate 16 0) 0 0 0):=by
 have:=wR (z1:=List.replicate 32 (iN 0)) (z2:=[.sl none 0 none]++List.replicate 19 (iN 0)) (cs:=tab c f) (by rw [← dR hc hf]; simp)
 rw [← dR hc hf] at this
 rw [this]
 unfold dS
 rw [List.append_assoc] <;> rfl
theorem dY (l:List Nat) (sym:AV) (n x:Nat):cQ l sym n x=dS (d6 l) ((List.range 16).map (Huff.fst l)) sym ((List.range 16).map (cR l)) (Huff.longest l) x n:=by
 simp [cQ,dS,tab,d6]
section
variable [XR] {h:aA} {Q:AV→aA→Prop} {v:AV} {l:List Nat}
theorem aAM:((List.range 16).map (Huff.fst l)).length=16:=by simp
theorem aET (hl : l.length ≤ 320) (h15 : ∀ x ∈ l, x ≤ 15) (hok : Huff.checkP l = 0) {h0 : aA} (R0 : RdI 1 h0 v (bB l) l.length) {id : Nat} (hid : h0.length ≤ id) (hq : ∀ h' sym, Upd (fun _ => False) h0 h' → bZ h' (fun i => h0.length ≤ i) id l sym 0 0 → Q (.tu [cp id, iN 0]) h') :
  ∀ (m n:Nat) (h:aA) (sym:AV),n+1+m=16→Upd (fun _=>False) h0 h→bC h id (dS (d6 l) ((List.range 16).map (Huff.fst l)) sym (d4 l (n+1)) (lg l n) 0 0)→Stk h sym (bB (eK l n))→(∀ i,aO sym i→h0.length≤i∧i≠id) →
  Y5.p0 (aK h0 Q) v (cp id) ((n+1:Nat):Int) h:=by
 intro m
 induction m with
 | zero =>
  intro n h sym hn U R S N
  obtain rfl:n=15:=by omega
  refine Y5.i0 ?_
  simp only [Y5.t0]
  refine aX (by simp) (.inl (hq h sym U ?_))
  refine ⟨?_, ?_,hid,fun i hi=>⟨(N i hi).1,(N i hi).2,S.rd.lt hi⟩,hok,hl,h15⟩
  ·rw [dY, ← iJ h15, ← wP]; exact R
  ·have := S.rd.i
   rw [aT] at this
   exact this
 | succ m ih =>
  intro n h sym hn U R S N
  have hst:=mC l (n+1)
  have hst2:(n+1) * l.length≤15 * 320:=Nat.mul_le_mul (by omega) hl
  refine Y5.i0 ?_
  simp only [Y5.t0,bI,bH, ← Y5.p1.eq_1]
  refine bA (by simp; omega) ?_
  have cl:=b7 l
  have fl:=aAM (l:=l)
  have sl:=dV l (n+1)
  refine aE R (cK cl fl sl) (tM cl fl) (S.rd.len ?_)
  refine ⟨by omega,by omega, ?_⟩
  refine aQ R (cK cl fl sl) (o:=0+33+((n+1:Nat):Int).toNat * 1) (by rw [← cK cl fl sl]; simp; omega) (hk:=fun h1 l1 U1 R1=>?_)
  rw [Int.toNat_natCast,Nat.mul_one,Nat.zero_add,aT,fN,aDI cl fl (by rw [dV]; omega),wU (by omega)] at R1
  have inn:∀ (k i:Nat) (h:aA) (sym:AV),i+k=l.length→Upd (fun _=>False) h0 h→bC h id (dS (d6 l) ((List.range 16).map (Huff.fst l)) sym (d4 l (n+2)) (if i5 (n+1) (l.take i) 0=[] then lg l n else n+1) 0 0) →
    Stk h sym (bB (eK l n++i5 (n+1) (l.take i) 0))→(∀ i,aO sym i→h0.length≤i∧i≠id)→Y5.p1 (aK h0 Q) v (cp id) ((n+1:Nat):Int) v l.length i h:=by
   intro k
   induction k with
   | zero =>
    intro i h sym hi U R S N
    obtain rfl:i=l.length:=by omega
    rw [List.take_length] at R S
    refine Y5.i1 ?_
    simp only [Y5.t1, ← Y5.p0.eq_1]
    refine aX (by simp) (inc (by omega) (ih (n+1) h sym (by omega) U R ?_ N))
    rw [fR]; exact S
   | succ k ihk =>
    intro i h sym hi U R S N
    obtain ⟨x,hx⟩:∃ x,l[i]? = some x:=⟨_,List.getElem?_eq_getElem (by omega)⟩
    have sl:=dV l (n+2)
    have nxt:∀ h' sym',Upd (fun _=>False) h0 h'→bC h' id (dS (d6 l) ((List.range 16).map (Huff.fst l)) sym' (d4 l (n+2)) (if i5 (n+1) (l.take i++[x]) 0=[] then lg l n else n+1) 0 0) →
      Stk h' sym' (bB (eK l n++i5 (n+1) (l.take i++[x]) 0))→(∀ i,aO sym' i→h0.length≤i∧i≠id)→Y5.p2 (aK h0 Q) v (cp id) ((n+1:Nat):Int) v l.length i h':=fun h' sym' U' R' S' N'=>by
     refine Y5.i2 ?_
     simp only [Y5.t2, ← Y5.p1.eq_1]
     rw [← fE hx] at R' S'
     exact inc (by omega) (ihk (i+1) h' sym' (by omega) U' R' S' N')
    refine Y5.i1 ?_
    simp only [Y5.t1,bI,bH, ← Y5.p2.eq_1]
    refine bA (by simp; omega) (j3 (R0.ext U) hx ?_)
    refine aR ?_ ?_ <;> intro e
    ·have e : x = n + 1 := by simp at e; omega
     rw [mB,if_pos e] at nxt
     have hil:(i5 (n+1) (l.take i) 0).length≤320:=by rw [lF]; refine Nat.le_trans List.countP_le_length ?_; simp; omega
     have hll:(eK l n).length≤4800:=by rw [fN]; omega
     refine aE R (cK cl fl sl) (tM cl fl) ?_
     refine S.push rfl rfl (by rw [aT]; simp; omega) (by rw [aT]; simp; omega) fun sym' h2 U2 S2 N2=>?_
     have R2:=R.upd U2 fun hh=>(N id hh).2 rfl
     refine aQ R2 (cK cl fl sl) (by rw [← cK cl fl sl]; omega) (hv:=by rcases S2 with ⟨rfl,_⟩ | ⟨id,b,rfl,_⟩ <;> rfl) (hs:=by rcases S2 with ⟨rfl,_⟩ | ⟨id,b,rfl,_⟩ <;> rfl) (hc:=by rcases S2 with ⟨rfl,_⟩ | ⟨id,b,rfl,_⟩ <;> rfl) (hk:=fun h3 l3 U3 R3=>?_)
     rw [Nat.zero_add,zU cl fl] at R3
     refine aQ R3 (cK cl fl sl) (by rw [← cK cl fl sl]; omega) (hk:=fun h4 l4 U4 R4=>?_)
     rw [Nat.zero_add,show 49=49+0 from rfl,jL cl fl sl] at R4
     have hidh:=R.lt
     have ne:∀ i,aO sym' i→h0.length≤i∧i≠id:=fun i hi=>by
      rcases N2 i hi with g | g
      ·exact N i g
      ·have:=U.1; exact ⟨by omega,by omega⟩
     refine nxt h4 sym' (((U.ownP U2 fun i hi=>(N i hi).1).own U3 hid).own U4 hid) ?_ ?_ ne
     ·rw [if_neg (by simp)]; exact R4
     ·rw [← List.append_assoc, eR, show bB [0 + (l.take i).length] = [iN i] by simp [bB]; omega]
      exact (S2.upd U3 fun i hi e=>(ne i hi).2 e).upd U4 fun i hi e=>(ne i hi).2 e
    ·have e : ¬ x = n + 1 := by simp at e; omega
     rw [mB,if_neg e,List.append_nil] at nxt
     exact nxt h sym U R S N
  refine R0.len ?_
  refine inn l.length 0 h1 sym (by omega) (U.own U1 hid) ?_ ?_ N
  ·exact R1
  ·rw [show i5 (n+1) (l.take 0) 0=[] from rfl,List.append_nil]; exact S.upd U1 fun i hi e=>(N i hi).2 e
theorem o3 (R:RdI 1 h v (bB l) l.length) (hl:l.length≤320) (h15:∀ x∈l,x≤15) (hq0:Huff.checkP l≠0→∀ e:Int,e≠0→Q (.tu [.p none,.i .i64 e]) h)
  (hq:Huff.checkP l=0→∀ h' id sym,Upd (fun _=>False) h h'→bZ h' (fun i=>h.length≤i) id l sym 0 0→Q (.tu [cp id,iN 0]) h'):C Y5.id [v] h Q:=by
 refine Y5.call ?_
 simp only [Y5.t, ← Y5.p0.eq_1]
 refine xZ R hl h15 (aD ?_)
 by_cases hok:Huff.checkP l=0
 ·have e : gI l = 0 := by simp only [gI, hok]
  rw [e]
  refine aX rfl (yS hl h15 R fun h1 U1=>?_)
  refine aE5 (aFK (c:=d6 l) (f:=(List.range 16).map (Huff.fst l)) (b7 l) aAM) ?_
  refine bS (hk:=fun h2 l2 U2 R2=>?_)
  have U:=U1.then U2
  have hlen:(AV.ag (dS (d6 l) ((List.range 16).map (Huff.fst l)) (.sl none 0 none) (List.replicate 16 0) 0 0 0)).parts.length=52:=(cK (b7 l) aAM (by simp)).symm
  rw [hlen]
  refine aET hl h15 hok R (id:=h1.length) U1.1 (fun h' sym=>hq hok h' _ sym) 15 0 h2 _ (by omega) U ?_ (.inl ⟨rfl,rfl⟩) fun i hi=>hi.elim
  rw [wZ]
  exact R2
 ·have e : gI l ≠ 0 := by
   unfold gI
   split
   ·contradiction
   ·decide
   ·decide
  refine bA (by simp [e]) (.inl (hq0 hok _ e))
theorem aFO (x:Nat) {b:Nat} (hb:b<2):2 * x ||| b=2 * x+b:=(Nat.two_pow_add_eq_or_of_lt (i:=1) hb x).symm
theorem aEO {b:Nat} (hb:b<2):b &&& 1=b:=by
 obtain rfl | rfl:b=0∨b=1:=by omega
 ·rfl
 ·rfl
theorem aCO {h0':aA} {G:Nat→Prop} {id n x s:Nat} {sym:AV} {b:Bool} {e:Int} {ca:List AV} (hc:cQ l sym 0 0=(ca.set 50 (iN 0)).set 51 (iN 0)) (hl:ca.length=52) (R:bC h id ca) (hq:∀ h',Upd (· = id) h h'→bC h' id (cQ l sym 0 0)→Q (.tu [iN s,.b b,.i .i64 e]) h') :
  Y14.p1 (aK h0' Q) (cp id) s b e h:=by
 refine Y14.i1 ?_
 simp only [Y14.t1,bI,bH]
 refine aQ R hl.symm (by rw [hl]; omega) (hk:=fun h1 l1 U1 R1=>?_)
 refine aQ R1 (by simp [hl]) (by simp [hl]) (hk:=fun h2 l2 U2 R2=>?_)
 refine .inl (hq h2 (U1.trans U2 fun _ _ h=>h) ?_)
 rw [hc]
 exact R2
end
end Go.Proofs.YtpaphfeihpgamaaDoor
namespace Go.Proofs.YtpaphfeihpgamaaDoor
open Go.GAM
section
variable [XR] {h:aA} {Q:AV→aA→Prop} {l:List Nat}
omit [XR] in
theorem yN {f:Nat→Nat} {n:Nat} (h:n<16):((List.range 16).map f)[n]? = some (f n):=by simp [h]
theorem aEV {h0' : aA} {G : Nat → Prop} {id N X : Nat} {sym : AV} {t : Bool} (A : bZ h G id l sym N X) (hN0 : 0 < N) (hN : N ≤ 16) (hX : X < 2 ^ 16) (ht : t = decide (N ≤ Huff.longest l ∧ X - Huff.fst l N < Huff.cnt l N ∧ Huff.fst l N ≤ X))
  (hq:∀ h',Upd (· = id) h h'→match Huff.stepP l N X with
   | .sym i=>bC h' id (cQ l sym 0 0)→i<l.length→Q (.tu [iN i,.b true,iN 0]) h'
   | .more=>bC h' id (cQ l sym N X)→Q (.tu [iN 0,.b false,iN 0]) h'
   | .bad=>bC h' id (cQ l sym 0 0)→Q (.tu [iN 0,.b false,iN 2]) h'):Y14.p0 (aK h0' Q) (cp id) 0 false 0 N t h:=by
 have R:=A.recd
 have hlong:Huff.longest l≤15:=by
  rw [← iJ A.le]
  have:∀ n,lg l n≤n:=by
   intro n
   induction n with
   | zero=>exact Nat.le_refl _
   | succ n ih=>unfold lg; split <;> omega
  exact this 15
 have cl:=b7 l
 have fl:=aAM (l:=l)
 have sl:((List.range 16).map (cR l)).length=16:=by simp
 rw [dY] at R
 have tl:=cK (sym:=sym) (g:=Huff.longest l) (x:=X) (n:=N) cl fl sl
 have fin:∀ {s:Nat} {b:Bool} {e:Int},(∀ h',Upd (· = id) h h'→bC h' id (cQ l sym 0 0)→Q (.tu [iN s,.b b,.i .i64 e]) h')→Y14.p1 (aK h0' Q) (cp id) s b e h:=fun {s b e} hf=>by
  refine aCO (l:=l) (sym:=sym) (G:=G) (n:=N) (x:=X) ?_ tl.symm R hf
  rw [dY,show 50=49+1 from rfl,show 51=49+2 from rfl,jL cl fl sl]
  have:=jL (c:=d6 l) (f:=(List.range 16).map (Huff.fst l)) (sym:=sym) (s:=(List.range 16).map (cR l)) (g:=Huff.longest l) (x:=0) (n:=N) (i:=2) (v:=iN 0) cl fl sl
  unfold dS at this ⊢
  exact this.symm
 refine Y14.i0 ?_
 simp only [Y14.t0,bI,bH, ← Y14.p1.eq_1]
 by_cases hc:N≤Huff.longest l∧X - Huff.fst l N<Huff.cnt l N∧Huff.fst l N≤X
 ·rw [decide_eq_true hc] at ht
  refine bA ht ?_
  obtain ⟨hc1,hc2,hc3⟩:=hc
  obtain ⟨j,hj,_,hjl,_⟩:=Huff.pick_some hN0 hc2
  have hst:Huff.stepP l N X = .sym j:=by
   unfold Huff.stepP
   rw [if_pos ⟨hc1,hc2,hc3⟩,hj] <;> rfl
  rw [hst] at hq
  have hsy:=aEK hN0 (by omega) hj
  have hsl:=aI hsy
  have b1:=mC l N
  have b2:N * l.length≤16 * 320:=Nat.mul_le_mul hN A.len
  have b3:=kT l N
  have b4:=A.len
  refine aE R tl (tM cl fl) ?_
  refine ⟨by omega,by omega, ?_⟩
  refine aE R tl (o:=33+(N:Int).toNat * 1) (v:=iN (cR l N)) ?_ (aD ?_)
  ·rw [Int.toNat_natCast,Nat.mul_one]; exact aAE cl fl (yN (by omega))
  refine aE R tl (o:=49+1) (eP cl fl sl) (aD ?_)
  refine dK (n:=((cR l N+X:Nat):Int)) (by omega) (by omega) (by omega) ?_
  refine ⟨by omega,by omega, ?_⟩
  refine aE R tl (o:=16+(N:Int).toNat * 1) (v:=iN (Huff.fst l N)) ?_ (aD ?_)
  ·rw [Int.toNat_natCast,Nat.mul_one]; exact sX cl fl (yN (by omega))
  refine dK (n:=((cR l N+(X - Huff.fst l N):Nat):Int)) (by omega) (by omega) (by omega) ?_
  refine j3 A.syms hsy ?_
  exact fin fun h' U R'=>hq h' U R' hjl
 ·rw [decide_eq_false hc] at ht
  refine aX ht ?_
  refine aE R tl (o:=49+0) (eP cl fl sl) (aD ?_)
  refine aR ?_ ?_ <;> intro e
  ·have e : N < Huff.longest l := by simp at e; omega
   have hst:Huff.stepP l N X = .more:=by
    unfold Huff.stepP
    rw [if_neg hc,if_pos e]
   rw [hst] at hq
   exact .inl (hq h (Upd.refl _ _) A.recd)
  ·have e : ¬ N < Huff.longest l := by simp at e; omega
   have hst:Huff.stepP l N X = .bad:=by
    unfold Huff.stepP
    rw [if_neg hc,if_neg e]
   rw [hst] at hq
   exact fin (s:=0) (b:=false) (e:=2) fun h' U R'=>hq h' U R'
theorem aFP {G:Nat→Prop} {id n x b:Nat} {sym:AV} (A:bZ h G id l sym n x) (hn:n≤15) (hx:x<2 ^ n) (hb:b<2)
  (hq:∀ h',Upd (· = id) h h'→match Huff.stepP l (n+1) (2 * x+b) with
   | .sym i=>bC h' id (cQ l sym 0 0)→i<l.length→Q (.tu [iN i,.b true,iN 0]) h'
   | .more=>bC h' id (cQ l sym (n+1) (2 * x+b))→Q (.tu [iN 0,.b false,iN 0]) h'
   | .bad=>bC h' id (cQ l sym 0 0)→Q (.tu [iN 0,.b false,iN 2]) h'):C Y14.id [cp id,iN b] h Q:=by
 have R:=A.recd
 have cl:=b7 l
 have fl:=aAM (l:=l)
 have sl:((List.range 16).map (cR l)).length=16:=by simp
 rw [dY] at R
 have tl:=cK (sym:=sym) (g:=Huff.longest l) (x:=x) (n:=n) cl fl sl
 have hx15:x<2 ^ 15:=Nat.lt_of_lt_of_le hx (Nat.pow_le_pow_right (by decide) hn)
 refine Y14.call ?_
 simp only [Y14.t, ← Y14.p0.eq_1]
 refine fD (by kernel_rfl) (bE (aX rfl ?_))
 simp only [bI,bH]
 refine aE R tl (o:=49+1) (eP cl fl sl) (aD ?_)
 have sh:∀ K:Int→Prop,K ((2 * x:Nat):Int)→nY .i64 (x:Int) 1 K:=fun K hk=>mG (b:=1) (by omega) (by omega) (by rw [show x * 2 ^ 1=2 * x by omega]; exact hk)
 refine sh _ ?_
 have hand:bQ .and .i64 (b:Int) 1=(b:Int):=by
  have:=i6 (x:=b) (y:=1) (by omega) (by decide)
  rw [aEO hb] at this
  exact this
 rw [hand]
 have hor:bQ .or .i64 ((2 * x:Nat):Int) (b:Int)=((2 * x+b:Nat):Int):=by
  rw [yG (by omega) (by omega),aFO x hb]
 refine aM hor ?_
 refine aE R tl (o:=49+2) (eP cl fl sl) (aD (inc (by omega) ?_))
 refine aQ R tl (o:=49+1) (by rw [← tl]; omega) (hk:=fun h1 l1 U1 R1=>?_)
 rw [jL cl fl sl] at R1
 have R1:bC h1 id (dS (d6 l) ((List.range 16).map (Huff.fst l)) sym ((List.range 16).map (cR l)) (Huff.longest l) (2 * x+b) n):=R1
 refine aQ R1 (cK cl fl sl) (o:=49+2) (by rw [← cK cl fl sl]; omega) (hk:=fun h2 l2 U2 R2=>?_)
 rw [jL cl fl sl] at R2
 have R2:bC h2 id (dS (d6 l) ((List.range 16).map (Huff.fst l)) sym ((List.range 16).map (cR l)) (Huff.longest l) (2 * x+b) (n+1)):=R2
 have U:=U1.trans U2 fun _ _ h=>h
 have A2:bZ h2 G id l sym (n+1) (2 * x+b):={ A with recd:=by rw [dY]; exact R2,syms:=A.syms.upd U fun i hi e=>(A.gs i hi).2.1 e,gs:=fun i hi=>⟨(A.gs i hi).1,(A.gs i hi).2.1,Nat.lt_of_lt_of_le (A.gs i hi).2.2 U.1⟩ }
 have tl2:=cK (sym:=sym) (g:=Huff.longest l) (x:=2 * x+b) (n:=n+1) cl fl sl
 have fb:=rZ A.len (n:=n+1)
 have hlong:Huff.longest l≤15:=by
  rw [← iJ A.le]
  have:∀ n,lg l n≤n:=by
   intro n
   induction n with
   | zero=>exact Nat.le_refl _
   | succ n ih=>unfold lg; split <;> omega
  exact this 15
 have P0:∀ t,t=decide (n+1≤Huff.longest l∧2 * x+b - Huff.fst l (n+1)<Huff.cnt l (n+1)∧Huff.fst l (n+1)≤2 * x+b)→Y14.p0 (aK h Q) (cp id) 0 false 0 ((n+1:Nat):Int) t h2:=fun t ht=>
  aEV A2 (by omega) (by omega) (by omega) ht fun h' U'=>hq h' (U.trans U' fun _ _ h=>h)
 refine aE R2 tl2 (o:=49+2) (eP cl fl sl) (aD ?_)
 refine aE R2 tl2 (o:=49+0) (eP cl fl sl) (aD ?_)
 refine aR ?_ ?_ <;> intro e
 ·have e : n + 1 ≤ Huff.longest l := by simp at e; omega
  have fb:=fb (by omega)
  have b3:=kT l (n+1)
  have b4:=A.len
  refine aE R2 tl2 (o:=49+1) (eP cl fl sl) (aD ?_)
  refine ⟨by omega,by omega, ?_⟩
  refine aE R2 tl2 (o:=16+((n+1:Nat):Int).toNat * 1) (v:=iN (Huff.fst l (n+1))) ?_ (aD ?_)
  ·rw [Int.toNat_natCast,Nat.mul_one]; exact sX cl fl (yN (by omega))
  refine dK (n:=((2 * x+b:Nat):Int) - (Huff.fst l (n+1):Nat)) rfl (by omega) (by omega) ?_
  refine ⟨by omega,by omega, ?_⟩
  refine aE R2 tl2 (o:=0+((n+1:Nat):Int).toNat * 1) (v:=iN (Huff.cnt l (n+1))) ?_ (aD ?_)
  ·rw [Int.toNat_natCast,Nat.mul_one,Nat.zero_add]; exact aEW cl fl (lE l (by omega))
  refine aR ?_ ?_ <;> intro e2
  ·refine aE R2 tl2 (o := 49 + 1) (eP cl fl sl) (aD ?_)
   refine ⟨by omega,by omega, ?_⟩
   refine aE R2 tl2 (o:=16+((n+1:Nat):Int).toNat * 1) (v:=iN (Huff.fst l (n+1))) ?_ (aD ?_)
   ·rw [Int.toNat_natCast,Nat.mul_one]; exact sX cl fl (yN (by omega))
   refine P0 _ ?_
   simp only [decide_eq_true_eq] at e2
   rw [decide_eq_decide]; omega
  ·refine P0 _ ?_
   simp only [decide_eq_false_iff_not] at e2
   refine (decide_eq_false ?_).symm
   omega
 ·have e : ¬ n + 1 ≤ Huff.longest l := by simp at e; omega
  refine P0 _ (decide_eq_false fun hh=>e hh.1).symm
end
end Go.Proofs.YtpaphfeihpgamaaDoor
namespace Go.Proofs.YtpaphfeihpgamaaDoor
open Go.GAM
theorem dE.mono {h:aA} {G G':Nat→Prop} {v:AV} {l:List Nat} (A:dE h G v l) (hG:∀ i,i<h.length→G i→G' i):dE h G' v l:=A.upd (Upd.refl (fun _=>False) h) (fun _ _ h=>h) hG
theorem dE.rd {h:aA} {G:Nat→Prop} {v:AV} {l:List Nat} (A:dE h G v l):Rd 1 h v (bB l) l.length:=by
 obtain ⟨id,b,rfl,h1,h2,h3,h4,h5,g⟩:=A
 have e:b.cells.length=l.length:=by rw [h2,aT]
 exact .inr ⟨id,_,0,none,b,rfl,h1,.inl h5,by omega,by omega,by omega,by rw [h2,List.drop_zero,Nat.mul_one, ← aT l,List.take_length]⟩
theorem oS {h:aA} {K:AV→aA→Prop} {n:Nat} (hn:n≤1000) (hk:∀ v h',Upd (fun _=>False) h h'→dE h' (fun i=>h.length≤i) v (List.replicate n 0)→K v h'):nM 1 8 [.i .i64 0] (.i .i64 (n:Int)) (.i .i64 (n:Int)) h K:=by
 refine ⟨by omega,by omega,by omega,by omega,rfl,Nat.one_pos, ?_⟩
 refine hk _ _ (Upd.app _ _) ⟨h.length,aY (List.replicate n (.i .i64 0)) 1 true, ?_, ?_, ?_, ?_,rfl,rfl,Nat.le_refl _⟩
 ·rw [Int.toNat_natCast,Nat.mul_one,List.length_replicate]
 ·rw [Int.toNat_natCast,uP,List.getElem?_append_right (Nat.le_refl _),Nat.sub_self] <;> rfl
 ·simp [aY,bB]
 ·simp [aY]
theorem tI:∀ (ws pre cs:List AV),ws.length≤cs.length→wr (pre++cs) pre.length ws=pre++(ws++cs.drop ws.length)
 | [],pre,cs,h=>by simp [wr]
 | w :: ws,pre,[],h=>by simp at h
 | w :: ws, pre, c :: cs, h => by
  simp only [wr]
  have e:(pre++c :: cs).set pre.length w=(pre++[w])++cs:=by simp
  rw [e]
  have:=tI ws (pre++[w]) cs (by simpa using h)
  simpa using this
theorem aE2:∀ n:Fin 300,bQ .and .u64 ((n.1:Nat):Int) 4294967295=(n.1:Int)∧((n.1:Nat):Int).fdiv (2 ^ (min (32:Int).toNat IntKind.u64.bits))=0∧IntKind.wrap .u64 (1 * ((n.1:Nat):Int))=(n.1:Int):=by decide +kernel
section
variable [XR] {h:aA} {Q:AV→aA→Prop}
theorem aF7 {n:Nat} (hn:n<300) (hq:Q (.tu [.i .u64 0,.i .u64 (n:Int)]) h):C Y54.id [.i .u64 1,.i .u64 (n:Int)] h Q:=by
 obtain ⟨m1,m2,m3⟩:=aE2 ⟨n,hn⟩
 simp only at m1 m2 m3
 refine Y54.call ?_
 simp only [Y54.t]
 refine Y65.call ?_
 simp only [Y65.t]
 have z:Int.fdiv 0 (2 ^ (min (32:Int).toNat IntKind.u64.bits))=0:=by decide
 have o:Int.fdiv 1 (2 ^ (min (32:Int).toNat IntKind.u64.bits))=0:=by decide
 refine aM (n:=1) (by decide) ⟨by decide, ?_⟩
 rw [o]
 refine aM m1 ⟨by decide, ?_⟩
 rw [m2]
 refine aM m3 (aM (n:=0) (by rw [Int.zero_mul]; decide) ⟨by decide, ?_⟩)
 rw [m2]
 refine aM (n:=0) (by decide) (aM (n:=0) (by decide) ⟨by decide, ?_⟩)
 rw [z]
 refine aM (n:=0) (by decide) (aM (n:=0) (by decide) (aM (n:=0) (by decide) (aM (n:=0) (by decide) ⟨by decide, ?_⟩)))
 rw [z]
 refine aM (n:=0) (by decide) (aM m3 (.inl ?_))
 exact ⟨by simp,kL ⟨by simp,kL (.inl hq)⟩⟩
theorem aCH {h0 : aA} {n y : Nat} (hn : n < 300) (hq : ∀ h' v, Upd (fun _ => False) h0 h' → dE h' (fun i => h0.length ≤ i) v (List.replicate n y) → Q v h') :
  ∀ (f m:Nat) (h:aA) (v:AV),0<m→m+f=n→Upd (fun _=>False) h0 h→dE h (fun i=>h0.length≤i) v (List.replicate m y++List.replicate f 0)→Y15.p1 (aK h0 Q) v m h:=by
 intro f
 induction f using Nat.strongRecOn with
 | _ f ih =>
  intro m h v hm hmf U A
  refine Y15.i1 ?_
  simp only [Y15.t1, ← Y15.p1.eq_1]
  refine A.rd.len ?_
  have hlen:(List.replicate m y++List.replicate f 0).length=n:=by simp; omega
  rw [hlen]
  by_cases hf:f=0
  ·subst hf
   refine aX (by simp; omega) (.inl (hq h v U ?_))
   rw [List.replicate_zero,List.append_nil,show m=n by omega] at A
   exact A
  ·refine bA (by simp; omega) ?_
   obtain ⟨id,b,rfl,h1,h2,h3,h4,h5,g⟩:=A
   have hbl:b.cells.length=n:=by rw [h2,aT,hlen]
   rw [hlen] at h3 ⊢
   refine ⟨Nat.one_pos,(fun hh=>by cases hh),⟨by omega,by simp; omega,b,h1,by omega,by show b.floor≤n; omega,.inl h5,.inl (Nat.le_refl _), ?_⟩⟩
   refine ⟨Nat.one_pos,(fun hh=>by cases hh),⟨by omega,Nat.zero_le _,b,h1,by omega,by show b.floor≤n; omega,.inl h5,.inl (by simp; omega), ?_⟩⟩
   rw [Int.toNat_natCast]
   have hnews:∀ K:List AV→Nat→Prop,K (bB (List.replicate m y)) m→d5 1 (.sl (some ⟨id,n,0+0 * 1⟩) (m - 0) (Option.map (fun x=>x - 0) (none:Option Nat))) h K:=fun K hk=>by
    refine .inr ⟨b,h1,⟨by simp only; omega,by simp only; omega,by simp only; omega⟩, ?_⟩
    rw [h2,eR]
    have:((bB (List.replicate m y)++bB (List.replicate f 0)).drop (0+0 * 1)).take ((m - 0) * 1)=bB (List.replicate m y):=by
     rw [show 0+0 * 1=0 from rfl,List.drop_zero,show (m - 0) * 1=m by omega]
     exact List.take_left' (by simp [bB])
    simp only [this]
    exact hk
   refine ⟨Nat.one_pos,hnews _ ?_⟩
   refine ⟨b,h1,h5,⟨by simp only; omega,by simp only; omega,by simp only; omega⟩,h4,by simp only; omega, ?_, ?_⟩
   ·rw [List.all_eq_true]
    intro x hx
    exact List.all_eq_true.1 (jW (List.replicate m y)) x (List.mem_of_mem_take hx)
   refine aD ?_
   refine dK (n:=((m+min m f:Nat):Int)) (by omega) (by omega) (by omega) ?_
   refine ih (f - min m f) (by omega) (m+min m f) _ _ (by omega) (by omega) (U.own (Upd.set _ _ _) g) ?_
   have hl2:(List.replicate (m+min m f) y++List.replicate (f - min m f) 0).length=n:=by simp; omega
   have hcells:wr b.cells (0+m * 1) ((bB (List.replicate m y)).take (min m (n - m) * 1))=bB (List.replicate (m+min m f) y++List.replicate (f - min m f) 0):=by
    rw [h2,eR]
    have:=tI ((bB (List.replicate m y)).take (min m (n - m) * 1)) (bB (List.replicate m y)) (bB (List.replicate f 0)) (by rw [List.length_take,aT,aT]; simp; omega)
    rw [aT,List.length_replicate] at this
    rw [show 0+m * 1=m by omega,this]
    rw [List.length_take,aT,List.length_replicate,show n - m=f by omega]
    unfold bB
    rw [← List.map_take, ← List.map_drop,List.take_replicate,List.drop_replicate, ← List.map_append, ← List.map_append]
    congr 1
    rw [show min (min m f * 1) m=min m f by omega, ← List.append_assoc,List.replicate_append_replicate]
   refine ⟨id,{ b with cells:=wr b.cells (0+m * 1) ((bB (List.replicate m y)).take (min m (n - m) * 1)),floor:=b.cells.length }, ?_, ?_,hcells, ?_,h4,h5,g⟩
   ·rw [hl2]
   ·rw [List.getElem?_set_self (aI h1)]
   ·show b.cells.length≤_; rw [hl2]; omega
theorem vJ {x:AV} {n y:Nat} (R:RdI 1 h x (bB [y]) 1) (h0:0<n) (hn:n<300) (hq:∀ h' v,Upd (fun _=>False) h h'→dE h' (fun i=>h.length≤i) v (List.replicate n y)→Q v h') :
  C Y15.id [x,iN n] h Q:=by
 refine Y15.call ?_
 simp only [Y15.t, ← Y15.p0.eq_1]
 refine aX (by simp) (R.len ?_)
 have e1:IntKind.wrap .u64 ((1:Nat):Int)=1:=by decide
 have e2:IntKind.wrap .u64 (n:Int)=(n:Int):=by have:=(aE2 ⟨n,hn⟩).2.2; rw [Int.one_mul] at this; exact this
 rw [e1,e2]
 refine aF7 hn ⟨by simp,kL ⟨by simp,kL ?_⟩⟩
 refine aX rfl ?_
 refine Y15.i0 ?_
 simp only [Y15.t0, ← Y15.p1.eq_1]
 refine aX (by simp; omega) ?_
 rw [aV (by omega) (by omega)]
 refine oS (by omega) fun v h1 U1 A1=>?_
 have R1:=R.ext U1
 refine ⟨Nat.one_pos,R1.news ?_⟩
 obtain ⟨id,b,rfl,k1,k2,k3,k4,k5,g⟩:=A1
 have hbl:b.cells.length=n:=by rw [k2,aT]; simp
 rw [List.length_replicate] at k3 ⊢
 refine ⟨b,k1,k5,⟨by simp only; omega,by simp only; omega,by simp only; omega⟩,k4,by simp only; omega, ?_, ?_⟩
 ·rw [List.all_eq_true]
  intro x hx
  exact List.all_eq_true.1 (jW [y]) x (List.mem_of_mem_take hx)
 refine aD ?_
 rw [show min 1 n=1 by omega]
 refine aCH hn hq (n - 1) 1 _ _ (by omega) (by omega) (U1.own (Upd.set _ _ _) g) ?_
 refine ⟨id,{ b with cells:=wr b.cells 0 ((bB [y]).take (1 * 1)),floor:=b.cells.length }, ?_,by rw [List.getElem?_set_self (aI k1)], ?_, ?_,k4,k5,g⟩
 ·simp; omega
 ·show wr b.cells 0 (bB [y]) = _
  rw [k2]
  have:=tI (bB [y]) [] (bB (List.replicate n 0)) (by rw [aT,aT]; simp; omega)
  simp only [List.nil_append,List.length_nil] at this
  rw [this,eR,aT]
  unfold bB
  rw [← List.map_drop,List.drop_replicate] <;> rfl
 ·show b.cells.length≤_; simp; omega
theorem zY:∀ i,i<288→Infl.fixedL[i]? = some (if i<144∨280≤i then 8 else if i<256 then 9 else 7):=by decide +kernel
theorem fixedL_len:Infl.fixedL.length=288:=by decide +kernel
theorem vT {h0 : aA} (hq : ∀ h' v w, Upd (fun _ => False) h0 h' → RdI 1 h' v (bB Infl.fixedL) Infl.fixedL.length → RdI 1 h' w (bB Infl.fixedD) Infl.fixedD.length → (∀ j, aO v j → h0.length ≤ j) → (∀ j, aO w j → h0.length ≤ j) → Q (.tu [v, w]) h') :
  ∀ (m i:Nat) (h:aA) (v:AV),i+m=288→Upd (fun _=>False) h0 h→Stk h v (bB (Infl.fixedL.take i))→(∀ j,aO v j→h0.length≤j)→Y9.p0 (aK h0 Q) v i h:=by
 intro m
 induction m with
 | zero =>
  intro i h v hi U S N
  obtain rfl:i=288:=by omega
  refine Y9.i0 ?_
  simp only [Y9.t0]
  refine aX (by decide) ?_
  refine eN (cs:=bB [5]) rfl rfl fun y h1 l1 U1 R1 F1=>?_
  have S1:=S.upd U1 fun _ _ h=>h
  refine vJ (n:=32) (y:=5) R1.i (by decide) (by decide) fun h2 w U2 A2=>?_
  have S2:=S1.upd U2 fun _ _ h=>h
  refine .inl (hq h2 v w ((U.then U1).then U2) ?_ A2.rd.i N fun j hj=>?_)
  rotate_left
  ·obtain ⟨id, b, rfl, _, _, _, _, _, g⟩ := A2
   cases hj
   have g:h1.length≤id:=g
   have:=U.1
   show h0.length≤id
   omega
  have:=S2.rd.i
  rw [aT,show Infl.fixedL.take 288=Infl.fixedL from by decide +kernel] at this
  exact this
 | succ m ih =>
  intro i h v hi U S N
  have hil:(Infl.fixedL.take i).length≤288:=by rw [List.length_take]; omega
  have hL:=zY i (by omega)
  have push:∀ (c:Nat),Infl.fixedL[i]? = some c→∀ (K:AV→aA→Prop),(∀ v' h',Y9.p2 (aK h0 Q) v' i h'→K v' h')→(bP 1 1 [.i .i64 0] [(0,1,iN c)] h fun y h1=>bT none 1 8 v y h1 K):=fun c hc K hk=>by
   refine S.push rfl rfl (by rw [aT]; omega) (by rw [aT]; omega) fun v' h' U' S' N'=>hk v' h' ?_
   refine Y9.i2 ?_
   simp only [Y9.t2, ← Y9.p0.eq_1]
   refine inc (by omega) (ih (i+1) h' v' (by omega) (U.ownP U' N) ?_ fun j hj=>?_)
   ·rw [fE hc,eR]; exact S'
   ·rcases N' j hj with g | g
    ·exact N j g
    ·have:=U.1; omega
  have P1:∀ t,t=decide (i<144∨280≤i)→Y9.p1 (aK h0 Q) v i i t h:=fun t ht=>by
   refine Y9.i1 ?_
   simp only [Y9.t1, ← Y9.p2.eq_1]
   by_cases hc:i<144∨280≤i
   ·rw [decide_eq_true hc] at ht
    rw [if_pos hc] at hL
    exact bA ht (push 8 hL _ fun v' h' hp=>hp)
   ·rw [decide_eq_false hc] at ht
    rw [if_neg hc] at hL
    refine aX ht ?_
    refine aR ?_ ?_ <;> intro e
    ·rw [if_pos (by simp at e; omega)] at hL
     exact push 9 hL _ fun v' h' hp=>hp
    ·rw [if_neg (by simp at e; omega)] at hL
     exact push 7 hL _ fun v' h' hp=>hp
  refine Y9.i0 ?_
  simp only [Y9.t0, ← Y9.p1.eq_1]
  refine bA (by simp; omega) ?_
  refine aR ?_ ?_ <;> intro e
  ·exact P1 _ (decide_eq_true (by simp at e; omega)).symm
  ·refine P1 _ ?_
   simp only [decide_eq_false_iff_not] at e
   rw [decide_eq_decide]; omega
theorem jA (hq:∀ h' v w,Upd (fun _=>False) h h'→RdI 1 h' v (bB Infl.fixedL) Infl.fixedL.length→RdI 1 h' w (bB Infl.fixedD) Infl.fixedD.length→(∀ j,aO v j→h.length≤j)→(∀ j,aO w j→h.length≤j)→Q (.tu [v,w]) h'):C Y9.id [] h Q:=by
 refine Y9.call ?_
 simp only [Y9.t, ← Y9.p0.eq_1]
 exact vT hq 288 0 h _ rfl (Upd.refl _ _) (.inl ⟨rfl,rfl⟩) fun _ h=>h.elim
end
end Go.Proofs.YtpaphfeihpgamaaDoor
namespace Go.Proofs.YtpaphfeihpgamaaDoor
open Go.GAM
open Go.Infl (bF dA bW Out Lim)
theorem pU:∀ x,x<286→257≤x→(Infl.least x).1+2 ^ (Infl.least x).2≤300∧(Infl.least x).2≤16:=by decide +kernel
theorem vY:∀ x,x<30→0<(Infl.farOf x).1∧(Infl.farOf x).1+2 ^ (Infl.farOf x).2≤32769∧(Infl.farOf x).2≤16:=by decide +kernel
section
variable [XR] {h:aA} {Q:AV→aA→Prop} {L:Lim} {F:Nat→Prop} {d:Nat} {r:DR} {out:List UInt8} {told:Nat}
theorem o4 {x:Nat} (h1:257≤x) (h2:x≤285) (hq:Q (.tu [iN (Infl.least x).1,iN (Infl.least x).2]) h):C Y33.id [iN x] h Q:=by
 refine Y33.call ?_
 simp only [Y33.t]
 unfold Infl.least at hq
 refine aR ?_ ?_ <;> intro e
 ·have e : x ≤ 264 := by simp at e; omega
  rw [if_pos e] at hq
  exact dK (n:=((x - 254:Nat):Int)) (by omega) (by omega) (by omega) (.inl hq)
 ·have e : ¬ x ≤ 264 := by simp at e; omega
  rw [if_neg e] at hq
  refine aR ?_ ?_ <;> intro e2
  ·have e2 : x = 285 := by simp at e2; omega
   rw [if_pos e2] at hq
   exact .inl hq
  ·have e2 : ¬ x = 285 := by simp at e2; omega
   rw [if_neg e2] at hq
   refine dK (n:=((x - 261:Nat):Int)) (by omega) (by omega) (by omega) ?_
   refine vW (n:=(((x - 261) / 4:Nat):Int)) (by decide) (by rw [Int.tdiv_eq_ediv_of_nonneg (by omega),aV (by omega) (by omega)]; omega) ?_
   refine dK (n:=((x - 265:Nat):Int)) (by omega) (by omega) (by omega) ?_
   refine aC0 (n:=(((x - 265) % 4:Nat):Int)) (by decide) (by rw [Int.tmod_eq_emod_of_nonneg (by omega)]; omega) ?_
   refine dK (n:=((4+(x - 265) % 4:Nat):Int)) (by omega) (by omega) (by omega) ?_
   have hp:2 ^ ((x - 261) / 4)≤2 ^ 6:=Nat.pow_le_pow_right (by decide) (by omega)
   have hm:(4+(x - 265) % 4) * 2 ^ ((x - 261) / 4)≤8 * 2 ^ 6:=Nat.mul_le_mul (by omega) hp
   refine mG (by omega) (by omega) ?_
   generalize (4+(x - 265) % 4) * 2 ^ ((x - 261) / 4)=y at *
   exact dK (n:=((y+3:Nat):Int)) (by omega) (by omega) (by omega) (.inl hq)
theorem kI {x:Nat} (h2:x≤29) (hq:Q (.tu [iN (Infl.farOf x).1,iN (Infl.farOf x).2]) h):C Y37.id [iN x] h Q:=by
 refine Y37.call ?_
 simp only [Y37.t]
 unfold Infl.farOf at hq
 refine aR ?_ ?_ <;> intro e
 ·have e : x < 4 := by simp at e; omega
  rw [if_pos e] at hq
  exact inc (by omega) (.inl hq)
 ·have e : ¬ x < 4 := by simp at e; omega
  rw [if_neg e] at hq
  refine vW (n:=((x / 2:Nat):Int)) (by decide) (by rw [Int.tdiv_eq_ediv_of_nonneg (by omega),aV (by omega) (by omega)]; omega) ?_
  refine dK (n:=((x / 2 - 1:Nat):Int)) (by omega) (by omega) (by omega) ?_
  refine aC0 (n:=((x % 2:Nat):Int)) (by decide) (by rw [Int.tmod_eq_emod_of_nonneg (by omega)]; omega) ?_
  refine dK (n:=((2+x % 2:Nat):Int)) (by omega) (by omega) (by omega) ?_
  have hp:2 ^ (x / 2 - 1)≤2 ^ 13:=Nat.pow_le_pow_right (by decide) (by omega)
  have hm:(2+x % 2) * 2 ^ (x / 2 - 1)≤4 * 2 ^ 13:=Nat.mul_le_mul (by omega) hp
  refine mG (by omega) (by omega) ?_
  generalize (2+x % 2) * 2 ^ (x / 2 - 1)=y at *
  exact inc (by omega) (.inl hq)
theorem mX {a b:List Nat} {ia ib:Nat} {syma symb:AV} (D:Dec L h F d r out told) (hF:∀ i,h.length≤i→F i) (hd:r.done=false) (T:Two h (Gd F d r) ia syma a ib symb b)
  (hq:∀ e h' r',cM (· = d) L h F d r told (Infl.litW ⟨out,r.last,r.skip⟩ a b) e h' r'→Q (.i .i64 e) h'):C Y36.id [dp d,cp ia,cp ib] h Q:=by
 refine Y36.call ?_
 simp only [Y36.t]
 refine bS (hk:=fun h1 l1 U1 R1=>?_)
 refine bS (hk:=fun h2 l2 U2 R2=>?_)
 refine bS (hk:=fun h3 l3 U3 R3=>?_)
 have U:=(U1.then U2).then U3
 have R1:=(R1.upd U2 fun h=>h).upd U3 fun h=>h
 have R2:=R2.upd U3 fun h=>h
 have ha:=T.1.recd.lt
 have hb:=T.2.recd.lt
 have G:∀ {i},h.length≤i→Gd F d r i∧i≠ia:=fun hi=>⟨D.gd hF hi,by omega⟩
 have B1:Bx h3 (fun i=>Gd F d r i∧i≠ia) (.p (some ⟨h.length,1,0⟩)) (dp d):=⟨_,rfl,R1,G (Nat.le_refl _)⟩
 have B2:Bx h3 (fun i=>Gd F d r i∧i≠ia) (.p (some ⟨h1.length,1,0⟩)) (cp ia):=⟨_,rfl,R2,G (by omega)⟩
 have B3:Bx h3 (fun i=>Gd F d r i∧i≠ia) (.p (some ⟨h2.length,1,0⟩)) (cp ib):=⟨_,rfl,R3,G (by omega)⟩
 refine aE R1 rfl rfl (aE R2 rfl rfl ?_)
 refine pG (D.ext U) hd (l:=a) (ic:=ia) (sym:=syma) (c:=.lit a b) (T.1.upd U (fun _ _ h=>h) fun i _ hi=>hi.1) ⟨_,_,_,ib,symb,rfl,B1,B2,B3,T.2.upd U (fun _ _ h=>h) fun i _ hi=>hi,fun hs=>(T.1.gs ib hs).1.2 rfl⟩ ⟨by decide,by decide,fun v hv=>Nat.lt_of_lt_of_le hv (by have:=T.1.len; omega)⟩ fun h4 r4 P=>aD (.inl (hq 0 h4 r4 ?_))
 exact P.from U (fun _ _ h=>h.elim) (fun _ _ h=>h) rfl rfl rfl
theorem xQ {a b : List Nat} {va vb : AV} (D : Dec L h F d r out told) (hF : ∀ i, h.length ≤ i → F i) (hd : r.done = false) (Ra : RdI 1 h va (bB a) a.length) (Rb : RdI 1 h vb (bB b) b.length) (la : a.length ≤ 320) (lb : b.length ≤ 320) (a15 : ∀ x ∈ a, x ≤ 15) (b15 : ∀ x ∈ b, x ≤ 15)
  (hq:∀ e h' r',cM (· = d) L h F d r told (Infl.codes ⟨out,r.last,r.skip⟩ a b) e h' r'→Q (.i .i64 e) h'):C Y45.id [dp d,va,vb] h Q:=by
 refine Y45.call ?_
 simp only [Y45.t]
 refine o3 Ra la a15 (fun hn e he=>?_) fun ha h1 ia syma U1 A1=>?_
 ·simp only [eD, eC]
  refine aD (bA (by simp [he]) (.inl (hq 2 h r ?_)))
  unfold Infl.codes
  rw [if_neg fun hh=>hn hh.1]
  exact ⟨Upd.refl _ _,fun _ _ h=>h,D,rfl,rfl,rfl,rfl,.inl rfl,hd⟩
 ·simp only [eD, eC]
  refine aD (aX rfl ?_)
  refine o3 (Rb.ext U1) lb b15 (fun hn e he=>?_) fun hb h2 ib symb U2 A2=>?_
  ·simp only [eD, eC]
   refine aD (bA (by simp [he]) (.inl (hq 2 h1 r ?_)))
   unfold Infl.codes
   rw [if_neg fun hh=>hn hh.2]
   exact ⟨U1.mono fun _ _ h=>h.elim,fun _ _ h=>h,D.ext U1,rfl,rfl,rfl,rfl,.inl rfl,hd⟩
  ·simp only [eD, eC]
   refine aD (aX rfl ?_)
   have U:=U1.then U2
   have hlt:=A1.recd.lt
   have hge:=A2.g
   have hU1:=U1.1
   have T:Two h2 (Gd F d r) ia syma a ib symb b:=by
    refine ⟨{ A1.upd (G':=fun i=>h.length≤i) U2 (fun _ _ h=>h) (fun i hl hi=>hi) with g:=⟨D.gd hF A1.g,by omega⟩,gs:=fun i hi=>?_ },{ A2 with g:=⟨D.gd hF (by omega),by omega⟩,gs:=fun i hi=>?_ }⟩
    ·obtain ⟨g1, g2, g3⟩ := A1.gs i hi
     exact ⟨⟨D.gd hF g1,by omega⟩,g2,Nat.lt_of_lt_of_le g3 U2.1⟩
    ·obtain ⟨g1, g2, g3⟩ := A2.gs i hi
     exact ⟨⟨D.gd hF (by omega),by omega⟩,g2,g3⟩
   refine mX (D.ext U) (fun i hi=>hF i (Nat.le_trans U.1 hi)) hd T fun e h3 r3 P=>aD (.inl (hq e h3 r3 ?_))
   unfold Infl.codes
   rw [if_pos ⟨ha,hb⟩]
   exact P.from U (fun _ _ h=>h.elim) (fun _ _ h=>h) rfl rfl rfl
theorem m6:∀ x∈Infl.fixedL,x≤15:=by decide +kernel
theorem mS:∀ x∈Infl.fixedD,x≤15:=by decide +kernel
theorem aEQ (D:Dec L h F d r out told) (hF:∀ i,h.length≤i→F i) (hd:r.done=false)
  (hq:∀ e h' r',cM (· = d) L h F d r told (Infl.codes ⟨out,r.last,r.skip⟩ Infl.fixedL Infl.fixedD) e h' r'→Q (.i .i64 e) h'):C Y59.id [dp d] h Q:=by
 refine Y59.call ?_
 simp only [Y59.t]
 refine jA fun h1 v w U1 Rv Rw _ _=>?_
 simp only [eD,eC]
 refine xQ (D.ext U1) (fun i hi=>hF i (Nat.le_trans U1.1 hi)) hd Rv Rw (by decide +kernel) (by decide +kernel) m6 mS fun e h2 r2 P=>aD (.inl (hq e h2 r2 ?_))
 exact P.from U1 (fun _ _ h=>h.elim) (fun _ _ h=>h) rfl rfl rfl
theorem aEJ {x : Nat} {v : AV} (D : Dec L h F d r out told) (hF : ∀ i, h.length ≤ i → F i) (hd : r.done = false) (hc : Clo h (Gd F d r) d 0 (.p none) .block v) (hf : fit .block x)
  (hq:∀ e h' r',cM F L h F d r told (Infl.apply L r.input ⟨out,r.last,r.skip⟩ x .block) e h' r'→Q (.i .i64 e) h'):bU C v [iN x] h Q:=by
 obtain ⟨bd,rfl,B⟩:=hc
 have hf:x<8:=hf
 refine cP (by decide) (Y50.call ?_)
 simp only [Y50.t,B.ld,bI,bH]
 have hand:bQ .and .i64 (x:Int) 1=((x % 2:Nat):Int):=by
  have:=i6 (x:=x) (y:=1) (by omega) (by decide)
  rw [Nat.and_one_is_mod] at this
  exact this
 rw [hand]
 have hlast:decide (((x % 2:Nat):Int)=1)=(x % 2 == 1):=by
  rw [Bool.eq_iff_iff]; simp; omega
 rw [hlast]
 refine aQ D.recd rfl (ltr rfl) (hk:=fun h1 l1 U1 R1=>?_)
 have D1:Dec L h1 F d { r with last:=x % 2 == 1 } out told:=D.with U1 R1 rfl rfl rfl rfl
 have B1:Bx h1 (Gd F d { r with last:=x % 2 == 1 }) bd (dp d):=B.upd U1 (fun i hi e=>hi.2 (.inl e)) fun _ _ h=>h
 have hF1:∀ i,h1.length≤i→F i:=fun i hi=>hF i (by omega)
 refine s9 (a:=x) (b:=1) (by decide) ?_
 rw [B1.ld]
 have hx4:x / 2 ^ 1=x / 2:=rfl
 have hm:∀ {o:Out} {e:Int} {h':aA} {r':DR},cM (· = d) L h1 F d { r with last:=x % 2 == 1 } told o e h' r'→cM F L h F d r told o e h' r':=fun {o e h' r'} P=>by
  have P':cM F L h1 F d { r with last:=x % 2 == 1 } told o e h' r':=P.mono fun i _ e=>D.f i (.inl e)
  exact P'.from U1 (fun i _ e=>D.f i (.inl e)) (fun _ _ h=>h) rfl rfl rfl
 simp only [Infl.apply] at hq
 refine aR ?_ ?_ <;> intro e0
 ·have e0 : x / 2 = 0 := by simp at e0; omega
  simp only [e0] at hq
  simp only [bI,bH]
  refine aQ D1.recd rfl (ltr rfl) (hk:=fun h2 l2 U2 R2=>?_)
  have D2:Dec L h2 F d { r with last:=x % 2 == 1,skip:=true } out told:=D1.with U2 R2 rfl rfl rfl rfl
  have B2:Bx h2 (Gd F d { r with last:=x % 2 == 1,skip:=true }) bd (dp d):=B1.upd U2 (fun i hi e=>hi.2 (.inl e)) fun _ _ h=>h
  rw [B2.ld]
  refine aBM D2 (fun i hi=>hF i (by omega)) hd fun e h3 r3 P=>aD (.inl (hq e h3 r3 ?_))
  refine hm (P.from U2 (fun i _ e=>e) (fun _ _ h=>h) rfl rfl rfl)
 ·refine aR ?_ ?_ <;> intro e1
  ·have e1 : x / 2 = 1 := by simp at e1; omega
   simp only [e1] at hq
   rw [B1.ld]
   refine aEQ D1 hF1 hd fun e h3 r3 P=>aD (.inl (hq e h3 r3 (hm P)))
  ·refine aR ?_ ?_ <;> intro e2
   ·have e2 : x / 2 = 2 := by simp at e2; omega
    simp only [e2] at hq
    rw [B1.ld]
    refine zJ D1 hF1 hd fun e h3 r3 P=>aD (.inl (hq e h3 r3 (hm P)))
   ·have e3 : x / 2 = 3 := by simp at e0 e1 e2; omega
    simp only [e3] at hq
    exact .inl (hq 2 h1 { r with last:=x % 2 == 1 } ⟨U1.mono fun i _ e=>D.f i (.inl e),fun _ _ h=>h,D1,rfl,rfl,rfl,rfl,.inl rfl,hd⟩)
theorem xT {a b:List Nat} {ic ib:Nat} {sym symb:AV} (A:bZ h (Gd F d r) ic a sym 0 0) (Bc:bZ h (fun i=>Gd F d r i∧i≠ic) ib b symb 0 0) (hs:¬ aO sym ib):Two h (Gd F d r) ic sym a ib symb b:=
 ⟨{ A with g:=⟨A.g,fun e=>Bc.g.2 e.symm⟩,gs:=fun i hi=>⟨⟨(A.gs i hi).1,fun e=>hs (e ▸ hi)⟩,(A.gs i hi).2⟩ },Bc⟩
theorem aGK {x ic : Nat} {sym : AV} {a b : List Nat} {v : AV} (D : Dec L h F d r out told) (hF : ∀ i, h.length ≤ i → F i) (hd : r.done = false) (A : bZ h (Gd F d r) ic a sym 0 0) (hc : Clo h (fun i => Gd F d r i ∧ i ≠ ic) d ic sym (.lit a b) v) (hf : fit (.lit a b) x)
  (hq:∀ e h' r',cM F L h F d r told (Infl.apply L r.input ⟨out,r.last,r.skip⟩ x (.lit a b)) e h' r'→Q (.i .i64 e) h'):bU C v [iN x] h Q:=by
 obtain ⟨bd,ba,bb,ib,symb,rfl,B,Ba,Bb,Bc,hs⟩:=hc
 have hf:x<320:=hf
 have T:=xT A Bc hs
 have w:∀ {y z},Bx h (fun i=>Gd F d r i∧i≠ic) y z→Bx h (Gd F d r) y z:=fun B=>B.upd (Upd.refl (fun _=>False) h) (fun _ _ h=>h) fun i _ hi=>hi.1
 have B:=w B
 have Ba:=w Ba
 have Bb:=w Bb
 refine cP (by decide) (Y48.call ?_)
 simp only [Y48.t,B.ld]
 simp only [Infl.apply,Infl.putP] at hq
 refine aR ?_ ?_ <;> intro e0
 ·have e0 : x < 256 := by simp at e0; omega
  rw [if_pos e0] at hq
  rw [aE0 e0]
  refine aBN D hF (fun hfull=>?_) fun hfull p f h1 U1 K1 D1=>?_
  ·refine aD (bA rfl (.inl (hq 16 h r ?_)))
   rw [if_pos hfull]
   exact ⟨Upd.refl _ _,fun _ _ h=>h,D,rfl,rfl,rfl,rfl,.inr rfl,hd⟩
  ·refine aD (aX rfl ?_)
   have B1:=B.upd U1 (fun i hi hm=>hi.2 hm) (eM K1)
   have Ba1:=Ba.upd U1 (fun i hi hm=>hi.2 hm) (eM K1)
   have Bb1:=Bb.upd U1 (fun i hi hm=>hi.2 hm) (eM K1)
   rw [B1.ld,Ba1.ld,Bb1.ld]
   refine mX D1 (fun i hi=>hF i (Nat.le_trans U1.1 hi)) hd (T.upd U1 (fun i hi hm=>hi.2 hm) (eM K1)) fun e h2 r2 P=>aD (.inl (hq e h2 r2 ?_))
   rw [if_neg (by simp [hfull])]
   exact (P.mono fun i _ e=>D1.f i (.inl e)).from U1 (fun i _ hm=>D.f i hm) K1 rfl rfl rfl
 ·have e0 : ¬ x < 256 := by simp at e0; omega
  rw [if_neg e0] at hq
  refine aR ?_ ?_ <;> intro e1
  ·have e1 : x = 256 := by simp at e1; omega
   rw [if_pos e1] at hq
   exact sH D hF hd fun e h1 r1 P=>aD (.inl (hq e h1 r1 (P.mono fun i _ e=>D.f i (.inl e))))
  ·have e1 : ¬ x = 256 := by simp at e1; omega
   rw [if_neg e1] at hq
   refine aR ?_ ?_ <;> intro e2
   ·have e2 : 285 < x := by simp at e2; omega
    rw [if_pos e2] at hq
    exact .inl (hq 2 h r ⟨Upd.refl _ _,fun _ _ h=>h,D,rfl,rfl,rfl,rfl,.inl rfl,hd⟩)
   ·have e2 : ¬ 285 < x := by simp at e2; omega
    rw [if_neg e2] at hq
    obtain ⟨b1,b2⟩:=pU x (by omega) (by omega)
    refine o4 (by omega) (by omega) ?_
    simp only [eD,eC]
    refine aD (aD (cE fun h1 l1 U1 R1=>?_))
    refine aQ R1 rfl (ltr rfl) (hk:=fun h2 l2 U2 R2=>?_)
    have U:Upd (fun _=>False) h h2:=U1.own U2 (Nat.le_refl _)
    have up:∀ {y z},Bx h (Gd F d r) y z→Bx h2 (Gd F d r) y z:=fun B=>B.upd U (fun _ _ h=>h) fun _ _ h=>h
    have Bn:Bx h2 (Gd F d r) (.p (some ⟨h.length,1,0⟩)) (iN (Infl.least x).1):=⟨_,rfl,R2,D.gd hF (Nat.le_refl _)⟩
    rw [(up B).ld]
    refine dH (D.ext U) hd (c:=.more a b (Infl.least x).1) ⟨_,_,_,_,ic,sym,ib,symb,rfl,up B,up Bb,Bn,up Ba,T.upd U (fun _ _ h=>h) fun _ _ h=>h⟩ ⟨b2,by simp, ?_,fun v hv=>?_⟩ fun h3 r3 P=>aD (.inl (hq 0 h3 r3 ?_))
    ·by_cases hz : (Infl.least x).2 = 0
     ·exact .inr ⟨hz,rfl,trivial⟩
     ·exact .inl (by omega)
    ·show (Infl.least x).1+v≤300; omega
    ·exact (P.from U (fun _ _ h=>h.elim) (fun _ _ h=>h) rfl rfl rfl).mono fun i _ e=>D.f i (.inl e)
theorem aF5 {x n:Nat} {a b:List Nat} {v:AV} (D:Dec L h F d r out told) (hF:∀ i,h.length≤i→F i) (hd:r.done=false) (hc:Clo h (Gd F d r) d 0 (.p none) (.more a b n) v) (hf:fit (.more a b n) x)
  (hq:∀ e h' r',cM F L h F d r told (Infl.apply L r.input ⟨out,r.last,r.skip⟩ x (.more a b n)) e h' r'→Q (.i .i64 e) h'):bU C v [iN x] h Q:=by
 obtain ⟨bd,bb,bn,ba,ia,syma,ib,symb,rfl,B,Bb,Bn,Ba,T⟩:=hc
 have hf:n+x≤300:=hf
 refine cP (by decide) (Y53.call ?_)
 simp only [Y53.t]
 refine bS (hk:=fun h1 l1 U1 R1=>?_)
 have hib:=T.2.recd.lt
 have up:∀ {y z},Bx h (Gd F d r) y z→Bx h1 (Gd F d r) y z:=fun B=>B.upd U1 (fun _ _ h=>h) fun _ _ h=>h
 rw [(up B).ld,(up Bb).ld]
 have sep:∀ {y z},Bx h1 (Gd F d r) y z→Bx h1 (fun i=>Gd F d r i∧i≠ib) y z:=fun {y z} B=>by
  obtain ⟨id,e,R,g⟩:=B
  refine ⟨id,e,R,g, ?_⟩
  rintro rfl
  have R':=(T.2.recd.upd U1 fun h=>h)
  obtain ⟨b1,p1,p2,_⟩:=R
  obtain ⟨b2,q1,q2,_⟩:=R'
  rw [p1] at q1
  cases q1
  rw [p2] at q2
  have:=congrArg List.length q2
  rw [dY, ← cK (b7 b) aAM (by simp)] at this
  simp at this
 refine pG (D.ext U1) hd (l:=b) (ic:=ib) (sym:=symb) (c:=.far a b (n+x)) (T.2.upd U1 (fun _ _ h=>h) fun i _ hi=>hi.1) ⟨bd,bn,_,ba,bb,n,x,ia,syma,rfl,rfl,sep (up B),sep (up Bn),sep (Bx.new R1 (D.gd hF (Nat.le_refl _))),sep (up Ba),sep (up Bb),T.1.upd U1 (fun _ _ h=>h) fun i _ hi=>hi,fun hs=>(T.2.gs ia hs).1.2 rfl⟩ ⟨by decide,by decide,fun v hv=>⟨hf,by have:=T.2.len; omega⟩⟩ fun h2 r2 P=>aD (.inl (hq 0 h2 r2 ?_))
 exact (P.from U1 (fun _ _ h=>h.elim) (fun _ _ h=>h) rfl rfl rfl).mono fun i _ e=>D.f i (.inl e)
theorem aGJ {x n ic:Nat} {sym:AV} {a b:List Nat} {v:AV} (D:Dec L h F d r out told) (hF:∀ i,h.length≤i→F i) (hd:r.done=false) (A:bZ h (Gd F d r) ic b sym 0 0) (hc:Clo h (fun i=>Gd F d r i∧i≠ic) d ic sym (.far a b n) v) (hf:fit (.far a b n) x)
  (hq:∀ e h' r',cM F L h F d r told (Infl.apply L r.input ⟨out,r.last,r.skip⟩ x (.far a b n)) e h' r'→Q (.i .i64 e) h'):bU C v [iN x] h Q:=by
 obtain ⟨bd,bn,bm,ba,bb,n0,m,ia,syma,rfl,hn,B,Bn,Bm,Ba,Bb,Ac,hs⟩:=hc
 obtain ⟨hf1,hf2⟩:=hf
 have T:Two h (Gd F d r) ia syma a ic sym b:=by
  have:=xT A Ac hs
  exact ⟨this.2,this.1⟩
 have w:∀ {y z},Bx h (fun i=>Gd F d r i∧i≠ic) y z→Bx h (Gd F d r) y z:=fun B=>B.upd (Upd.refl (fun _=>False) h) (fun _ _ h=>h) fun i _ hi=>hi.1
 refine cP (by decide) (Y64.call ?_)
 simp only [Y64.t]
 simp only [Infl.apply] at hq
 refine aR ?_ ?_ <;> intro e0
 ·have e0 : 29 < x := by simp at e0; omega
  rw [if_pos e0] at hq
  exact .inl (hq 2 h r ⟨Upd.refl _ _,fun _ _ h=>h,D,rfl,rfl,rfl,rfl,.inl rfl,hd⟩)
 ·have e0 : ¬ 29 < x := by simp at e0; omega
  rw [if_neg e0] at hq
  obtain ⟨b0,b1,b2⟩:=vY x (by omega)
  refine kI (by omega) ?_
  simp only [eD,eC]
  refine aD (aD (cE fun h1 l1 U1 R1=>?_))
  refine aQ R1 rfl (ltr rfl) (hk:=fun h2 l2 U2 R2=>?_)
  have U:Upd (fun _=>False) h h2:=U1.own U2 (Nat.le_refl _)
  have up:∀ {y z},Bx h (fun i=>Gd F d r i∧i≠ic) y z→Bx h2 (Gd F d r) y z:=fun B=>(w B).upd U (fun _ _ h=>h) fun _ _ h=>h
  have Bf:Bx h2 (Gd F d r) (.p (some ⟨h.length,1,0⟩)) (iN (Infl.farOf x).1):=⟨_,rfl,R2,D.gd hF (Nat.le_refl _)⟩
  rw [(up B).ld]
  refine dH (D.ext U) hd (c:=.farMore a b n (Infl.farOf x).1) ⟨_,_,_,_,_,_,n0,m,ia,syma,ic,sym,rfl,hn,up B,up Bn,up Bm,Bf,up Ba,up Bb,T.upd U (fun _ _ h=>h) fun _ _ h=>h⟩ ⟨b2,by simp, ?_,fun v hv=>⟨hf1,b0,by omega⟩⟩ fun h3 r3 P=>aD (.inl (hq 0 h3 r3 ?_))
  ·by_cases hz : (Infl.farOf x).2 = 0
   ·exact .inr ⟨hz,rfl,trivial⟩
   ·exact .inl (by omega)
  ·exact (P.from U (fun _ _ h=>h.elim) (fun _ _ h=>h) rfl rfl rfl).mono fun i _ e=>D.f i (.inl e)
theorem aAX {x n f : Nat} {a b : List Nat} {v : AV} (D : Dec L h F d r out told) (hF : ∀ i, h.length ≤ i → F i) (hd : r.done = false) (hc : Clo h (Gd F d r) d 0 (.p none) (.farMore a b n f) v) (hf : fit (.farMore a b n f) x)
  (hq:∀ e h' r',cM F L h F d r told (Infl.apply L r.input ⟨out,r.last,r.skip⟩ x (.farMore a b n f)) e h' r'→Q (.i .i64 e) h'):bU C v [iN x] h Q:=by
 obtain ⟨bd,bn,bm,bf,ba,bb,n0,m,ia,syma,ib,symb,rfl,hn,B,Bn,Bm,Bf,Ba,Bb,T⟩:=hc
 obtain ⟨hf1,hf2,hf3⟩:=hf
 refine cP (by decide) (Y51.call ?_)
 simp only [Y51.t,B.ld,Bn.ld,Bm.ld,Bf.ld,gY]
 simp only [Infl.apply] at hq
 refine dK (n:=(n:Int)) (by omega) (by omega) (by omega) ?_
 refine dK (n:=((f+x:Nat):Int)) (by omega) (by omega) (by omega) ?_
 refine aFQ (by omega) hf1 hf3 D hF (fun hlt=>?_) fun hge e h1 p f' t U1 K1 D1 he=>?_
 ·rw [if_pos hlt] at hq
  exact aD (bA rfl (.inl (hq 2 h r ⟨Upd.refl _ _,fun _ _ h=>h,D,rfl,rfl,rfl,rfl,.inl rfl,hd⟩)))
 ·rw [if_neg (by omega)] at hq
  have hcore:=pH (L:=L) (input:=r.input) (far:=f+x) n ⟨out,r.last,r.skip⟩
  cases hcp:Infl.copyP L r.input (f+x) n ⟨out,r.last,r.skip⟩ with
  | mk k ok =>
   rw [hcp] at hcore D1 he hq
   simp only at hcore D1 he hq
   rcases he with ⟨rfl,rfl⟩ | ⟨rfl,rfl⟩
   ·refine aD (aX rfl ?_)
    have B1:=B.upd U1 (fun i hi hm=>hi.2 hm) (eM K1)
    have Ba1:=Ba.upd U1 (fun i hi hm=>hi.2 hm) (eM K1)
    have Bb1:=Bb.upd U1 (fun i hi hm=>hi.2 hm) (eM K1)
    rw [B1.ld,Ba1.ld,Bb1.ld]
    refine mX D1 (fun i hi=>hF i (Nat.le_trans U1.1 hi)) hd (T.upd U1 (fun i hi hm=>hi.2 hm) (eM K1)) fun e h2 r2 P=>aD (.inl (hq e h2 r2 ?_))
    rw [hcore]
    exact (P.mono fun i _ e=>D1.f i (.inl e)).from U1 (fun i _ hm=>D.f i hm) K1 rfl rfl rfl
   ·refine aD (bA rfl (.inl (hq 16 h1 { r with past := p, total := t, fresh := f' } ?_)))
    exact ⟨U1.mono fun i _ hm=>D.f i hm,K1,D1,rfl,rfl,rfl,rfl,.inr rfl,hd⟩
end
end Go.Proofs.YtpaphfeihpgamaaDoor
namespace Go.Proofs.YtpaphfeihpgamaaDoor
open Go.GAM
theorem eG.load {E:TypeId} {h:aA} {v:AV} {l:List UInt8} {c:UInt8} (B:eG E h v l) {k:IntKind} {i:Nat} (hi:l[i]? = some c) {K:AV→Prop} (hk:K (byteAV c)):aW 1 v (.i k (i:Int)) h fun a=>aB a h K:=by
 have hlt:=(List.getElem?_eq_some_iff.1 hi).1
 rcases B with ⟨rfl,rfl⟩ | ⟨id,b,rfl,h1,h2,h3,h4,h5⟩
 ·simp at hlt
 ·have e : b.cells.length = l.length := by rw [h2]; simp
  refine ⟨by omega,by omega,⟨b,h1,by show b.floor≤l.length; omega,by omega⟩, ?_⟩
  refine ⟨b,h1,⟨by show b.floor≤l.length; omega,by show l.length≤b.cells.length; omega,by simp only [Int.toNat_natCast]; omega⟩, ?_⟩
  simp only [Int.toNat_natCast,Nat.zero_add,Nat.mul_one]
  rw [h2,getD_some (c:=byteAV c) (by rw [List.getElem?_map,hi] <;> rfl)]
  exact hk
theorem eG.store {E:TypeId} {h:aA} {v:AV} {l:List UInt8} {c:UInt8} (B:eG E h v l) {k:IntKind} {i:Nat} (hi:i<l.length) {K:aA→Prop} (hk:∀ h',h'.length=h.length→Upd (aO v) h h'→eG E h' v (l.set i c)→K h') :
  aW 1 v (.i k (i:Int)) h fun a=>aU 1 a (byteAV c) h K:=by
 rcases B with ⟨rfl,rfl⟩ | ⟨id,b,rfl,h1,h2,h3,h4,h5,h6,h7,h8,h9⟩
 ·simp at hi
 ·have e : b.cells.length = l.length := by rw [h2]; simp
  refine ⟨by omega,by omega,⟨b,h1,by show b.floor≤l.length; omega,by omega⟩, ?_⟩
  refine ⟨b,h1,h5,h4,e.symm,by simp only [Int.toNat_natCast]; omega,rfl,rfl,rfl, ?_⟩
  refine hk _ (by simp) ((Upd.set _ _ _).mono fun i _ h=>h.symm) (.inr ⟨id,_,by rw [List.length_set],List.getElem?_set_self (aI h1), ?_,h3, ?_,h5,h6,h7,h8, ?_⟩)
  ·show (b.cells).set (0 + (i : Int).toNat * 1) (byteAV c) = _
   rw [Int.toNat_natCast,Nat.mul_one,Nat.zero_add,h2,List.map_set]
  ·show b.cells.length ≤ _
   rw [List.length_set]; omega
  ·intro h0
   have:=congrArg List.length h0
   rw [List.length_set] at this
   simp at this
   exact h9 this
abbrev u8T:TypeId:=5
abbrev wp (w:Nat):AV:=.p (some ⟨w,2,0⟩)
def fre (n:Nat):Nat:=(8 - n % 8) % 8
def Wr (h:aA) (G:Nat→Prop) (w:Nat) (bs:List Nat):Prop:=∃ v,bC h w [v,iN (fre bs.length)]∧eG u8T h v (Infl.pack bs)∧(∀ i,aO v i→G i∧i≠w)∧G w∧∀ x∈bs,x<2
theorem aFF:∀ (fr:Fin 9) (c:Fin 256) (b:Fin 2),1≤fr.1→c.1<2 ^ (8 - fr.1)→bQ .or .u8 ((c.1:Nat):Int) (IntKind.wrap .u8 (((b.1:Nat):Int) * 2 ^ (min (((8 - fr.1:Nat):Int)).toNat IntKind.u8.bits)))=((c.1+b.1 * 2 ^ (8 - fr.1):Nat):Int)∧c.1+b.1 * 2 ^ (8 - fr.1)<256:=by decide +kernel
section
variable [XR] {h:aA} {Q:AV→aA→Prop} {G:Nat→Prop} {w:Nat}
theorem slv {E:TypeId} {h:aA} {v:AV} {l:List UInt8} (B:eG E h v l):v.parts=[v]∧v.sizeOK=true∧v.cellOK=true:=by
 rcases B with ⟨rfl,_⟩ | ⟨id,b,rfl,_⟩ <;> exact ⟨rfl,rfl,rfl⟩
theorem eG.plen {E:TypeId} {h:aA} {v:AV} {l:List UInt8} (B:eG E h v l) {K:Int→Prop} (hk:K (l.length:Int)):bV v K:=by
 rcases B with ⟨rfl,rfl⟩ | ⟨id,b,rfl,_⟩ <;> exact hk
theorem aCF {E:TypeId} {h:aA} {v:AV} {l:List UInt8} (B:eG E h v l) (hlen:l.length<140737488355328) {K:AV→aA→Prop}
  (hk:∀ v' h',Upd (aO v) h h'→eG E h' v' (l++[0])→(∀ i,aO v' i→aO v i∨h.length≤i)→K v' h'):bP 1 1 [.i .u8 0] [(0,1,.i .u8 0)] h fun x h'=>bT (some E) 1 1 v x h' K:=by
 refine eN (cs:=[.i .u8 0]) rfl rfl (hk:=fun x h1 l1 U1 R1 hx=>?_)
 refine (B.upd U1 fun _ _ h=>h).append (t:=[0]) (fun K' hK=>R1.news hK) (by simp; omega) fun v' h' U2 B2 g2=>hk v' h' ?_ B2 fun i hi=>?_
 ·exact (U1.mono fun _ _ h=>h.elim).trans U2 fun _ _ h=>h
 ·rcases g2 i hi with h | h
  ·exact .inl h
  ·exact .inr (by omega)
theorem aF8 {v:AV} {fr:Nat} {pre:List UInt8} {c:Nat} {x n j:Nat} (h1:1≤fr) (h8:fr≤8) (hc:c<2 ^ (8 - fr)) (hpl:pre.length<140737488355328) (hj:j<n) (hn:n≤64) (hx:x<2 ^ 62) (R:bC h w [v,iN fr]) (B:eG u8T h v (pre++[UInt8.ofNat c])) (hv:¬ aO v w)
  (hq:∀ h',h'.length=h.length→Upd (fun i=>i=w∨aO v i) h h'→bC h' w [v,iN (fr - 1)]→eG u8T h' v (pre++[UInt8.ofNat (c+(x / 2 ^ j % 2) * 2 ^ (8 - fr))])→Y10.p0 Q (wp w) x n ((j:Int)+1) h') :
  Y10.p1 Q (wp w) x j n j h:=by
 refine Y10.i1 ?_
 unfold Y10.t1
 have c256:c<256:=Nat.lt_of_lt_of_le hc (Nat.pow_le_pow_right (by decide) (by omega:8 - fr≤8))
 obtain ⟨e1,e2⟩:=aFF ⟨fr,by omega⟩ ⟨c,c256⟩ ⟨x / 2 ^ j % 2,Nat.mod_lt _ (by decide)⟩ h1 hc
 simp only at e1 e2
 refine gD (cU (aE R rfl rfl (gD (cU (aE R rfl rfl (eG.plen B ?_))))))
 refine aM (n:=(pre.length:Int)) (by rw [List.length_append,List.length_singleton,aV (by omega) (by omega)]; omega) ?_
 refine eG.load B (c:=UInt8.ofNat c) (by simp) ?_
 refine kL ?_
 refine s9 (by show j≤64; omega) ?_
 refine aM (n:=((x / 2 ^ j % 2:Nat):Int)) ?_ ?_
 ·have hlt : x / 2 ^ j < 2 ^ 62 := Nat.lt_of_le_of_lt (Nat.div_le_self _ _) hx
  have:=i6 (x:=x / 2 ^ j) (y:=1) (by omega) (by decide)
  rw [Nat.and_one_is_mod] at this
  rw [show ((1:Nat):Int)=1 from rfl] at this
  rw [this]
  have:=Nat.mod_lt (x / 2 ^ j) (show 0<2 by decide)
  exact xU (by omega) (by omega)
 refine gD (cU (aE R rfl rfl (aD ?_)))
 refine aM (n:=((8 - fr:Nat):Int)) (by rw [aV (by omega) (by omega)]; omega) ?_
 refine ⟨by omega, ?_⟩
 have ec:(((UInt8.ofNat c).toNat:Nat):Int)=(c:Int):=by rw [UInt8.toNat_ofNat']; omega
 show aW 1 v (AV.i .i64 (pre.length:Int)) h fun v44=>aU 1 v44 (AV.i .u8 (bQ .or .u8 (((UInt8.ofNat c).toNat:Nat):Int) (IntKind.wrap .u8 (((x / 2 ^ j % 2:Nat):Int) * 2 ^ (min (((8 - fr:Nat):Int)).toNat IntKind.u8.bits))))) h _
 rw [ec,e1]
 have eb:AV.i .u8 ((c+x / 2 ^ j % 2 * 2 ^ (8 - fr):Nat):Int)=byteAV (UInt8.ofNat (c+x / 2 ^ j % 2 * 2 ^ (8 - fr))):=by
  unfold byteAV
  rw [UInt8.toNat_ofNat',Nat.mod_eq_of_lt (show _<2 ^ 8 from e2)]
 rw [eb]
 refine eG.store B (c:=UInt8.ofNat (c+x / 2 ^ j % 2 * 2 ^ (8 - fr))) (by simp) fun h2 l2 U2 B2=>?_
 have R2:=R.upd U2 hv
 refine gD (cU (aE R2 rfl rfl (aD ?_)))
 refine aM (n:=((fr - 1:Nat):Int)) (by rw [aV (by omega) (by omega)]; omega) ?_
 refine gD (cU (aQ R2 rfl (by show 1<2; decide) (hk:=fun h3 l3 U3 R3=>?_)))
 refine aM (n:=(j:Int)+1) (aV (by omega) (by omega)) ?_
 refine hq h3 (by omega) ?_ R3 ?_
 ·exact (U2.mono fun i _ h=>Or.inr h).trans (U3.mono fun i _ h=>Or.inl h) fun _ _ h=>h
 ·have : (pre ++ [UInt8.ofNat c]).set pre.length (UInt8.ofNat (c + x / 2 ^ j % 2 * 2 ^ (8 - fr))) = pre ++ [UInt8.ofNat (c + x / 2 ^ j % 2 * 2 ^ (8 - fr))] := by
   rw [List.set_append_right _ _ (Nat.le_refl _),Nat.sub_self] <;> rfl
  rw [this] at B2
  exact B2.upd U3 fun i hi e=>hv (e ▸ hi)
theorem aAD (x n : Nat) (hn : n ≤ 64) (hx : x < 2 ^ 62) (bs : List Nat) (hlen : bs.length + n < 2 ^ 40) : ∀ (k j : Nat) (h : aA), j + k = n → (∀ i, h.length ≤ i → G i) → Wr h G w (bs ++ Huff.loBits x j) → (∀ h', Upd G h h' → Wr h' G w (bs ++ Huff.loBits x n) → Q (.tu []) h') →
  Y10.p0 Q (wp w) x n j h:=by
 intro k
 induction k with
 | zero =>
  intro j h hj hG W hq
  refine Y10.i0 ?_
  unfold Y10.t0
  refine aX (decide_eq_false (by omega)) ?_
  have:j=n:=by omega
  subst this
  exact hq h (Upd.refl _ _) W
 | succ k ih =>
  intro j h hj hG W hq
  obtain ⟨v,R,B,g,gw,hx2⟩:=W
  have hb:x / 2 ^ j % 2<2:=Nat.mod_lt _ (by decide)
  obtain ⟨pre,c,p1,p2,p3⟩:=Infl.pack_snoc hb _ _ (Nat.le_refl _) hx2
  have hL:(bs++Huff.loBits x j).length=bs.length+j:=by rw [List.length_append,Infl.lo_length]
  have hsn:bs++Huff.loBits x (j+1)=(bs++Huff.loBits x j)++[x / 2 ^ j % 2]:=by rw [Infl.lo_snoc,List.append_assoc]
  have hx3:∀ y∈bs++Huff.loBits x (j+1),y<2:=by
   intro y hy
   rw [hsn] at hy
   rcases List.mem_append.1 hy with h | h
   ·exact hx2 y h
   ·rw [List.mem_singleton.1 h]; exact hb
  have hpk:=Infl.pack_len hx2
  rw [hL] at hpk p1 p2 p3
  have hv:¬ aO v w:=fun h=>(g w h).2 rfl
  refine Y10.i0 ?_
  unfold Y10.t0
  refine bA (decide_eq_true (by omega)) ?_
  refine gD (cU (aE R rfl rfl (aD ?_)))
  rcases p2 with ⟨m0,p2⟩ | ⟨m0,p2⟩
  ·have hf : fre (bs ++ Huff.loBits x j).length = 0 := by unfold fre; omega
   rw [m0,Nat.pow_zero] at p1 p3
   have c0:c=0:=by omega
   subst c0
   refine bA (decide_eq_true (by rw [hf] <;> rfl)) ?_
   refine gD (cU (aE R rfl rfl ?_))
   refine aCF B (by omega) fun v1 h1 U1 B1 g1=>?_
   have R1:=R.upd U1 hv
   have hv1:¬ aO v1 w:=fun h=>by
    rcases g1 w h with h | h
    ·exact hv h
    ·have:=R.lt; omega
   obtain ⟨s1,s2,s3⟩:=slv B1
   refine gD (cU (aQ R1 rfl (by show 0<2; decide) s1 s2 s3 (hk:=fun h2 l2 U2 R2=>?_)))
   refine gD (cU (aQ R2 rfl (by show 1<2; decide) (hk:=fun h3 l3 U3 R3=>?_)))
   have B3:=(B1.upd U2 fun i hi e=>hv1 (e ▸ hi)).upd U3 fun i hi e=>hv1 (e ▸ hi)
   rw [p2] at B3
   have gv1:∀ i,aO v1 i→G i∧i≠w:=fun i hi=>⟨by
    rcases g1 i hi with h | h
    ·exact (g i h).1
    ·exact hG i h,fun e=>hv1 (e ▸ hi)⟩
   have hh:h.length≤h3.length:=by have:=U1.1; omega
   refine aF8 (fr:=8) (c:=0) (pre:=pre) (by decide) (by decide) (by decide) (by rw [p2] at hpk; omega) (by omega) hn hx R3 B3 hv1 fun h4 l4 U4 R4 B4=>?_
   refine ih (j+1) h4 (by omega) (fun i hi=>hG i (by omega)) ⟨v1, ?_, ?_,gv1,gw,hx3⟩ fun h5 U5 W5=>hq h5 ?_ W5
   ·have : fre (bs ++ Huff.loBits x (j + 1)).length = 8 - 1 := by rw [List.length_append, Infl.lo_length]; unfold fre; omega
    rw [this]; exact R4
   ·rw [hsn,p3]; exact B4
   ·refine ((((U1.mono fun i _ h => (g i h).1).trans (U2.mono fun i _ h => (h ▸ gw : G i)) fun _ _ h => h).trans (U3.mono fun i _ h => (h ▸ gw : G i)) fun _ _ h => h).trans (U4.mono fun i _ h => ?_) fun _ _ h => h).trans U5 fun _ _ h => h
    rcases h with h | h
    ·exact h ▸ gw
    ·exact (gv1 i h).1
  ·have hf : fre (bs ++ Huff.loBits x j).length = 8 - (bs.length + j) % 8 := by rw [hL]; unfold fre; omega
   refine aX (decide_eq_false (by rw [hf]; omega)) ?_
   rw [hf] at R
   rw [p2] at B
   have e8:8 - (8 - (bs.length+j) % 8)=(bs.length+j) % 8:=by omega
   refine aF8 (fr:=8 - (bs.length+j) % 8) (c:=c) (pre:=pre) (by omega) (by omega) (by rw [e8]; exact p1) (by rw [p2,List.length_append] at hpk; omega) (by omega) hn hx R B hv fun h4 l4 U4 R4 B4=>?_
   rw [e8] at B4
   refine ih (j+1) h4 (by omega) (fun i hi=>hG i (by omega)) ⟨v, ?_, ?_,g,gw,hx3⟩ fun h5 U5 W5=>hq h5 ?_ W5
   ·have : fre (bs ++ Huff.loBits x (j + 1)).length = 8 - (bs.length + j) % 8 - 1 := by rw [List.length_append, Infl.lo_length]; unfold fre; omega
    rw [this]; exact R4
   ·rw [hsn,p3]; exact B4
   ·refine (U4.mono fun i _ h => ?_).trans U5 fun _ _ h => h
    rcases h with h | h
    ·exact h ▸ gw
    ·exact (g i h).1
theorem j4 {x n:Nat} {bs:List Nat} (hn:n≤64) (hx:x<2 ^ 62) (hlen:bs.length+n<2 ^ 40) (hG:∀ i,h.length≤i→G i) (W:Wr h G w bs) (hq:∀ h',Upd G h h'→Wr h' G w (bs++Huff.loBits x n)→Q (.tu []) h'):C Y10.id [wp w,iN x,iN n] h Q:=by
 refine Y10.call ?_
 unfold Y10.t
 refine aAD x n hn hx bs hlen n 0 h (by omega) hG (by simpa [Huff.loBits] using W) fun h' U W'=>.inl (hq h' U W')
theorem aCL {l:List Nat} {i x:Nat} (h:l[i]? = some x):(bB l)[i * 1]? = some (iN x):=by
 unfold bB
 rw [Nat.mul_one,List.getElem?_map,h] <;> rfl
theorem RdI.nat {h:aA} {v:AV} {l:List Nat} {k:IntKind} {i x:Nat} (R:RdI 1 h v (bB l) l.length) (hx:l[i]? = some x) {K:AV→Prop} (hk:K (iN x)):aW 1 v (.i k (i:Int)) h fun a=>aB a h K:=by
 have hi:=(List.getElem?_eq_some_iff.1 hx).1
 obtain ⟨p,P,hp⟩:=R.at hi
 have e:((bB l).drop (i * 1)).take 1=[iN x]:=by
  have hl:i<(bB l).length:=by rw [aT]; exact hi
  rw [Nat.mul_one,List.drop_eq_getElem_cons hl]
  have:=aCL hx
  rw [Nat.mul_one,List.getElem?_eq_getElem hl] at this
  rw [Option.some.inj this] <;> rfl
 rw [e] at P
 exact hp k h _ (Upd.refl _ _) (P.load1 hk)
theorem aD5 {s c:Nat} {cs:List Nat} {vc:AV} (hs:cs[s]? = some c) (hc:c<2 ^ 62) (hvG:∀ i,aO vc i→¬ G i):∀ (j:Nat) (bs':List Nat) (h:aA),j≤60→bs'.length+j<2 ^ 40 - 1→(∀ i,h.length≤i→G i)→RdI 1 h vc (bB cs) cs.length→Wr h G w bs' →
  (∀ h',Upd G h h'→Wr h' G w (bs'++Huff.hiBits c j)→Q (.tu []) h')→Y19.p0 Q (wp w) vc s ((j:Int) - 1) h:=by
 intro j
 induction j with
 | zero =>
  intro bs' h hj hl hG R W hq
  refine Y19.i0 ?_
  unfold Y19.t0
  refine aX (by decide) (hq h (Upd.refl _ _) (by simpa [Huff.hiBits] using W))
 | succ j ih =>
  intro bs' h hj hl hG R W hq
  refine Y19.i0 ?_
  unfold Y19.t0
  have ej:((j+1:Nat):Int) - 1=(j:Int):=by omega
  rw [ej]
  refine bA (decide_eq_true (by omega)) ?_
  refine RdI.nat R hs (aD ?_)
  refine s9 (by show j≤64; omega) ?_
  have hlt:c / 2 ^ j<2 ^ 62:=Nat.lt_of_le_of_lt (Nat.div_le_self _ _) hc
  have ha:bQ .and .i64 ((c / 2 ^ j:Nat):Int) 1=((c / 2 ^ j % 2:Nat):Int):=by
   have:=i6 (x:=c / 2 ^ j) (y:=1) (by omega) (by decide)
   rw [Nat.and_one_is_mod] at this
   exact this
  rw [ha]
  have hb:c / 2 ^ j % 2<2:=Nat.mod_lt _ (by decide)
  refine j4 (x:=c / 2 ^ j % 2) (n:=1) (by decide) (by omega) (by omega) hG W fun h1 U1 W1=>?_
  refine aM (n:=(j:Int) - 1) (aV (by omega) (by omega)) ?_
  have e1:Huff.loBits (c / 2 ^ j % 2) 1=[c / 2 ^ j % 2]:=by
   show [c / 2 ^ j % 2 % 2]=_
   rw [Nat.mod_mod]
  rw [e1] at W1
  refine ih (bs'++[c / 2 ^ j % 2]) h1 (by omega) (by simp; omega) (fun i hi=>hG i (Nat.le_trans U1.1 hi)) (R.upd U1 hvG) W1 fun h2 U2 W2=>hq h2 (U1.trans U2 fun _ _ h=>h) ?_
  rw [List.append_assoc] at W2
  exact W2
theorem aF4 {s c n:Nat} {cs ls:List Nat} {vc vl:AV} {bs:List Nat} (hs:cs[s]? = some c) (hn:ls[s]? = some n) (hc:c<2 ^ 62) (hn2:n≤60) (hvG:∀ i,aO vc i→¬ G i) (hl:bs.length+n<2 ^ 40 - 1) (hG:∀ i,h.length≤i→G i) (Rc:RdI 1 h vc (bB cs) cs.length) (Rl:RdI 1 h vl (bB ls) ls.length) (W:Wr h G w bs)
  (hq:∀ h',Upd G h h'→Wr h' G w (bs++Huff.hiBits c n)→Q (.tu []) h'):C Y19.id [wp w,vc,vl,iN s] h Q:=by
 refine Y19.call ?_
 unfold Y19.t
 refine RdI.nat Rl hn (aD ?_)
 refine aM (n:=(n:Int) - 1) (aV (by omega) (by omega)) ?_
 exact aD5 hs hc hvG n bs h hn2 hl hG Rc W fun h' U W'=>.inl (hq h' U W')
end
end Go.Proofs.YtpaphfeihpgamaaDoor
namespace Go.GAM
def sD (h:aA) (id:Nat) (cs:List AV):Prop:=∃ b:ABlk,h[id]? = some b∧b.cells=cs∧b.floor≤cs.length∧b.gl=true
theorem sD.upd {M:Nat→Prop} {h h':aA} {id:Nat} {cs:List AV} (G:sD h id cs) (U:Upd M h h') (hM:¬ M id):sD h' id cs:=by
 obtain ⟨b,h1,h2⟩:=G
 exact ⟨b,(U.2 id (aI h1) hM).trans h1,h2⟩
theorem sD.var {h:aA} {id:Nat} {cs:List AV} (G:sD h id cs):aAO h id = .p (some ⟨id,cs.length,0⟩):=by
 obtain ⟨b,h1,rfl,h3,h4⟩:=G
 unfold aAO
 rw [h1]
 simp only [h4,Bool.true_and,Nat.ble_eq_true_of_le h3,cond_true]
theorem sD.ld {h:aA} {id n o:Nat} {cs:List AV} {v:AV} {K:AV→Prop} (G:sD h id cs) (hn:n=cs.length) (hc:cs[o]? = some v) (hk:K v):aB (.p (some ⟨id,n,o⟩)) h K:=by
 obtain ⟨b,h1,rfl,h3,h4⟩:=G
 subst hn
 have:=aI hc
 refine ⟨b,h1,⟨h3,Nat.le_refl _,this⟩, ?_⟩
 show K (b.cells.getD o .u)
 rw [getD_some hc]; exact hk
end Go.GAM
namespace Go.Proofs.YtpaphfeihpgamaaDoor
open Go.GAM
open Go.Infl (bF dA bW Out Lim)
theorem Exa.rd {h:aA} {v:AV} {l:List Nat} (S:Exa h v l):Rd 1 h v (bB l) l.length:=by
 rcases S with ⟨rfl,rfl⟩ | ⟨id,b,rfl,h1,h2,h3,h4,h5⟩
 ·exact .inl ⟨rfl,rfl,rfl⟩
 ·have e : b.cells.length = l.length := by rw [h3, aT]
  exact .inr ⟨id,_,0,none,b,rfl,h1,.inl h2,h4,by omega,by omega,by rw [h3,List.drop_zero,Nat.mul_one, ← aT l,List.take_length]⟩
theorem Exa.app {ty:Option TypeId} {h:aA} {v y:AV} {l ns:List Nat} (S:Exa h v l) (R1:∀ K:List AV→Nat→Prop,K (bB ns) ns.length→d5 1 y h K) (hn:0<ns.length) (hlen:l.length+ns.length≤1000000) {K:AV→aA→Prop}
  (hk:∀ v' h',Upd (aO v) h h'→Exa h' v' (l++ns)→(∀ i,aO v' i→aO v i∨h.length≤i)→K v' h'):bT ty 1 8 v y h K:=by
 refine ⟨Nat.one_pos,R1 _ ?_⟩
 rcases S with ⟨rfl,rfl⟩ | ⟨id,b,rfl,g1,g2,g3,g4,g5,g6⟩
 ·refine ⟨by omega, by omega, ?_⟩
  rw [if_neg (by omega)]
  exact hk _ _ ((Upd.app _ _).mono fun _ _ h=>h.elim) (.inr ⟨h.length,aY (bB ns) 1 false ty,by rw [aT] <;> rfl,by simp,rfl,rfl,by simp [aY,aT],rfl,rfl⟩) fun i hi=>.inr (by have e:h.length=i:=hi; omega)
 ·have hid := aI g1
  have e:b.cells.length=l.length:=by rw [g3,aT]
  have ea:(l++ns).length=l.length+ns.length:=List.length_append
  have ec:(b.cells.drop 0).take (l.length * 1)=bB l:=by rw [g3,List.drop_zero,Nat.mul_one, ← aT l,List.take_length]
  refine ⟨by omega,by omega,b,g1,g2,⟨g4,by simp only; omega,by simp only; omega⟩, ?_⟩
  cases hex:b.ex with
  | true =>
   refine .inr (.inl ⟨hn,.inr ⟨rfl,e.symm,rfl,by simp only; omega⟩, ?_⟩)
   simp only [ec]
   rw [← eR]
   refine hk _ _ ((Upd.app _ _).mono fun _ _ h=>h.elim) (.inr ⟨h.length,aY (bB (l++ns)) 1 false ty,by rw [aT,ea],by simp,rfl,rfl,by simp [aY,aT],rfl,rfl⟩) fun i hi=>.inr (by have e:h.length=i:=hi; omega)
  | false =>
   refine .inr (.inr (.inr (.inl ⟨hn,g5,e.symm,rfl,by omega,rfl,rfl,g6,jW _, ?_⟩)))
   refine hk _ _ ((Upd.set _ _ _).mono fun i _ h=>h.symm) (.inr ⟨id,{ b with cells:=b.cells++bB ns,ty:=eS b.ty ty }, ?_,by simp [hid,hex],g2,by simp only [g3]; rw [eR],by simp only; omega,g5,g6⟩) fun i hi=>.inl hi
   rw [List.length_append,aT,e,ea]
theorem Exa.front {h:aA} {v:AV} {l:List Nat} (S:Exa h v l) {n:Nat} (hn:n≤l.length) {K:AV→Prop} (hk:∀ v',RdI 1 h v' (bB (l.take n)) (l.take n).length→K v'):bJ 1 v none (some (.i .i64 (n:Int))) none h K:=by
 obtain ⟨v',R,hv⟩:=S.rd.cutAt Nat.one_pos (lo:=none) (lo':=0) (hi:=n) (.inl ⟨rfl,rfl⟩) (Nat.zero_le _) hn
 refine hv _ (hk v' ?_)
 have e:(l.take n).length=n:=by rw [List.length_take]; omega
 rw [e]
 have:=R.i
 rw [Nat.zero_mul,List.drop_zero,Nat.mul_one,Nat.sub_zero] at this
 unfold bB at this ⊢
 rw [List.map_take]; exact this
theorem Exa.back {h:aA} {v:AV} {l:List Nat} (S:Exa h v l) {n:Nat} (hn:n≤l.length) {K:AV→Prop} (hk:∀ v',RdI 1 h v' (bB (l.drop n)) (l.drop n).length→K v'):bJ 1 v (some (.i .i64 (n:Int))) none none h K:=by
 rcases S with ⟨rfl,rfl⟩ | ⟨id,b,rfl,g1,g2,g3,g4,g5,g6⟩
 ·have : n = 0 := by simpa using hn
  subst this
  exact ⟨by simp,rfl,rfl,rfl,fun h=>by simp at h,hk _ (.inl ⟨rfl,rfl,rfl⟩)⟩
 ·have e : b.cells.length = l.length := by rw [g3, aT]
  refine ⟨Nat.one_pos,fun h=>by simp at h,by omega,by simpa using hn,b,g1,by omega,by show b.floor≤l.length; omega,.inl g2,.inl (Nat.le_refl _), ?_⟩
  refine hk _ (.inr (.inr ⟨id,l.length,0+((n:Int).toNat) * 1,none,b, ?_,g1,by omega,by omega, ?_, ?_⟩))
  ·simp
  ·simp; omega
  ·rw [Int.toNat_natCast, Nat.mul_one, Nat.zero_add, Nat.mul_one, g3]
   unfold bB
   rw [← List.map_drop]
   exact List.take_of_length_le (by simp)
theorem dE.store {h:aA} {G:Nat→Prop} {v:AV} {l:List Nat} (A:dE h G v l) {k:IntKind} {i x:Nat} (hi:i<l.length) {K:aA→Prop} (hk:∀ h',h'.length=h.length→Upd (aO v) h h'→dE h' G v (l.set i x)→K h') :
  aW 1 v (.i k (i:Int)) h fun a=>aU 1 a (iN x) h K:=by
 obtain ⟨id,b,rfl,h1,h2,h3,h4,h5,g⟩:=A
 have e:b.cells.length=l.length:=by rw [h2,aT]
 refine ⟨by omega,by omega,⟨b,h1,by show b.floor≤l.length; omega,by omega⟩, ?_⟩
 refine ⟨b,h1,h4,h3,e.symm,by simp only [Int.toNat_natCast]; omega,rfl,rfl,rfl, ?_⟩
 refine hk _ (by simp) ((Upd.set _ _ _).mono fun i _ h=>h.symm) ⟨id,_,by rw [List.length_set],List.getElem?_set_self (aI h1), ?_, ?_,h4,h5,g⟩
 ·show (b.cells).set (0 + (i : Int).toNat * 1) (iN x) = _
  rw [Int.toNat_natCast,Nat.mul_one,Nat.zero_add,h2,i7]
 ·show b.cells.length ≤ _
  rw [List.length_set]; omega
section
variable [XR] {h:aA} {Q:AV→aA→Prop} {L:Lim} {F:Nat→Prop} {d:Nat} {r:DR} {out:List UInt8} {told:Nat}
theorem mO {c l:List Nat} {lits dists ic:Nat} {symc lv:AV} (hc19:c.length≤19) (hl1:lits≤286) (hd1:dists≤30) (hll:l.length≤lits+dists) (h16:∀ x∈l,x<16) (D:Dec L h F d r out told) (hF:∀ i,h.length≤i→F i) (hd:r.done=false)
  (A:bZ h (Gd F d r) ic c symc 0 0) (S:Lst h (fun i=>Gd F d r i∧i≠ic∧¬ aO symc i) lv l)
  (hq:∀ e h' r',cM (· = d) L h F d r told (Infl.lensW ⟨out,r.last,r.skip⟩ c l lits dists) e h' r'→Q (.i .i64 e) h'):C Y38.id [dp d,cp ic,lv,iN lits,iN dists] h Q:=by
 refine Y38.call ?_
 simp only [Y38.t]
 refine bS (hk:=fun h1 l1 U1 R1=>?_)
 refine bS (hk:=fun h2 l2 U2 R2=>?_)
 refine bS (hs:=by rcases S.1 with ⟨rfl,_⟩ | ⟨id,b,rfl,_⟩ <;> rfl) (hk:=fun h3 l3 U3 R3=>?_)
 have hparts:lv.parts=[lv]:=by rcases S.1 with ⟨rfl,_⟩ | ⟨id,b,rfl,_⟩ <;> rfl
 rw [hparts] at R3 ⊢
 refine bS (hk:=fun h4 l4 U4 R4=>?_)
 refine bS (hk:=fun h5 l5 U5 R5=>?_)
 have U45:=U4.then U5
 have U35:=U3.then U45
 have U25:=U2.then U35
 have U:=U1.then U25
 have R1:=R1.upd U25 fun h=>h
 have R2:=R2.upd U35 fun h=>h
 have R3:=R3.upd U45 fun h=>h
 have R4:=R4.upd U5 fun h=>h
 have S5:Exa h5 lv l:=S.1.upd U fun _ _ h=>h
 refine aE R3 rfl rfl (S5.rd.len ?_)
 refine aE R4 rfl rfl (aD (aE R5 rfl rfl (aD ?_)))
 refine dK (n:=((lits+dists:Nat):Int)) (by omega) (by omega) (by omega) ?_
 unfold Infl.lensW at hq
 refine aR ?_ ?_ <;> intro e
 ·have e : l.length = lits + dists := by simp at e; omega
  rw [if_pos e] at hq
  refine aE R1 rfl rfl (aE R3 rfl rfl (aE R4 rfl rfl (aD (S5.front (by omega) fun va Ra=>?_))))
  refine aE R3 rfl rfl (aE R4 rfl rfl (aD (S5.back (by omega) fun vb Rb=>?_)))
  refine xQ (D.ext U) (fun i hi=>hF i (Nat.le_trans U.1 hi)) hd Ra Rb (by rw [List.length_take]; omega) (by rw [List.length_drop]; omega) (fun x hx=>by have:=h16 x (List.mem_of_mem_take hx); omega) (fun x hx=>by have:=h16 x (List.mem_of_mem_drop hx); omega) fun e1 h6 r6 P=>aD (.inl (hq e1 h6 r6 ?_))
  exact P.from U (fun _ _ h=>h.elim) (fun _ _ h=>h) rfl rfl rfl
 ·have e : ¬ l.length = lits + dists := by simp at e; omega
  rw [if_neg e] at hq
  refine cE fun h6 l6 U6 R6=>?_
  refine aQ R6 rfl (ltr rfl) (hk:=fun h7 l7 U7 R7=>?_)
  have U67:Upd (fun _=>False) h5 h7:=U6.own U7 (Nat.le_refl _)
  have V:=U.then U67
  have R1:=R1.upd U67 fun h=>h
  have R2:=R2.upd U67 fun h=>h
  have R3:=R3.upd U67 fun h=>h
  have R4:=R4.upd U67 fun h=>h
  have R5:=R5.upd U67 fun h=>h
  have hic:=A.recd.lt
  have G:∀ {i},h.length≤i→(Gd F d r i∧i≠ic)∧¬ aO lv i:=fun hi=>⟨⟨D.gd hF hi,by omega⟩,fun hs=>by have:=S.1.lt hs; omega⟩
  refine aE R1 rfl rfl (aE R2 rfl rfl ?_)
  refine pG (D.ext V) hd (l:=c) (ic:=ic) (sym:=symc) (c:=.lens c l lits dists) (A.upd V (fun _ _ h=>h) fun i _ hi=>hi) ⟨_,_,_,_,_,_,lv,rfl,⟨S.1.upd V fun _ _ h=>h,fun i hi=>⟨(S.2 i hi).1,(S.2 i hi).2.1⟩⟩,fun i hi=>(S.2 i hi).2.2,⟨_,rfl,R1,G (Nat.le_refl _)⟩,⟨_,rfl,R2,G (by omega)⟩,⟨_,rfl,R3,G (by omega)⟩,⟨_,rfl,R4,G (by omega)⟩,⟨_,rfl,R5,G (by omega)⟩,⟨_,rfl,R7,G (by omega)⟩⟩
   ⟨by decide,by decide,fun v hv=>⟨hc19,hl1,hd1,by omega,h16,by omega⟩⟩ fun h8 r8 P=>aD (.inl (hq 0 h8 r8 ?_))
  exact P.from V (fun _ _ h=>h.elim) (fun _ _ h=>h) rfl rfl rfl
theorem xS {l:List Nat} {i n lits dists:Nat} {lv:AV} (hl1:lits≤286) (hd1:dists≤30) (h19:l.length=19) (h8:∀ x∈l,x<8) (hin:i≤n) (hn:n≤19) (D:Dec L h F d r out told) (hF:∀ i,h.length≤i→F i) (hd:r.done=false) (A:dE h (Gd F d r) lv l)
  (hq:∀ e h' r',cM (· = d) L h F d r told (Infl.thirdW ⟨out,r.last,r.skip⟩ l i n lits dists) e h' r'→Q (.i .i64 e) h'):C Y41.id [dp d,lv,iN i,iN n,iN lits,iN dists] h Q:=by
 refine Y41.call ?_
 simp only [Y41.t]
 have hparts:lv.parts=[lv]:=by obtain ⟨id,b,rfl,_⟩:=A; rfl
 have hlt:∀ j,aO lv j→j<h.length:=fun j hj=>A.rd.lt hj
 refine bS (hk:=fun h1 l1 U1 R1=>?_)
 refine bS (hs:=by obtain ⟨id,b,rfl,_⟩:=A; rfl) (hk:=fun h2 l2 U2 R2=>?_)
 rw [hparts] at R2 ⊢
 refine bS (hk:=fun h3 l3 U3 R3=>?_)
 refine bS (hk:=fun h4 l4 U4 R4=>?_)
 refine bS (hk:=fun h5 l5 U5 R5=>?_)
 refine bS (hk:=fun h6 l6 U6 R6=>?_)
 have U56:=U5.then U6
 have U46:=U4.then U56
 have U36:=U3.then U46
 have U26:=U2.then U36
 have U:=U1.then U26
 have R1:=R1.upd U26 fun h=>h
 have R2:=R2.upd U36 fun h=>h
 have R3:=R3.upd U46 fun h=>h
 have R4:=R4.upd U56 fun h=>h
 have R5:=R5.upd U6 fun h=>h
 have A6:dE h6 (Gd F d r) lv l:=A.upd U (fun _ _ h=>h) fun _ _ h=>h
 refine aE R3 rfl rfl (aD (aE R4 rfl rfl (aD ?_)))
 unfold Infl.thirdW at hq
 refine aR ?_ ?_ <;> intro e
 ·have e : i = n := by simp at e; omega
  rw [if_pos e] at hq
  refine aE R2 rfl rfl ?_
  refine o3 A6.rd.i (by omega) (fun x hx=>by have:=h8 x hx; omega) (fun hn e he=>?_) fun hok h7 ic sym U7 Ac=>?_
  ·simp only [eD, eC]
   rw [if_neg hn] at hq
   refine aD (bA (by simp [he]) (.inl (hq 2 h6 r ?_)))
   exact ⟨U.mono fun _ _ h=>h.elim,fun _ _ h=>h,D.ext U,rfl,rfl,rfl,rfl,.inl rfl,hd⟩
  ·simp only [eD, eC]
   rw [if_pos hok] at hq
   refine aD (aX rfl ?_)
   have V:=U.then U7
   have hU:=U.1
   have Ag:bZ h7 (Gd F d r) ic l sym 0 0:={ Ac with g:=D.gd hF (Nat.le_trans hU Ac.g),gs:=fun i hi=>⟨D.gd hF (Nat.le_trans hU (Ac.gs i hi).1),(Ac.gs i hi).2⟩ }
   refine aE (R1.upd U7 fun h=>h) rfl rfl (aE (R5.upd U7 fun h=>h) rfl rfl (aD (aE (R6.upd U7 fun h=>h) rfl rfl (aD ?_))))
   refine mO (l:=[]) (by omega) hl1 hd1 (Nat.zero_le _) (fun x hx=>by cases hx) (D.ext V) (fun i hi=>hF i (Nat.le_trans V.1 hi)) hd Ag ⟨.inl ⟨rfl,rfl⟩,fun _ h=>h.elim⟩ fun e h8 r8 P=>aD (.inl (hq e h8 r8 ?_))
   exact P.from V (fun _ _ h=>h.elim) (fun _ _ h=>h) rfl rfl rfl
 ·have e : ¬ i = n := by simp at e; omega
  rw [if_neg e] at hq
  have G:∀ {i},h.length≤i→Gd F d r i∧¬ aO lv i:=fun hi=>⟨D.gd hF hi,fun hs=>by have:=hlt _ hs; omega⟩
  refine aE R1 rfl rfl ?_
  refine dH (D.ext U) hd (c:=.third l i n lits dists) ⟨_,_,_,_,_,_,lv,rfl,A6,⟨_,rfl,R2,G (by omega)⟩,⟨_,rfl,R3,G (by omega)⟩,⟨_,rfl,R1,G (Nat.le_refl _)⟩,⟨_,rfl,R4,G (by omega)⟩,⟨_,rfl,R5,G (by omega)⟩,⟨_,rfl,R6,G (by omega)⟩⟩
   ⟨by decide,by decide,.inl (by decide),fun v hv=>⟨hl1,hd1,h19,by omega,hn,h8,hv⟩⟩ fun h7 r7 P=>aD (.inl (hq 0 h7 r7 ?_))
  exact P.from U (fun _ _ h=>h.elim) (fun _ _ h=>h) rfl rfl rfl
theorem aFI {x lits dists:Nat} {v:AV} (D:Dec L h F d r out told) (hF:∀ i,h.length≤i→F i) (hd:r.done=false) (hc:Clo h (Gd F d r) d 0 (.p none) (.dyn3 lits dists) v) (hf:fit (.dyn3 lits dists) x)
  (hq:∀ e h' r',cM F L h F d r told (Infl.apply L r.input ⟨out,r.last,r.skip⟩ x (.dyn3 lits dists)) e h' r'→Q (.i .i64 e) h'):bU C v [iN x] h Q:=by
 obtain ⟨bd,bl,bs,rfl,B,Bl,Bs⟩:=hc
 obtain ⟨f1,f2,f3⟩:=hf
 refine cP (by decide) (Y61.call ?_)
 simp only [Y61.t,B.ld,Bl.ld,Bs.ld,gY]
 refine dK (n:=((x+4:Nat):Int)) (by omega) (by omega) (by omega) ?_
 refine oS (n:=19) (by decide) fun v h1 U1 A1=>?_
 have up:∀ {y z},Bx h (Gd F d r) y z→Bx h1 (Gd F d r) y z:=fun B=>B.upd U1 (fun _ _ h=>h) fun _ _ h=>h
 simp only [(up B).ld,(up Bl).ld,(up Bs).ld,gY,mK,true_and]
 refine xS (l:=List.replicate 19 0) (i:=0) f1 f2 (by simp) (fun x hx=>by rw [(List.mem_replicate.1 hx).2]; decide) (by omega) (by omega) (D.ext U1) (fun i hi=>hF i (Nat.le_trans U1.1 hi)) hd (A1.mono fun i _ hi=>D.gd hF hi) fun e h2 r2 P=>aD (.inl (hq e h2 r2 ?_))
 exact (P.from U1 (fun _ _ h=>h.elim) (fun _ _ h=>h) rfl rfl rfl).mono fun i _ e=>D.f i (.inl e)
theorem aBF:∀ i,i<19→Infl.order[i]? = some (Infl.order.getD i 0)∧Infl.order.getD i 0<19:=by decide
abbrev cS (h:aA):Prop:=sD h 0 (bB Infl.order)
theorem aDK {x i n lits dists:Nat} {l:List Nat} {v:AV} (O:cS h) (D:Dec L h F d r out told) (hF:∀ i,h.length≤i→F i) (hd:r.done=false) (hc:Clo h (Gd F d r) d 0 (.p none) (.third l i n lits dists) v) (hf:fit (.third l i n lits dists) x)
  (hq:∀ e h' r',cM F L h F d r told (Infl.apply L r.input ⟨out,r.last,r.skip⟩ x (.third l i n lits dists)) e h' r'→Q (.i .i64 e) h'):bU C v [iN x] h Q:=by
 obtain ⟨bl,bi,bd,bn,bt,bs,lv,rfl,A,Bl,Bi,B,Bn,Bt,Bs⟩:=hc
 obtain ⟨f1,f2,f3,f4,f5,f6,f7⟩:=hf
 obtain ⟨o1,o2⟩:=aBF i (by omega)
 refine cP (by decide) (Y52.call ?_)
 simp only [Y52.t,Bl.ld,Bi.ld,gY]
 rw [O.var]
 refine ⟨by omega,by omega, ?_⟩
 refine O.ld (o:=0+(i:Int).toNat * 1) (v:=iN (Infl.order.getD i 0)) rfl (by rw [Int.toNat_natCast,Nat.mul_one,Nat.zero_add]; exact gQ o1) (aD ?_)
 refine A.store (by omega) fun h1 l1 U1 A1=>?_
 have up:∀ {y z},Bx h (fun i=>Gd F d r i∧¬ aO lv i) y z→Bx h1 (fun i=>Gd F d r i∧¬ aO lv i) y z:=fun B=>B.upd U1 (fun i hi=>hi.2) fun _ _ h=>h
 simp only [(up B).ld,(up Bl).ld,(up Bi).ld,(up Bn).ld,(up Bt).ld,(up Bs).ld,gY]
 have hlv:∀ i,aO lv i→Gd F d r i:=fun i hi=>by obtain ⟨id,b,rfl,_,_,_,_,_,g⟩:=A; have e:id=i:=hi; exact e ▸ g
 refine inc (by omega) ?_
 refine xS (l:=l.set (Infl.order.getD i 0) x) (i:=i+1) f1 f2 (by rw [List.length_set]; exact f3) (fun y hy=>?_) (by omega) f5 (D.upd U1 fun i hm hi=>(hlv i hi).2 hm) (fun i hi=>hF i (by omega)) hd A1 fun e h2 r2 P=>aD (.inl (hq e h2 r2 ?_))
 ·rcases List.mem_or_eq_of_mem_set hy with h | h
  ·exact f6 y h
  ·rw [h]; exact f7
 ·exact (P.mono (N:=F) fun i _ e=>D.f i (.inl e)).from U1 (fun i _ hi=>(hlv i hi).1) (fun _ _ h=>h) rfl rfl rfl
theorem mH {bd bl bt bs bc lv symc:AV} {c l:List Nat} {lits dists ic bits m x:Nat} (D:Dec L h F d r out told) (hF:∀ i,h.length≤i→F i) (hd:r.done=false) (A:bZ h (Gd F d r) ic c symc 0 0) (S:Lst h (fun i=>Gd F d r i∧i≠ic∧¬ aO symc i) lv l)
  (B:Bx h (fun i=>Gd F d r i∧¬ aO lv i) bd (dp d)) (Bl:Bx h (fun i=>Gd F d r i∧¬ aO lv i) bl lv) (Bt:Bx h (fun i=>Gd F d r i∧¬ aO lv i) bt (iN lits)) (Bs:Bx h (fun i=>Gd F d r i∧¬ aO lv i) bs (iN dists)) (Bc:Bx h (fun i=>Gd F d r i∧¬ aO lv i) bc (cp ic))
  (hb0:0<bits) (hb:bits≤7) (hfit:∀ v,v<2 ^ bits→fit (.rep c l lits dists m x) v)
  (hq:∀ h' r',cM (· = d) L h F d r told (.wait ⟨out,r.last,r.skip⟩ (.num bits 0 0) (.rep c l lits dists m x)) 0 h' r'→Q (iN 0) h'):bU C (Fn Y39.id [bd,bl,bt,bs,bc]) [iN bits,iN m,iN x] h Q:=by
 refine cP (by decide) (Y39.call ?_)
 simp only [Y39.t]
 refine bS (hk:=fun h1 l1 U1 R1=>?_)
 refine bS (hk:=fun h2 l2 U2 R2=>?_)
 have U:=U1.then U2
 have R1:=R1.upd U2 fun h=>h
 have up:∀ {y z},Bx h (fun i=>Gd F d r i∧¬ aO lv i) y z→Bx h2 (fun i=>Gd F d r i∧¬ aO lv i) y z:=fun B=>B.upd U (fun _ _ h=>h) fun _ _ h=>h
 have G:∀ {i},h.length≤i→Gd F d r i∧¬ aO lv i:=fun hi=>⟨D.gd hF hi,fun hs=>by have:=S.1.lt hs; omega⟩
 rw [(up B).ld]
 refine dH (D.ext U) hd (c:=.rep c l lits dists m x) ⟨_,_,_,_,_,_,_,ic,symc,lv,rfl,S.upd U (fun _ _ h=>h) fun _ _ h=>h,A.upd U (fun _ _ h=>h) fun _ _ h=>h,up Bl,⟨_,rfl,R1,G (Nat.le_refl _)⟩,up Bt,up Bs,up B,up Bc,⟨_,rfl,R2,G (by omega)⟩⟩
  ⟨by omega,by simp,.inl hb0,hfit⟩ fun h3 r3 P=>aD (.inl (hq h3 r3 ?_))
 exact P.from U (fun _ _ h=>h.elim) (fun _ _ h=>h) rfl rfl rfl
theorem aFY {x ic lits dists : Nat} {sym : AV} {c l : List Nat} {v : AV} (D : Dec L h F d r out told) (hF : ∀ i, h.length ≤ i → F i) (hd : r.done = false) (A : bZ h (Gd F d r) ic c sym 0 0) (hc : Clo h (fun i => Gd F d r i ∧ i ≠ ic) d ic sym (.lens c l lits dists) v) (hf : fit (.lens c l lits dists) x)
  (hq:∀ e h' r',cM F L h F d r told (Infl.apply L r.input ⟨out,r.last,r.skip⟩ x (.lens c l lits dists)) e h' r'→Q (.i .i64 e) h'):bU C v [iN x] h Q:=by
 obtain ⟨bd,bc,bl,bt,bs,br,lv,rfl,S0,hns,B,Bc,Bl,Bt,Bs,Br⟩:=hc
 obtain ⟨f0,f1,f2,f3,f4,f5⟩:=hf
 have S:Lst h (fun i=>Gd F d r i∧i≠ic∧¬ aO sym i) lv l:=⟨S0.1,fun i hi=>⟨(S0.2 i hi).1,(S0.2 i hi).2,hns i hi⟩⟩
 have w:∀ {y z},Bx h (fun i=>(Gd F d r i∧i≠ic)∧¬ aO lv i) y z→Bx h (fun i=>Gd F d r i∧¬ aO lv i) y z:=fun B=>B.upd (Upd.refl (fun _=>False) h) (fun _ _ h=>h) fun i _ hi=>⟨hi.1.1,hi.2⟩
 have B:=w B
 have Bc:=w Bc
 have Bl:=w Bl
 have Bt:=w Bt
 have Bs:=w Bs
 have Br:=w Br
 have hFd:∀ i,h.length≤i→F i:=hF
 refine cP (by decide) (Y23.call ?_)
 simp only [Y23.t, ← Y23.p0.eq_1]
 simp only [Infl.apply] at hq
 refine aR ?_ ?_ <;> intro e0
 ·have e0 : x < 16 := by simp at e0; omega
  rw [if_pos e0] at hq
  simp only [B.ld,Bc.ld,Bl.ld,Bt.ld,Bs.ld,gY]
  refine eN (cs:=bB [x]) rfl rfl fun y h1 l1 U1 R1 F1=>?_
  have up:∀ {y z},Bx h (fun i=>Gd F d r i∧¬ aO lv i) y z→Bx h1 (fun i=>Gd F d r i∧¬ aO lv i) y z:=fun B=>B.upd U1 (fun _ _ h=>h) fun _ _ h=>h
  simp only [(up B).ld,(up Bc).ld,(up Bl).ld,(up Bt).ld,(up Bs).ld,gY,mK,true_and]
  have S1:Exa h1 lv l:=S.1.upd U1 fun _ _ h=>h
  refine S1.app (ns:=[x]) (fun K hk=>R1.news hk) Nat.one_pos (by simp; omega) fun lv' h2 U2 S2 N2=>?_
  have up2:∀ {y z},Bx h (fun i=>Gd F d r i∧¬ aO lv i) y z→Bx h2 (fun i=>Gd F d r i∧¬ aO lv i) y z:=fun B=>(up B).upd U2 (fun i hi=>hi.2) fun _ _ h=>h
  simp only [(up2 B).ld,(up2 Bc).ld,(up2 Bt).ld,(up2 Bs).ld,gY,mK,true_and]
  have U:Upd (aO lv) h h2:=(U1.mono fun _ _ h=>h.elim).trans U2 fun _ _ h=>h
  have hic:=A.recd.lt
  refine mO (l:=l++[x]) f0 f1 f2 (by simp; omega) (fun y hy=>?_) (D.upd U fun i hm hi=>(S.2 i hi).1.2 hm) (fun i hi=>hF i (Nat.le_trans U.1 hi)) hd { A with recd:=A.recd.upd U fun hs=>(S.2 ic hs).2.1 rfl,syms:=A.syms.upd U fun i hi hs=>(S.2 i hs).2.2 hi,gs:=fun i hi=>⟨(A.gs i hi).1,(A.gs i hi).2.1,Nat.lt_of_lt_of_le (A.gs i hi).2.2 U.1⟩ } ⟨S2,fun i hi=>?_⟩ fun e h3 r3 P=>aD (.inl (hq e h3 r3 ?_))
  ·rcases List.mem_append.1 hy with h | h
   ·exact f4 y h
   ·simp at h; omega
  ·rcases N2 i hi with g | g
   ·exact S.2 i g
   ·have := U1.1
    exact ⟨D.gd hF (by omega),by omega,fun hs=>by have:=(A.gs i hs).2.2; omega⟩
  ·exact (P.mono (N:=F) fun i _ e=>D.f i (.inl e)).from U (fun i _ hi=>(S.2 i hi).1.1) (fun _ _ h=>h) rfl rfl rfl
 ·have e0 : ¬ x < 16 := by simp at e0; omega
  rw [if_neg e0] at hq
  have P0 : ∀ t, t = decide (x = 16 ∧ l = []) → Y23.p0 (aK h Q) x bl br t h := fun t ht => by
   refine Y23.i0 ?_
   simp only [Y23.t0]
   by_cases h16:x=16
   ·rw [if_pos h16] at hq
    by_cases hl:l=[]
    ·rw [if_pos hl] at hq
     refine bA (by rw [ht]; exact decide_eq_true ⟨h16,hl⟩) (.inl (hq 2 h r ?_))
     exact ⟨Upd.refl _ _,fun _ _ h=>h,D,rfl,rfl,rfl,rfl,.inl rfl,hd⟩
    ·rw [if_neg hl] at hq
     refine aX (by rw [ht]; exact decide_eq_false fun hh=>hl hh.2) (bA (by simp; omega) ?_)
     have hpos:0<l.length:=List.length_pos_iff.2 hl
     simp only [Bl.ld,Br.ld]
     refine S.1.rd.len (dK (n:=((l.length - 1:Nat):Int)) (by omega) (by omega) (by omega) ?_)
     have hlast:l[l.length - 1]? = some (l.getLastD 0):=by
      rw [List.getLastD_eq_getLast?,List.getLast?_eq_getElem?]
      rw [List.getElem?_eq_getElem (by omega)] <;> rfl
     have hx16:=f4 _ (List.mem_of_getElem? hlast)
     refine j3 S.1.rd.i hlast ?_
     refine mH (bits:=2) (m:=3) D hF hd A S B Bl Bt Bs Bc (by decide) (by decide) (fun v hv=>⟨f0,f1,f2,f3,f4,hx16,by decide,by omega⟩) fun h1 r1 P=>aD (.inl (hq 0 h1 r1 (P.mono fun i _ e=>D.f i (.inl e))))
   ·rw [if_neg h16] at hq
    refine aX (by rw [ht]; exact decide_eq_false fun hh=>h16 hh.1) (aX (by simp; omega) ?_)
    refine aR ?_ ?_ <;> intro e1
    ·have e1 : x = 17 := by simp at e1; omega
     rw [if_pos e1] at hq
     simp only [Br.ld]
     refine mH (bits:=3) (m:=3) (x:=0) D hF hd A S B Bl Bt Bs Bc (by decide) (by decide) (fun v hv=>⟨f0,f1,f2,f3,f4,by decide,by decide,by omega⟩) fun h1 r1 P=>aD (.inl (hq 0 h1 r1 (P.mono fun i _ e=>D.f i (.inl e))))
    ·have e1 : ¬ x = 17 := by simp at e1; omega
     rw [if_neg e1] at hq
     simp only [Br.ld]
     refine mH (bits:=7) (m:=11) (x:=0) D hF hd A S B Bl Bt Bs Bc (by decide) (by decide) (fun v hv=>⟨f0,f1,f2,f3,f4,by decide,by decide,by omega⟩) fun h1 r1 P=>aD (.inl (hq 0 h1 r1 (P.mono fun i _ e=>D.f i (.inl e))))
  refine aR ?_ ?_ <;> intro e1
  ·have e1 : x = 16 := by simp at e1; omega
   simp only [Bl.ld]
   refine S.1.rd.len (P0 _ ?_)
   rw [decide_eq_decide]
   constructor
   ·intro hh; exact ⟨e1,List.eq_nil_of_length_eq_zero (by omega)⟩
   ·rintro ⟨_,rfl⟩; rfl
  ·have e1 : ¬ x = 16 := by simp at e1; omega
   exact P0 _ (decide_eq_false fun hh=>e1 hh.1).symm
theorem aGF {x lits dists m y : Nat} {c l : List Nat} {v : AV} (D : Dec L h F d r out told) (hF : ∀ i, h.length ≤ i → F i) (hd : r.done = false) (hc : Clo h (Gd F d r) d 0 (.p none) (.rep c l lits dists m y) v) (hf : fit (.rep c l lits dists m y) x)
  (hq:∀ e h' r',cM F L h F d r told (Infl.apply L r.input ⟨out,r.last,r.skip⟩ x (.rep c l lits dists m y)) e h' r'→Q (.i .i64 e) h'):bU C v [iN x] h Q:=by
 obtain ⟨bl,bm,bt,bs,bd,bc,bx,ic,symc,lv,rfl,S,A,Bl,Bm,Bt,Bs,B,Bc,Bx'⟩:=hc
 obtain ⟨f0,f1,f2,f3,f4,f5,f6,f7⟩:=hf
 refine cP (by decide) (Y49.call ?_)
 simp only [Y49.t,B.ld,Bc.ld,Bl.ld,Bm.ld,Bt.ld,Bs.ld,Bx'.ld,gY]
 simp only [Infl.apply] at hq
 refine S.1.rd.len ?_
 refine dK (n:=((l.length+m:Nat):Int)) (by omega) (by omega) (by omega) ?_
 refine dK (n:=((l.length+(m+x):Nat):Int)) (by omega) (by omega) (by omega) ?_
 refine dK (n:=((lits+dists:Nat):Int)) (by omega) (by omega) (by omega) ?_
 refine aR ?_ ?_ <;> intro e0
 ·have e0 : lits + dists < l.length + (m + x) := by simp at e0; omega
  rw [if_pos e0] at hq
  exact .inl (hq 2 h r ⟨Upd.refl _ _,fun _ _ h=>h,D,rfl,rfl,rfl,rfl,.inl rfl,hd⟩)
 ·have e0 : ¬ lits + dists < l.length + (m + x) := by simp at e0; omega
  rw [if_neg e0] at hq
  refine dK (n:=((m+x:Nat):Int)) (by omega) (by omega) (by omega) ?_
  refine eN (cs:=bB [y]) rfl rfl fun z h1 l1 U1 R1 F1=>?_
  have up:∀ {y z},Bx h (fun i=>Gd F d r i∧¬ aO lv i) y z→Bx h1 (fun i=>Gd F d r i∧¬ aO lv i) y z:=fun B=>B.upd U1 (fun _ _ h=>h) fun _ _ h=>h
  simp only [(up B).ld,(up Bc).ld,(up Bl).ld,(up Bm).ld,(up Bt).ld,(up Bs).ld,(up Bx').ld,gY,mK,true_and]
  refine vJ R1.i (by omega) (by omega) fun h2 z2 U2 A2=>?_
  have U12:=U1.then U2
  have up2:∀ {y z},Bx h (fun i=>Gd F d r i∧¬ aO lv i) y z→Bx h2 (fun i=>Gd F d r i∧¬ aO lv i) y z:=fun B=>B.upd U12 (fun _ _ h=>h) fun _ _ h=>h
  simp only [(up2 B).ld,(up2 Bc).ld,(up2 Bl).ld,(up2 Bm).ld,(up2 Bt).ld,(up2 Bs).ld,(up2 Bx').ld,gY,mK,true_and]
  have S2:Exa h2 lv l:=S.1.upd U12 fun _ _ h=>h
  refine S2.app (ns:=List.replicate (m+x) y) (fun K hk=>A2.rd.i.news hk) (by simp; omega) (by simp; omega) fun lv' h3 U3 S3 N3=>?_
  have up3:∀ {y z},Bx h (fun i=>Gd F d r i∧¬ aO lv i) y z→Bx h3 (fun i=>Gd F d r i∧¬ aO lv i) y z:=fun B=>(up2 B).upd U3 (fun i hi=>hi.2) fun _ _ h=>h
  simp only [(up3 B).ld,(up3 Bc).ld,(up3 Bl).ld,(up3 Bm).ld,(up3 Bt).ld,(up3 Bs).ld,(up3 Bx').ld,gY,mK,true_and]
  have U:Upd (aO lv) h h3:=(U12.mono fun _ _ h=>h.elim).trans U3 fun _ _ h=>h
  have hic:=A.recd.lt
  refine mO (l:=l++List.replicate (m+x) y) f0 f1 f2 (by simp; omega) (fun y' hy=>?_) (D.upd U fun i hm hi=>(S.2 i hi).1.2 hm) (fun i hi=>hF i (Nat.le_trans U.1 hi)) hd { A with recd:=A.recd.upd U fun hs=>(S.2 ic hs).2.1 rfl,syms:=A.syms.upd U fun i hi hs=>(S.2 i hs).2.2 hi,gs:=fun i hi=>⟨(A.gs i hi).1,(A.gs i hi).2.1,Nat.lt_of_lt_of_le (A.gs i hi).2.2 U.1⟩ } ⟨S3,fun i hi=>?_⟩ fun e h4 r4 P=>aD (.inl (hq e h4 r4 ?_))
  ·rcases List.mem_append.1 hy with h | h
   ·exact f4 y' h
   ·rw [(List.mem_replicate.1 h).2]; exact f5
  ·rcases N3 i hi with g | g
   ·exact S.2 i g
   ·have := U12.1
    exact ⟨D.gd hF (by omega),by omega,fun hs=>by have:=(A.gs i hs).2.2; omega⟩
  ·exact (P.mono (N:=F) fun i _ e=>D.f i (.inl e)).from U (fun i _ hi=>(S.2 i hi).1.1) (fun _ _ h=>h) rfl rfl rfl
end
end Go.Proofs.YtpaphfeihpgamaaDoor
namespace Go.Proofs.YtpaphfeihpgamaaDoor
open Go.GAM
def eV (l:List Nat) (i:Nat):List Nat:=(List.range 16).map fun n=>Huff.fst l n+Huff.cnt (l.take i) n
def mF (l:List Nat) (i:Nat):List Nat:=(List.range l.length).map fun j=>if j<i∧0<l.getD j 0 then Huff.codeAt l j else 0
def gL (l:List Nat):List Nat:=mF l l.length
theorem hZ (l:List Nat) (i:Nat):(eV l i).length=16:=by simp [eV]
theorem jG (l:List Nat) (i:Nat):(mF l i).length=l.length:=by simp [mF]
theorem pE (l:List Nat) (i:Nat) {n:Nat} (h:n<16):(eV l i)[n]? = some (Huff.fst l n+Huff.cnt (l.take i) n):=by simp [eV,h]
theorem oE (l:List Nat) (i:Nat) {j:Nat} (h:j<l.length):(mF l i)[j]? = some (if j<i∧0<l.getD j 0 then Huff.codeAt l j else 0):=by simp [mF,h]
theorem zF {l:List Nat} {j:Nat} (h:j<l.length) (h0:0<l.getD j 0):(gL l)[j]? = some (Huff.codeAt l j):=by
 rw [gL,oE l _ h,if_pos ⟨h,h0⟩]
theorem wB (l:List Nat):eV l 0=(List.range 16).map (Huff.fst l):=by
 unfold eV
 exact List.map_congr_left fun j _=>by
  have:Huff.cnt (l.take 0) j=0:=by cases j <;> rfl
  rw [this] <;> rfl
theorem aA1 (l:List Nat):mF l 0=List.replicate l.length 0:=by
 refine List.ext_getElem? fun j=>?_
 by_cases hj:j<l.length
 ·rw [oE l 0 hj,if_neg (by omega)]; simp [hj]
 ·rw [List.getElem?_eq_none (by rw [jG]; omega),List.getElem?_eq_none (by simp; omega)]
theorem aAA {l:List Nat} {i x:Nat} (hx:l[i]? = some x) (h0:0<x) (h:x<16):(eV l i).set x (Huff.fst l x+Huff.cnt (l.take i) x+1)=eV l (i+1):=by
 refine List.ext_getElem? fun j=>?_
 rw [List.getElem?_set]
 by_cases hj:j<16
 ·rw [pE l i hj, pE l (i + 1) hj, fE hx, lA]
  by_cases e:x=j
  ·subst e; rw [if_pos rfl,if_pos (by rw [hZ]; exact h),if_pos ⟨h0,rfl⟩] <;> rfl
  ·rw [if_neg e,if_neg (by omega)]
 ·rw [if_neg (by omega),List.getElem?_eq_none (by rw [hZ]; omega),List.getElem?_eq_none (by rw [hZ]; omega)]
theorem wM {l:List Nat} {i:Nat} (hx:l[i]? = some 0):eV l (i+1)=eV l i:=by
 unfold eV
 exact List.map_congr_left fun j _=>by rw [fE hx,lA,if_neg (by omega)]
theorem rX {l:List Nat} {i x:Nat} (hx:l[i]? = some x):l.getD i 0=x:=by rw [List.getD_eq_getElem?_getD,hx] <;> rfl
theorem zP {l:List Nat} {i x:Nat} (hx:l[i]? = some x) (h0:0<x):Huff.codeAt l i=Huff.fst l x+Huff.cnt (l.take i) x:=by
 unfold Huff.codeAt
 rw [rX hx]
 cases x with
 | zero=>omega
 | succ n=>rfl
theorem aBY {l : List Nat} {i x : Nat} (hx : l[i]? = some x) (h0 : 0 < x) : (mF l i).set i (Huff.fst l x + Huff.cnt (l.take i) x) = mF l (i + 1) := by
 have hi:=aI hx
 refine List.ext_getElem? fun j=>?_
 rw [List.getElem?_set]
 by_cases hj:j<l.length
 ·rw [oE l i hj, oE l (i + 1) hj]
  by_cases e:i=j
  ·subst e; rw [if_pos rfl,if_pos (by rw [jG]; exact hi),if_pos ⟨by omega,by rw [rX hx]; exact h0⟩,zP hx h0]
  ·rw [if_neg e]
   congr 1
   by_cases hji:j<i
   ·by_cases h2 : 0 < l.getD j 0
    ·rw [if_pos ⟨hji,h2⟩,if_pos ⟨by omega,h2⟩]
    ·rw [if_neg (fun h=>h2 h.2),if_neg (fun h=>h2 h.2)]
   ·rw [if_neg (fun h=>hji h.1),if_neg (fun h=>by omega)]
 ·rw [if_neg (by omega),List.getElem?_eq_none (by rw [jG]; omega),List.getElem?_eq_none (by rw [jG]; omega)]
theorem zG {l:List Nat} {i:Nat} (hx:l[i]? = some 0):mF l (i+1)=mF l i:=by
 unfold mF
 refine List.map_congr_left fun j _=>?_
 by_cases e:j=i
 ·subst e
  rw [if_neg (fun h=>by rw [rX hx] at h; omega),if_neg (fun h=>by omega)]
 ·by_cases hji : j < i
  ·by_cases h2 : 0 < l.getD j 0
   ·rw [if_pos ⟨by omega,h2⟩,if_pos ⟨hji,h2⟩]
   ·rw [if_neg (fun h=>h2 h.2),if_neg (fun h=>h2 h.2)]
  ·rw [if_neg (fun h=>by omega),if_neg (fun h=>hji h.1)]
section
variable [XR] {h:aA} {Q:AV→aA→Prop} {v:AV} {l:List Nat}
theorem aAB (hl : l.length ≤ 320) (h15 : ∀ x ∈ l, x ≤ 15) {h0 : aA} {a : Nat} {x5 : AV} (R0 : RdI 1 h0 v (bB l) l.length) (ha : h0.length ≤ a) (hq : ∀ h', Upd (fun _ => False) h0 h' → dE h' (fun i => h0.length ≤ i) x5 (gL l) → Q x5 h') :
  ∀ (m i:Nat) (h:aA),i+m=l.length→Upd (fun _=>False) h0 h→bC h a (bB (eV l i))→dE h (fun i=>h0.length≤i∧i≠a) x5 (mF l i)→Y8.p1 (aK h0 Q) (.p (some ⟨a,16,0⟩)) x5 v l.length i h:=by
 intro m
 induction m with
 | zero =>
  intro i h hi U Ra O
  obtain rfl:i=l.length:=by omega
  refine Y8.i1 ?_
  simp only [Y8.t1]
  exact aX (by simp) (.inl (hq h U (O.mono fun i _ g=>g.1)))
 | succ m ih =>
  intro i h hi U Ra O
  have hil:i<l.length:=by omega
  obtain ⟨x,hx⟩:∃ x,l[i]? = some x:=⟨l[i],List.getElem?_eq_getElem hil⟩
  have hx15:x≤15:=h15 x (List.mem_of_getElem? hx)
  have R:=R0.ext U
  refine Y8.i1 ?_
  simp only [Y8.t1, ← Y8.p2.eq_1]
  refine bA (by simp; omega) ?_
  refine j3 R hx ?_
  have P2:∀ h',Upd (fun _=>False) h0 h'→bC h' a (bB (eV l (i+1)))→dE h' (fun i=>h0.length≤i∧i≠a) x5 (mF l (i+1))→Y8.p2 (aK h0 Q) (.p (some ⟨a,16,0⟩)) x5 v l.length i h':=fun h' U' R' O'=>by
   refine Y8.i2 ?_
   simp only [Y8.t2, ← Y8.p1.eq_1]
   exact inc (by omega) (ih (i+1) h' (by omega) U' R' O')
  refine aR (fun e=>?_) fun e=>?_
  ·have e : 0 < x := by simp at e; omega
   have tl:16=(bB (eV l i)).length:=by rw [aT,hZ]
   have hn:=pE l i (show x<16 by omega)
   have hb1:=rZ hl hx15
   have hb2:=kT (l.take i) x
   have hb3:(l.take i).length≤l.length:=by simp; omega
   have ex:0+(x:Int).toNat * 1=x:=by rw [Int.toNat_natCast]; omega
   refine ⟨by omega,by omega, ?_⟩
   rw [ex]
   refine aE Ra tl (gQ hn) (aD ?_)
   refine dE.store O (by rw [jG]; exact hil) fun h1 l1 U1 O1=>?_
   obtain ⟨idv,bv,hv,_,_,_,_,_,gv⟩:=O
   have Ra1:=Ra.upd U1 fun h=>by rw [hv] at h; exact gv.2 h
   refine ⟨by omega,by omega, ?_⟩
   rw [ex]
   refine aE Ra1 tl (gQ hn) (aD ?_)
   refine aM (n:=((Huff.fst l x+Huff.cnt (l.take i) x+1:Nat):Int)) (by rw [aV (by omega) (by omega)]; omega) ?_
   refine ⟨by omega,by omega, ?_⟩
   rw [ex]
   refine aQ Ra1 tl (by rw [← tl]; omega) (hk:=fun h2 l2 U2 R2=>?_)
   have Ub:Upd (fun _=>False) h0 h1:=U.ownP U1 fun j hj=>by
    rw [hv] at hj; cases hj; exact gv.1
   refine P2 h2 (Ub.own U2 ha) ?_ ?_
   ·rw [i7,aAA hx e (by omega)] at R2; exact R2
   ·rw [aBY hx e] at O1
    exact O1.upd U2 (fun i g e=>g.2 e) fun i _ g=>g
  ·have e : x = 0 := by simp at e; omega
   subst e
   rw [← wM hx] at Ra
   rw [← zG hx] at O
   exact P2 h U Ra O
theorem vK (hl:l.length≤320) (h15:∀ x∈l,x≤15) (hk:Huff.checkP l≠1) (R:RdI 1 h v (bB l) l.length) (hq:∀ h' w,Upd (fun _=>False) h h'→dE h' (fun i=>h.length≤i) w (gL l)→Q w h'):C Y8.id [v] h Q:=by
 refine Y8.call ?_
 simp only [Y8.t, ← Y8.p0.eq_1]
 refine xZ R hl h15 (aD ?_)
 have P0:∀ b,b=false→Y8.p0 (aK h Q) v b h:=fun b hb=>by
  subst hb
  refine Y8.i0 ?_
  simp only [Y8.t0, ← Y8.p1.eq_1]
  refine aX rfl ?_
  refine yS hl h15 R fun h1 U1=>?_
  have hf:((tab (d6 l) ((List.range 16).map (Huff.fst l))).drop 16).take 16=bB (eV l 0):=by
   unfold tab
   rw [List.drop_left' (by rw [aT,b7]),wB]
   exact List.take_of_length_le (by rw [aT]; simp)
  rw [show ∀ K:AV→Prop,jZ 16 16 (AV.ag (tab (d6 l) ((List.range 16).map (Huff.fst l)))) K=K (.ag (bB (eV l 0))) from fun K=>by rw [← hf] <;> rfl]
  refine cE fun h2 l2 U2 R2=>?_
  refine g8 R2 rfl (by rw [aT,hZ]) (jW _) fun h3 l3 U3 R3=>?_
  refine R.len ?_
  refine oS (by omega) fun w h4 U4 A4=>?_
  refine R.len ?_
  have U:Upd (fun _=>False) h h4:=((U1.then U2).own U3 U1.1).then U4
  refine aAB hl h15 R (a:=h1.length) U1.1 (fun h' U' O'=>hq h' w U' O') l.length 0 h4 (by omega) U ?_ ?_
  ·exact R3.upd U4 fun h=>h
  ·rw [aA1]
   exact A4.mono fun i _ g=>⟨by have:=U1.1; omega,by omega⟩
 unfold gI
 rcases hc:Huff.checkP l with _ | _ | n
 ·exact aX rfl (P0 _ rfl)
 ·exact absurd hc hk
 ·exact bA rfl (P0 _ rfl)
end
end Go.Proofs.YtpaphfeihpgamaaDoor
namespace Go.Proofs.YtpaphfeihpgamaaDoor
open Go.GAM
def lsF (n k:Nat):Nat:=((List.range k).map (· + 257)).foldl (fun o s=>if (Infl.least s).1≤n then s else o) 257
theorem uS (n k:Nat):lsF n (k+1)=if (Infl.least (k+257)).1≤n then k+257 else lsF n k:=by
 unfold lsF
 rw [List.range_succ,List.map_append,List.foldl_append]
 first | done | rfl
def fsF (n k:Nat):Nat:=(List.range k).foldl (fun o s=>if (Infl.farOf s).1≤n then s else o) 0
theorem tT (n k:Nat):fsF n (k+1)=if (Infl.farOf k).1≤n then k else fsF n k:=by
 unfold fsF
 rw [List.range_succ,List.foldl_append]
 first | done | rfl
section
variable [XR] {h:aA} {Q:AV→aA→Prop}
theorem aEL (n:Nat) (hq:Q (iN (lsF n 28)) h):∀ (m k:Nat),k+m=28→Y13.p0 Q n (lsF n k) ((k+257:Nat):Int) h:=by
 intro m
 induction m with
 | zero =>
  intro k hk
  obtain rfl:k=28:=by omega
  refine Y13.i0 ?_
  simp only [Y13.t0]
  exact aX (by decide) hq
 | succ m ih =>
  intro k hk
  refine Y13.i0 ?_
  simp only [Y13.t0, ← Y13.p1.eq_1]
  refine bA (decide_eq_true (by omega)) ?_
  refine o4 (x:=k+257) (by omega) (by omega) ?_
  simp only [eD,eC]
  refine aD (aD ?_)
  have nxt:∀ o:Nat,o=lsF n (k+1)→Y13.p1 Q n o ((k+257:Nat):Int) h:=fun o ho=>by
   subst ho
   refine Y13.i1 ?_
   simp only [Y13.t1, ← Y13.p0.eq_1]
   refine aM (n:=((k+1+257:Nat):Int)) (by rw [aV (by omega) (by omega)]; omega) (ih (k+1) (by omega))
  refine aR (fun e=>?_) fun e=>?_
  ·exact nxt _ (by rw [uS,if_pos (by simp at e; omega)])
  ·exact nxt _ (by rw [uS,if_neg (by simp at e; omega)])
theorem aFU {n:Nat} (hq:Q (iN (Infl.lenSym n)) h):C Y13.id [iN n] h Q:=by
 refine Y13.call ?_
 simp only [Y13.t, ← Y13.p0.eq_1]
 refine aR (fun e=>?_) fun e=>?_
 ·refine .inl ?_
  have:Infl.lenSym n=285:=by unfold Infl.lenSym; rw [if_pos (by simp at e; omega)]
  rw [this] at hq; exact hq
 ·have : Infl.lenSym n = lsF n 28 := by unfold Infl.lenSym; rw [if_neg (by simp at e; omega)] <;> rfl
  rw [this] at hq
  exact aEL n (.inl hq) 28 0 (by omega)
theorem aDP (n:Nat) (hq:Q (iN (fsF n 30)) h):∀ (m k:Nat),k+m=30→Y12.p0 Q n (fsF n k) (k:Int) h:=by
 intro m
 induction m with
 | zero =>
  intro k hk
  obtain rfl:k=30:=by omega
  refine Y12.i0 ?_
  simp only [Y12.t0]
  exact aX (by decide) hq
 | succ m ih =>
  intro k hk
  refine Y12.i0 ?_
  simp only [Y12.t0, ← Y12.p1.eq_1]
  refine bA (decide_eq_true (by omega)) ?_
  refine kI (x:=k) (by omega) ?_
  simp only [eD,eC]
  refine aD (aD ?_)
  have nxt:∀ o:Nat,o=fsF n (k+1)→Y12.p1 Q n o (k:Int) h:=fun o ho=>by
   subst ho
   refine Y12.i1 ?_
   simp only [Y12.t1, ← Y12.p0.eq_1]
   exact inc (by omega) (ih (k+1) (by omega))
  refine aR (fun e=>?_) fun e=>?_
  ·exact nxt _ (by rw [tT,if_pos (by simp at e; omega)])
  ·exact nxt _ (by rw [tT,if_neg (by simp at e; omega)])
theorem aFJ {n:Nat} (hq:Q (iN (Infl.farSym n)) h):C Y12.id [iN n] h Q:=by
 refine Y12.call ?_
 simp only [Y12.t, ← Y12.p0.eq_1]
 exact aDP n (.inl hq) 30 0 (by omega)
end
structure Row where
 c:UInt8
 n:Nat
 d:Nat
def Row.cells (r:Row):List AV:=[byteAV r.c,iN r.n,iN r.d]
def Row.item (r:Row):Infl.Item:=if r.n=0 then .byte r.c else .copy r.n r.d
def jI (l:List Row):List AV:=l.flatMap Row.cells
theorem t6:∀ (l:List Row) (i:Nat) (r:Row),l[i]? = some r→((jI l).drop (i * 3)).take 3=r.cells
 | x :: l,0,r,h=>by cases h; rfl
 | x :: l, i + 1, r, h => by
  have h:l[i]? = some r:=h
  show ((x.cells++jI l).drop ((i+1) * 3)).take 3=_
  rw [show (i+1) * 3=x.cells.length+i * 3 by show _=3+i * 3; omega,List.drop_append,List.drop_eq_nil_of_le (by omega),Nat.add_sub_cancel_left,List.nil_append]
  exact t6 l i r h
def Row.ok (r:Row):Prop:=r.n=0∨3≤r.n∧r.n≤258∧1≤r.d∧r.d≤32768
section
variable [XR] {h:aA} {Q:AV→aA→Prop} {G:Nat→Prop} {w:Nat}
theorem Rd.triple {h:aA} {v:AV} {l:List Row} {k:IntKind} {i:Nat} {r:Row} (R:Rd 3 h v (jI l) l.length) (hr:l[i]? = some r) {K:AV→Prop} (hk:K (.ag r.cells)):aW 3 v (.i k (i:Int)) h fun a=>dW 3 a h K:=by
 have hi:=aI hr
 obtain ⟨p,P,hp⟩:=R.i.at hi
 rw [t6 l i r hr] at P
 exact hp k h _ (Upd.refl _ _) (P.loadN hk)
theorem sW {l:List Nat} {m:Nat} (h:∀ x∈l,x≤m) (j:Nat):l.getD j 0≤m:=by
 rw [List.getD_eq_getElem?_getD]
 cases hj:l[j]? with
 | none=>exact Nat.zero_le _
 | some x=>exact h x (List.mem_of_getElem? hj)
theorem z0 {l:List Nat} (h1:l.length≤320) (h2:∀ x∈l,x≤15) (j:Nat):Huff.codeAt l j<2 ^ 62:=by
 unfold Huff.codeAt
 have e2:=rZ h1 (sW h2 j)
 have e3:(l.take j).countP (· == l.getD j 0)≤(l.take j).length:=List.countP_le_length
 have e4:(l.take j).length≤l.length:=by simp; omega
 omega
theorem yV {a bs':List Nat} {va ca:AV} {s:Nat} (ha:a.length≤320) (ha15:∀ x∈a,x≤15) (hs:s<a.length) (h0:0<a.getD s 0) (gca:∀ i,aO ca i→¬ G i) (hG:∀ i,h.length≤i→G i) (Ra:RdI 1 h va (bB a) a.length) (Rc:RdI 1 h ca (bB (gL a)) (gL a).length) (W:Wr h G w bs') (hb:bs'.length+64<2 ^ 40 - 1)
  (hq:∀ h',Upd G h h'→Wr h' G w (bs'++Huff.codeBits a s)→Q (.tu []) h'):C Y19.id [wp w,ca,va,iN s] h Q:=by
 have h3:a[s]? = some (a.getD s 0):=by rw [List.getD_eq_getElem?_getD,List.getElem?_eq_getElem hs] <;> rfl
 have h4:=sW ha15 s
 exact aF4 (zF hs h0) h3 (z0 ha ha15 s) (by omega) gca (by omega) hG Rc Ra W hq
theorem eB {a:List Nat} (h:∀ x∈a,x≤15) (s:Nat):(Huff.codeBits a s).length≤15:=by
 unfold Huff.codeBits
 rw [Infl.hi_length]
 exact sW h s
theorem yU {a b:List Nat} (ha:∀ x∈a,x≤15) (hb:∀ x∈b,x≤15) {r:Row} (hr:r.ok):(Infl.encItem a b r.item).length≤64:=by
 unfold Row.item
 by_cases h0:r.n=0
 ·rw [if_pos h0]
  exact Nat.le_trans (eB ha _) (by decide)
 ·rw [if_neg h0]
  obtain ⟨r1,r2,r3,r4⟩:=hr.resolve_left h0
  obtain ⟨s1,s2,_⟩:=Infl.lenSym_ok r.n r1 r2
  obtain ⟨f1,_⟩:=Infl.farSym_ok r3 r4
  have q1:=(pU _ (by omega) s1).2
  have q2:=(vY _ f1).2.2
  unfold Infl.encItem
  simp only [List.length_append,Infl.lo_length]
  have c1:=eB ha (Infl.lenSym r.n)
  have c2:=eB hb (Infl.farSym r.d)
  omega
theorem Wr.cut {h h':aA} {bs:List Nat} (W:Wr h G w bs) (U:Upd (fun _=>False) h h') {G':Nat→Prop} (hG:∀ i,i<h.length→G i→G' i):Wr h' G' w bs:=by
 obtain ⟨v,R,B,g,gw,hx⟩:=W
 exact ⟨v,R.upd U fun h=>h,B.upd U fun _ _ h=>h,fun i hi=>⟨hG i (B.lt hi) (g i hi).1,(g i hi).2⟩,hG w R.lt gw,hx⟩
theorem Wr.wide {h:aA} {bs:List Nat} {G':Nat→Prop} (W:Wr h G w bs) (hG:∀ i,G i→G' i):Wr h G' w bs:=by
 obtain ⟨v,R,B,g,gw,hx⟩:=W
 exact ⟨v,R,B,fun i hi=>⟨hG i (g i hi).1,(g i hi).2⟩,hG w gw,hx⟩
theorem zV {a b : List Nat} {va vb ca cb x1 : AV} {l : List Row} {bs : List Nat}
  (ha:a.length≤320) (hb:b.length≤320) (ha2:286≤a.length) (hb2:30≤b.length) (ha0:∀ j,j<286→0<a.getD j 0) (hb0:∀ j,j<30→0<b.getD j 0) (ha15:∀ x∈a,x≤15) (hb15:∀ x∈b,x≤15)
  (hl:∀ r∈l,r.ok) (hlen:bs.length+l.length * 64+64<2 ^ 39)
  (ga:∀ i,aO va i→¬ G i) (gb:∀ i,aO vb i→¬ G i) (gca:∀ i,aO ca i→¬ G i) (gcb:∀ i,aO cb i→¬ G i) (g1:∀ i,aO x1 i→¬ G i)
  (hq:∀ h',Upd G h h'→Wr h' G w (bs++(Infl.encItems a b (l.map Row.item)++Huff.codeBits a 256))→Q (.tu []) h') :
  ∀ (m i : Nat) (h1 : aA), i + m = l.length → Upd G h h1 → (∀ i, h1.length ≤ i → G i) → RdI 1 h1 va (bB a) a.length → RdI 1 h1 vb (bB b) b.length → RdI 1 h1 ca (bB (gL a)) (gL a).length → RdI 1 h1 cb (bB (gL b)) (gL b).length → Rd 3 h1 x1 (jI l) l.length →
   Wr h1 G w (bs++Infl.encItems a b ((l.take i).map Row.item))→(bs++Infl.encItems a b ((l.take i).map Row.item)).length≤bs.length+i * 64→Y11.p0 Q (wp w) va vb ca cb x1 l.length i h1:=by
 intro m
 induction m with
 | zero =>
  intro i h1 hi U hG Ra Rb Rca Rcb R1 W hL
  obtain rfl:i=l.length:=by omega
  refine Y11.i0 ?_
  simp only [Y11.t0]
  refine aX (by simp) ?_
  refine yV (s:=256) ha ha15 (by omega) (ha0 256 (by decide)) gca hG Ra Rca W (by omega) fun h2 U2 W2=>hq h2 (U.trans U2 fun _ _ h=>h) ?_
  rw [List.take_length,List.append_assoc] at W2
  exact W2
 | succ m ih =>
  intro i h1 hi U hG Ra Rb Rca Rcb R1 W hL
  have hil:i<l.length:=by omega
  obtain ⟨r,hr⟩:∃ r,l[i]? = some r:=⟨l[i],List.getElem?_eq_getElem hil⟩
  have hok:=hl r (List.mem_of_getElem? hr)
  have hsn:Infl.encItems a b ((l.take (i+1)).map Row.item)=Infl.encItems a b ((l.take i).map Row.item)++Infl.encItem a b r.item:=by
   rw [aAQ hr,List.map_append]
   unfold Infl.encItems
   rw [List.flatMap_append]
   simp
  have hel:=yU ha15 hb15 hok
  generalize hB:bs++Infl.encItems a b ((l.take i).map Row.item)=B at W hL
  have hL2:B.length+128<2 ^ 39+64:=by omega
  let G':Nat→Prop:=fun i=>G i∧i≠h1.length
  have nxt:∀ h',Upd (fun i=>G i) h1 h'→Wr h' G w (B++Infl.encItem a b r.item)→Y11.p1 Q (wp w) va vb ca cb x1 l.length i h':=fun h' U' W'=>by
   refine Y11.i1 ?_
   simp only [Y11.t1, ← Y11.p0.eq_1]
   have hE:bs++Infl.encItems a b ((l.take (i+1)).map Row.item)=B++Infl.encItem a b r.item:=by rw [hsn, ← List.append_assoc,hB]
   refine inc (by omega) (ih (i+1) h' (by omega) (U.trans U' fun _ _ h=>h) (fun j hj=>hG j (Nat.le_trans U'.1 hj)) (Ra.upd U' ga) (Rb.upd U' gb) (Rca.upd U' gca) (Rcb.upd U' gcb) (R1.upd U' g1) ?_ ?_)
   ·rw [hE]; exact W'
   ·rw [hE,List.length_append]; omega
  refine Y11.i0 ?_
  simp only [Y11.t0, ← Y11.p1.eq_1]
  refine bA (by simp; omega) ?_
  refine Rd.triple R1 hr ?_
  refine cE fun h2 l2 U2 R2=>?_
  refine g8 R2 rfl rfl rfl fun h3 l3 U3 R3=>?_
  have R3:bC h3 h1.length r.cells:=R3
  have U13:Upd (fun _=>False) h1 h3:=U2.own U3 (Nat.le_refl _)
  have hG3:∀ i,h3.length≤i→G' i:=fun j hj=>⟨hG j (by omega),by omega⟩
  have W3:Wr h3 G' w B:=W.cut U13 fun j hj g=>⟨g,by omega⟩
  have gca':∀ i,aO ca i→¬ G' i:=fun i hi g=>gca i hi g.1
  have gcb':∀ i,aO cb i→¬ G' i:=fun i hi g=>gcb i hi g.1
  have ga':∀ i,aO va i→¬ G' i:=fun i hi g=>ga i hi g.1
  have gb':∀ i,aO vb i→¬ G' i:=fun i hi g=>gb i hi g.1
  have fin:∀ h',Upd G' h3 h'→Wr h' G' w (B++Infl.encItem a b r.item)→Y11.p1 Q (wp w) va vb ca cb x1 l.length i h':=fun h' U' W'=>
   nxt h' ((U13.mono fun _ _ h=>h.elim).trans (U'.mono fun _ _ h=>h.1) fun _ _ h=>h) (W'.wide fun _ h=>h.1)
  refine cU (aE R3 rfl rfl (aD ?_))
  by_cases h0:r.n=0
  ·refine bA (by simp [h0]) ?_
   refine cU (aE R3 rfl rfl (kL ?_))
   have hc:=r.c.toNat_lt
   rw [show AV.i .i64 (IntKind.wrap .i64 (r.c.toNat:Int))=iN r.c.toNat by rw [aV (by omega) (by omega)]]
   refine yV (s:=r.c.toNat) ha ha15 (by omega) (ha0 _ (by omega)) gca' hG3 (Ra.ext U13) (Rca.ext U13) W3 (by omega) fun h4 U4 W4=>fin h4 U4 ?_
   have:Infl.encItem a b r.item=Huff.codeBits a r.c.toNat:=by unfold Row.item; rw [if_pos h0] <;> rfl
   rw [this]; exact W4
  ·refine aX (by simp [h0]) ?_
   obtain ⟨r1,r2,r3,r4⟩:=hok.resolve_left h0
   obtain ⟨s1,s2,s3,s4⟩:=Infl.lenSym_ok r.n r1 r2
   obtain ⟨f1,f2,f3⟩:=Infl.farSym_ok r3 r4
   have q1:=(pU _ (by omega) s1).2
   have q2:=(vY _ f1).2.2
   have c1:=eB ha15 (Infl.lenSym r.n)
   have c2:=eB hb15 (Infl.farSym r.d)
   have hE:Infl.encItem a b r.item=Huff.codeBits a (Infl.lenSym r.n)++(Huff.loBits (r.n - (Infl.least (Infl.lenSym r.n)).1) (Infl.least (Infl.lenSym r.n)).2++(Huff.codeBits b (Infl.farSym r.d)++Huff.loBits (r.d - (Infl.farOf (Infl.farSym r.d)).1) (Infl.farOf (Infl.farSym r.d)).2)):=by
    unfold Row.item; rw [if_neg h0] <;> rfl
   rw [hE] at fin
   refine cU (aE R3 rfl rfl (aD ?_))
   refine aFU (aD (o4 s1 s2 ?_))
   simp only [eD,eC]
   refine aD (aD ?_)
   refine yV (s:=Infl.lenSym r.n) ha ha15 (by omega) (ha0 _ (by omega)) gca' hG3 (Ra.ext U13) (Rca.ext U13) W3 (by omega) fun h4 U4 W4=>?_
   have R4:=R3.upd U4 fun g=>g.2 rfl
   have hG4:∀ i,h4.length≤i→G' i:=fun j hj=>hG3 j (Nat.le_trans U4.1 hj)
   refine cU (aE R4 rfl rfl (aD ?_))
   refine aM (n:=((r.n - (Infl.least (Infl.lenSym r.n)).1:Nat):Int)) (by rw [aV (by omega) (by omega)]; omega) ?_
   refine j4 (by omega) (by omega) (by rw [List.length_append]; omega) hG4 W4 fun h5 U5 W5=>?_
   have R5:=R4.upd U5 fun g=>g.2 rfl
   have hG5:∀ i,h5.length≤i→G' i:=fun j hj=>hG4 j (Nat.le_trans U5.1 hj)
   have U35:=U4.trans U5 fun _ _ h=>h
   refine cU (aE R5 rfl rfl (aD ?_))
   refine aFJ (aD (kI (by omega) ?_))
   simp only [eD,eC]
   refine aD (aD ?_)
   refine yV (s:=Infl.farSym r.d) hb hb15 (by omega) (hb0 _ f1) gcb' hG5 ((Rb.ext U13).upd U35 gb') ((Rcb.ext U13).upd U35 gcb') W5 (by simp only [List.length_append,Infl.lo_length]; omega) fun h6 U6 W6=>?_
   have R6:=R5.upd U6 fun g=>g.2 rfl
   have hG6:∀ i,h6.length≤i→G' i:=fun j hj=>hG5 j (Nat.le_trans U6.1 hj)
   refine cU (aE R6 rfl rfl (aD ?_))
   refine aM (n:=((r.d - (Infl.farOf (Infl.farSym r.d)).1:Nat):Int)) (by rw [aV (by omega) (by omega)]; omega) ?_
   refine j4 (by omega) (by omega) (by simp only [List.length_append,Infl.lo_length]; omega) hG6 W6 fun h7 U7 W7=>?_
   refine fin h7 ((U35.trans U6 fun _ _ h=>h).trans U7 fun _ _ h=>h) ?_
   simp only [List.append_assoc] at W7
   exact W7
theorem RdI.ltp {sz:Nat} {h:aA} {v:AV} {cs:List AV} {len:Nat} (R:RdI sz h v cs len) (hl:0<len) {i:Nat} (hi:aO v i):i<h.length:=by
 rcases R with ⟨rfl,rfl,rfl⟩ | ⟨rfl,_⟩ | ⟨id,ver,off,cap,b,rfl,h2,_⟩
 ·omega
 ·omega
 ·cases hi; exact aI h2
theorem aBZ {a b:List Nat} {va vb x1:AV} {l:List Row} {bs:List Nat}
  (ha:a.length≤320) (hb:b.length≤320) (ha2:286≤a.length) (hb2:30≤b.length) (ha0:∀ j,j<286→0<a.getD j 0) (hb0:∀ j,j<30→0<b.getD j 0) (ha15:∀ x∈a,x≤15) (hb15:∀ x∈b,x≤15) (hka:Huff.checkP a≠1) (hkb:Huff.checkP b≠1)
  (hl:∀ r∈l,r.ok) (hlen:bs.length+l.length * 64+64<2 ^ 39) (hG:∀ i,h.length≤i→G i)
  (ga:∀ i,aO va i→¬ G i) (gb:∀ i,aO vb i→¬ G i) (g1:∀ i,aO x1 i→¬ G i) (Ra:RdI 1 h va (bB a) a.length) (Rb:RdI 1 h vb (bB b) b.length) (R1:Rd 3 h x1 (jI l) l.length) (W:Wr h G w bs)
  (hq:∀ h',Upd G h h'→Wr h' G w (bs++(Infl.encItems a b (l.map Row.item)++Huff.codeBits a 256))→Q (.tu []) h'):C Y11.id [wp w,x1,va,vb] h Q:=by
 refine Y11.call ?_
 simp only [Y11.t, ← Y11.p0.eq_1]
 refine vK ha ha15 hka Ra fun h1 ca U1 O1=>?_
 refine vK hb hb15 hkb (Rb.ext U1) fun h2 cb U2 O2=>?_
 have U:=U1.then U2
 refine (R1.upd U fun _ _ h=>h).len ?_
 have lt1:∀ i,aO ca i→h.length≤i∧i<h2.length:=fun i hi=>by
  obtain ⟨id,b,rfl,k1,_,_,_,_,g⟩:=O1
  cases hi
  have:=aI k1
  have:=U2.1
  have g:h.length≤id:=g
  exact ⟨g,by show id<_; omega⟩
 have lt2:∀ i,aO cb i→h.length≤i∧i<h2.length:=fun i hi=>by
  obtain ⟨id,b,rfl,k1,_,_,_,_,g⟩:=O2
  cases hi
  have k2:=aI k1
  have:=U1.1
  have g:h1.length≤id:=g
  exact ⟨by show _≤id; omega,k2⟩
 let G2:Nat→Prop:=fun i=>(G i∧i<h.length)∨h2.length≤i
 have c2:∀ {x:AV},(∀ i,aO x i→¬ G i)→(∀ i,aO x i→i<h.length)→∀ i,aO x i→¬ G2 i:=fun hx hlt i hi g=>by
  rcases g with g | g
  ·exact hx i hi g.1
  ·have := hlt i hi
   have:=U.1
   omega
 have c3:∀ {x:AV},(∀ i,aO x i→h.length≤i∧i<h2.length)→∀ i,aO x i→¬ G2 i:=fun hx i hi g=>by
  have:=hx i hi
  rcases g with g | g <;> omega
 have w2:∀ i,G2 i→G i:=fun i g=>by
  rcases g with g | g
  ·exact g.1
  ·exact hG i (Nat.le_trans U.1 g)
 refine zV (G:=G2) (h:=h2) ha hb ha2 hb2 ha0 hb0 ha15 hb15 hl hlen (c2 ga fun i hi=>RdI.ltp Ra (by omega) hi) (c2 gb fun i hi=>RdI.ltp Rb (by omega) hi) (c3 lt1) (c3 lt2) (c2 g1 fun i hi=>R1.lt hi) (fun h' U' W'=>.inl (hq h' ((U.mono fun _ _ h=>h.elim).trans (U'.mono fun i _ g=>w2 i g) fun _ _ h=>h) (W'.wide w2)))
  l.length 0 h2 (by omega) (Upd.refl _ _) (fun i hi=>.inr hi) (Ra.ext U) (Rb.ext U) (O1.rd.i.ext U2) O2.rd.i (R1.upd U fun _ _ h=>h) ?_ ?_
 ·have := W.cut U (G' := G2) fun i hi g => .inl ⟨g, hi⟩
  simpa [Infl.encItems] using this
 ·simp [Infl.encItems]
end
end Go.Proofs.YtpaphfeihpgamaaDoor
namespace Go.Proofs.YtpaphfeihpgamaaDoor
open Go.GAM
def b9 (s:List UInt8) (i:Nat):List UInt8:=(s.take (i+3)).drop i
def occ (s:List UInt8):Nat→List UInt8→List Nat
 | 0,_=>[]
 | i+1,g=>occ s i g++(if i+3≤s.length∧b9 s i=g then [i] else [])
theorem wI (s:List UInt8) (g:List UInt8):∀ i,(occ s i g).length≤i
 | 0=>Nat.le_refl _
 | i + 1 => by
  have:=wI s g i
  unfold occ
  split <;> simp <;> omega
theorem sR (s : List UInt8) (g : List UInt8) : ∀ i, ∀ x ∈ occ s i g, x < i ∧ x + 3 ≤ s.length ∧ b9 s x = g
 | 0,x,h=>by cases h
 | i + 1, x, h => by
  unfold occ at h
  rcases List.mem_append.1 h with h | h
  ·obtain ⟨h1, h2⟩ := sR s g i x h
   exact ⟨by omega,h2⟩
  ·split at h
   ·rename_i hc
    rw [List.mem_singleton.1 h]
    exact ⟨by omega,hc⟩
   ·cases h
abbrev nilS:AV:=.sl none 0 none
def jV (kv:List (List UInt8 × AV)) (g:List UInt8):AV:=(lkM kv g).getD nilS
theorem r5:uR prog 9 (fun l:List UInt8=>AV.s l):=aAH Tryd.underlying9
structure aAC (h:aA) (F:Nat→Prop) (s:List UInt8) (i mb:Nat) (kv:List (List UInt8 × AV)):Prop where
 map:jB (fun l:List UInt8=>AV.s l) h mb kv
 vals:∀ g,Stk h (jV kv g) (bB (occ s i g))
 own:∀ g j,aO (jV kv g) j→F j∧j≠mb
 dis:∀ g g' j,aO (jV kv g) j→aO (jV kv g') j→g=g'
theorem aAC.upd {h h':aA} {F N:Nat→Prop} {s:List UInt8} {i mb:Nat} {kv:List (List UInt8 × AV)} (S:aAC h F s i mb kv) (U:Upd N h h') (hN:∀ j,F j∨j=mb→¬ N j):aAC h' F s i mb kv:=
 ⟨S.map.upd U (hN mb (.inr rfl)),fun g=>(S.vals g).upd U fun j hj=>hN j (.inl (S.own g j hj).1),S.own,S.dis⟩
section
variable [XR] {h:aA} {Q:AV→aA→Prop} {F:Nat→Prop} {s:List UInt8} {i sb bm mb:Nat} {kv:List (List UInt8 × AV)}
theorem aFL (hs : s.length < 2 ^ 40) (hi : i < s.length) (Rs : bC h sb [.s s]) (Rm : bC h bm [.mp (some mb)]) (S : aAC h F s i mb kv) (hF : ∀ j, h.length ≤ j → F j) (ns : ¬ F sb) (nm : ¬ F bm) (nsm : sb ≠ mb) (nbm : bm ≠ mb)
  (hq:∀ h' kv',Upd (fun j=>F j∨j=mb) h h'→aAC h' F s (i+1) mb kv'→Q (.tu []) h'):C Y29.id [iN i,.p (some ⟨sb,1,0⟩),.p (some ⟨bm,1,0⟩)] h Q:=by
 refine Y29.call ?_
 unfold Y29.t
 refine aM (n:=((i+3:Nat):Int)) (by rw [aV (by omega) (by omega)]; omega) ?_
 refine aE Rs rfl rfl (cC ?_)
 refine aR (fun e=>?_) fun e=>?_
 ·have e : i + 3 ≤ s.length := by have := of_decide_eq_true e; omega
  refine aE Rm rfl rfl ?_
  refine aE Rs rfl rfl (cC ?_)
  refine aM (n:=((i+3:Nat):Int)) (by rw [aV (by omega) (by omega)]; omega) ?_
  refine p7 (lo:=i) (hi:=i+3) (by omega) e ?_
  refine aE Rm rfl rfl ?_
  refine aE Rs rfl rfl (cC ?_)
  refine aM (n:=((i+3:Nat):Int)) (by rw [aV (by omega) (by omega)]; omega) ?_
  refine p7 (lo:=i) (hi:=i+3) (by omega) e ?_
  refine m9 (κ:=fun l:List UInt8=>AV.s l) S.map r5 (by kernel_rfl) (z:=nilS) (by kernel_rfl) ?_
  refine eN (cs:=[iN i]) rfl rfl fun y h1 l1 U1 R1 F1=>?_
  have S1:=S.upd U1 fun _ _ h=>h
  have Rs1:=Rs.upd U1 fun h=>h
  have Rm1:=Rm.upd U1 fun h=>h
  refine m9 (κ:=fun l:List UInt8=>AV.s l) S1.map r5 (by kernel_rfl) (z:=nilS) (by kernel_rfl) ?_
  refine ⟨rfl, ?_⟩
  refine aE Rs1 rfl rfl (cC ⟨rfl, ?_⟩)
  refine aE Rm1 rfl rfl ⟨rfl, ?_⟩
  refine aE Rs1 rfl rfl (cC ⟨rfl, ?_⟩)
  refine aE Rm1 rfl rfl ⟨rfl, ?_⟩
  have ol:=wI s (b9 s i) i
  refine (S1.vals (b9 s i)).app1 R1 rfl (by rw [aT]; omega) (by rw [aT]; omega) fun v' h2 U2 S2 g2=>?_
  have nF:∀ {x:Nat}, ¬ F x→¬ aO (jV kv (b9 s i)) x:=fun hx h=>hx (S.own _ _ h).1
  have Rs2:=Rs1.upd U2 (nF ns)
  have Rm2:=Rm1.upd U2 (nF nm)
  refine aE Rs2 rfl rfl (cC ⟨rfl, ?_⟩)
  refine aE Rm2 rfl rfl ⟨rfl, ?_⟩
  have M2:=S1.map.upd U2 fun h=>(S.own _ _ h).2 rfl
  refine y0 (κ:=fun l:List UInt8=>AV.s l) M2 r5 (by kernel_rfl) rfl fun h3 l3 U3 M3=>?_
  have lo:∀ j,aO v' j→F j∧j≠mb:=fun j hj=>by
   rcases g2 j hj with h | h
   ·exact S.own _ _ h
   ·have := S.map.lt
    exact ⟨hF j (by omega),by omega⟩
  have vup:∀ g,jV (upM kv (b9 s i) v') g=if g=b9 s i then v' else jV kv g:=fun g=>by
   unfold jV
   rw [aCT]
   split <;> rfl
  refine .inl (hq h3 (upM kv (b9 s i) v') ?_ ⟨M3,fun g=>?_,fun g j hj=>?_,fun g g' j hj hj'=>?_⟩)
  ·refine ((U1.mono fun _ _ h=>h.elim).trans (U2.mono fun j _ h=>Or.inl (S.own _ _ h).1) fun _ _ h=>h).trans (U3.mono fun j _ h=>Or.inr h) fun _ _ h=>h
  ·rw [vup]
   by_cases hg:g=b9 s i
   ·rw [if_pos hg]
    have:occ s (i+1) g=occ s i (b9 s i)++[i]:=by
     rw [occ,if_pos ⟨e,hg.symm⟩,hg]
    rw [this,eR]
    exact S2.upd U3 fun j hj h=>(lo j hj).2 h
   ·rw [if_neg hg]
    have:occ s (i+1) g=occ s i g:=by
     rw [occ,if_neg (fun h=>hg h.2.symm),List.append_nil]
    rw [this]
    exact ((S1.vals g).upd U2 fun j hj h=>hg (S.dis _ _ j hj h)).upd U3 fun j hj h=>(S.own g j hj).2 h
  ·rw [vup] at hj
   by_cases hg:g=b9 s i
   ·rw [if_pos hg] at hj; exact lo j hj
   ·rw [if_neg hg] at hj; exact S.own g j hj
  ·rw [vup] at hj hj'
   have far:∀ g j,g≠b9 s i→aO (jV kv g) j→¬ aO v' j:=fun g j hg hj hv=>by
    rcases g2 j hv with h | h
    ·exact hg (S.dis _ _ j hj h)
    ·have := Rd.lt (S.vals g).rd hj
     omega
   by_cases hg:g=b9 s i <;> by_cases hg':g'=b9 s i
   ·rw [hg,hg']
   ·rw [if_pos hg] at hj; rw [if_neg hg'] at hj'; exact absurd hj (far g' j hg' hj')
   ·rw [if_neg hg] at hj; rw [if_pos hg'] at hj'; exact absurd hj' (far g j hg hj)
   ·rw [if_neg hg] at hj; rw [if_neg hg'] at hj'; exact S.dis g g' j hj hj'
 ·have e : ¬ i + 3 ≤ s.length := by have := of_decide_eq_false e; omega
  refine .inl (hq h kv (Upd.refl _ _) ⟨S.map,fun g=>?_,S.own,S.dis⟩)
  rw [occ,if_neg (fun h=>e h.1),List.append_nil]
  exact S.vals g
end
end Go.Proofs.YtpaphfeihpgamaaDoor
namespace Go.Infl
open Go.Huff
def matchP (s:List UInt8) (at':Nat):Nat × Nat:=if (dM s at').1<3 then (0,0) else dM s at'
theorem y1 {s:List UInt8} {at':Nat} (h:at'≤s.length) (h0:(dM s at').1≠0):(dM s at').1≤258∧at'+(dM s at').1≤s.length∧1≤(dM s at').2∧(dM s at').2≤at'∧(dM s at').2≤32768:=by
 obtain ⟨g1,_,_⟩:=fK s at' (min at' 32768)
 have hm:dM s at'=cA s at' (min at' 32768):=rfl
 rw [hm] at h0 ⊢
 obtain ⟨a,b,e⟩:=g1.resolve_left h0
 obtain ⟨q1,q2,q3⟩:=lcp_ok (cA s at' (min at' 32768)).2 h
 rw [← e] at q1 q2 q3
 exact ⟨q1,q2,a,by omega,by omega⟩
theorem matchP_ok {s:List UInt8} {at':Nat} (h:at'≤s.length):(matchP s at')=(0,0)∨3≤(matchP s at').1∧(matchP s at').1≤258∧at'+(matchP s at').1≤s.length∧1≤(matchP s at').2∧(matchP s at').2≤32768:=by
 unfold matchP
 split
 ·exact .inl rfl
 ·rename_i h3
  obtain ⟨q1,q2,q3,q4,q5⟩:=y1 h (by omega)
  exact .inr ⟨by omega,q1,q2,q3,q5⟩
theorem matchP_end {s:List UInt8} {at':Nat} (h:at'≤s.length) (h3:s.length<at'+3):matchP s at'=(0,0):=by
 rcases matchP_ok h with e | e
 ·exact e
 ·omega
theorem itemsR_none {s:List UInt8}:∀ (f at':Nat),s.length≤at'→itemsR s f at'=[]
 | 0,at',h=>rfl
 | f + 1, at', h => by
  unfold itemsR
  rw [List.getElem?_eq_none h]
theorem itemsR_step {s:List UInt8} {f at':Nat} {c:UInt8} (hc:s[at']? = some c):itemsR s (f+1) at'=(if (matchP s at').1=0 then Item.byte c else Item.copy (matchP s at').1 (matchP s at').2) :: itemsR s f (at'+max (matchP s at').1 1):=by
 have hlt:at'<s.length:=(List.getElem?_eq_some_iff.1 hc).1
 rw [itemsR,hc]
 unfold matchP
 simp only []
 by_cases h3:(dM s at').1<3
 ·rw [if_pos h3, if_pos h3]
  first | done | rfl
 ·rw [if_neg h3,if_neg h3,if_neg (by omega),Nat.max_eq_left (by omega)]
end Go.Infl
namespace Go.Proofs.YtpaphfeihpgamaaDoor
open Go.GAM
def oR (s:List UInt8) (i:Nat) (c:UInt8):Row:=⟨c,(Infl.matchP s i).1,(Infl.matchP s i).2⟩
theorem qX {s:List UInt8} {f i:Nat} {c:UInt8} (hc:s[i]? = some c):Infl.itemsR s (f+1) i=(oR s i c).item :: Infl.itemsR s f (i+max (oR s i c).n 1):=Infl.itemsR_step hc
theorem yK {s:List UInt8} {i:Nat} {c:UInt8} (h:i<s.length):(oR s i c).ok∧i+max (oR s i c).n 1≤s.length:=by
 rcases Infl.matchP_ok (s:=s) (at':=i) (by omega) with e | ⟨e1,e2,e3,e4,e5⟩
 ·unfold oR Row.ok
  rw [e]
  exact ⟨.inl rfl,by simp only; omega⟩
 ·exact ⟨.inr ⟨e1,e2,e4,e5⟩,by show i+max (Infl.matchP s i).1 1≤_; omega⟩
def oF [XR] (s:List UInt8):Prop:=∀ (h:aA) (Q:AV→aA→Prop) (i:Nat) (v:AV),i+3≤s.length→Stk h v (bB (occ s i (b9 s i)))→Q (.tu [iN (Infl.matchP s i).1,iN (Infl.matchP s i).2]) h→C Y30.id [.s s,iN i,v] h Q
section
variable [XR] {Q:AV→aA→Prop} {s:List UInt8} {sb bm mb:Nat} {h0:aA}
def It (h0 : aA) (sb bm mb : Nat) (s : List UInt8) (h : aA) (i : Nat) (kv : List (List UInt8 × AV)) (x3 : AV) (l : List Row) : Prop :=
 Upd (fun _=>False) h0 h∧bC h sb [.s s]∧bC h bm [.mp (some mb)]∧Arr 3 h x3 (jI l) l.length∧(∀ j,aO x3 j→h0.length≤j∧j≠sb∧j≠bm∧j≠mb) ∧
  aAC h (fun j=>(h0.length≤j∧j≠sb∧j≠bm)∧¬ aO x3 j) s i mb kv
theorem It.ext {h h':aA} {i:Nat} {kv:List (List UInt8 × AV)} {x3:AV} {l:List Row} (I:It h0 sb bm mb s h i kv x3 l) (U:Upd (fun _=>False) h h'):It h0 sb bm mb s h' i kv x3 l:=by
 obtain ⟨a,b,c,d,e,f⟩:=I
 exact ⟨a.then U,b.upd U fun h=>h,c.upd U fun h=>h,d.upd U fun _ _ h=>h,e,f.upd U fun _ _ h=>h⟩
theorem It.own {h h':aA} {i x:Nat} {kv:List (List UInt8 × AV)} {x3:AV} {l:List Row} (I:It h0 sb bm mb s h i kv x3 l) (U:Upd (· = x) h h') (hx:h0.length≤x) (n1:x≠sb) (n2:x≠bm) (n3:x≠mb) (n4:¬ aO x3 x) (n5:∀ g, ¬ aO (jV kv g) x):It h0 sb bm mb s h' i kv x3 l:=by
 obtain ⟨a,b,c,d,e,f⟩:=I
 exact ⟨a.own U hx,b.upd U fun h=>n1 h.symm,c.upd U fun h=>n2 h.symm,d.upd U fun j hj h=>n4 (h ▸ hj),e,
  ⟨f.map.upd U fun h=>n3 h.symm,fun g=>(f.vals g).upd U fun j hj h=>n5 g (h ▸ hj),f.own,f.dis⟩⟩
theorem aC6 (hs : s.length < 2 ^ 40) (ns : sb ≠ bm) (nsm : sb ≠ mb) (nbm : bm ≠ mb) (hsb : h0.length ≤ sb) (hbm : h0.length ≤ bm) (hmb : h0.length ≤ mb) {x3 : AV} {l : List Row} {N : Nat} :
  ∀ (m k i : Nat) (h : aA) (kv : List (List UInt8 × AV)), k + m = N → i + m ≤ s.length → N ≤ 258 → It h0 sb bm mb s h i kv x3 l →
   (∀ h' kv',It h0 sb bm mb s h' (i+m) kv' x3 l→Y7.p0 Q (.p (some ⟨sb,1,0⟩)) x3 (.p (some ⟨bm,1,0⟩)) (Fn Y29.id [.p (some ⟨sb,1,0⟩),.p (some ⟨bm,1,0⟩)]) ((i+m:Nat):Int) h') →
   Y7.p2 Q (.p (some ⟨sb,1,0⟩)) x3 (.p (some ⟨bm,1,0⟩)) (Fn Y29.id [.p (some ⟨sb,1,0⟩),.p (some ⟨bm,1,0⟩)]) i N k h:=by
 intro m
 induction m with
 | zero =>
  intro k i h kv hk hi hN I hq
  refine Y7.i2 ?_
  simp only [Y7.t2, ← Y7.p0.eq_1]
  exact aX (by simp; omega) (hq h kv I)
 | succ m ih =>
  intro k i h kv hk hi hN I hq
  refine Y7.i2 ?_
  simp only [Y7.t2, ← Y7.p2.eq_1]
  refine bA (by simp; omega) ?_
  obtain ⟨a,b,c,d,e,f⟩:=I
  refine cP (by decide) (aFL hs (by omega) b c f (fun j hj=>⟨⟨by have:=a.1; omega, ?_, ?_⟩,fun hj2=>?_⟩) (fun h=>h.1.2.1 rfl) (fun h=>h.1.2.2 rfl) nsm nbm fun h' kv' U' S'=>?_)
  ·have:=b.lt; omega
  ·have:=c.lt; omega
  ·have:=d.rd.lt hj2; omega
  refine aM (n:=((i+1:Nat):Int)) (by rw [aV (by omega) (by omega)]; omega) ?_
  refine aM (n:=((k+1:Nat):Int)) (by rw [aV (by omega) (by omega)]; omega) ?_
  refine ih (k+1) (i+1) h' kv' (by omega) (by omega) hN ⟨?_, ?_, ?_, ?_,e,S'⟩ fun h2 kv2 I2=>?_
  ·exact a.ownP U' fun j hj=>by
    rcases hj with hj | hj
    ·exact hj.1.1
    ·rw [hj]; exact hmb
  ·exact b.upd U' fun h=>by
    rcases h with h | h
    ·exact h.1.2.1 rfl
    ·exact nsm h
  ·exact c.upd U' fun h=>by
    rcases h with h | h
    ·exact h.1.2.2 rfl
    ·exact nbm h
  ·exact d.upd U' fun j hj h=>by
    rcases h with h | h
    ·exact h.2 hj
    ·exact (e j hj).2.2.2 h
  ·have := hq h2 kv2 (by rw [show i + (m + 1) = i + 1 + m by omega]; exact I2)
   rw [show i+(m+1)=i+1+m by omega] at this
   exact this
theorem aA9 (hs:s.length<2 ^ 40) (ns:sb≠bm) (nsm:sb≠mb) (nbm:bm≠mb) (hsb:h0.length≤sb) (hbm:h0.length≤bm) (hmb:h0.length≤mb) {x3:AV} {l:List Row} {r:Row} {i x:Nat} {h:aA} {kv:List (List UInt8 × AV)} (hll:l.length≤i)
  (hi:i+max r.n 1≤s.length) (hN:r.n≤258) (I:It h0 sb bm mb s h i kv x3 l) (Rx:bC h x r.cells) (nx:¬ aO x3 x)
  (hq:∀ h' kv' x',It h0 sb bm mb s h' (i+max r.n 1) kv' x' (l++[r])→Y7.p0 Q (.p (some ⟨sb,1,0⟩)) x' (.p (some ⟨bm,1,0⟩)) (Fn Y29.id [.p (some ⟨sb,1,0⟩),.p (some ⟨bm,1,0⟩)]) ((i+max r.n 1:Nat):Int) h') :
  Y7.p1 Q (.p (some ⟨sb,1,0⟩)) x3 (.p (some ⟨bm,1,0⟩)) (Fn Y29.id [.p (some ⟨sb,1,0⟩),.p (some ⟨bm,1,0⟩)]) i (.p (some ⟨x,3,0⟩)) h:=by
 refine Y7.i1 ?_
 simp only [Y7.t1, ← Y7.p2.eq_1]
 refine jN Rx rfl ?_
 obtain ⟨a,b,c,d,e,f⟩:=I
 refine d.push (x:=.ag r.cells) (by decide) rfl rfl rfl (by omega) (by omega) fun v' h' U' A' g'=>?_
 have Rx':=Rx.upd U' nx
 refine cU (aE Rx' rfl rfl (aD ?_))
 rw [show (1:Int)=((1:Nat):Int) from rfl,aB9]
 have hrow:jI (l++[r])=jI l++r.cells:=by unfold jI; rw [List.flatMap_append]; simp
 refine aC6 hs ns nsm nbm hsb hbm hmb (l:=l++[r]) (x3:=v') (max r.n 1) 0 i h' kv (by omega) hi (by omega) ⟨a.ownP U' fun j hj=>(e j hj).1,b.upd U' fun h=>(e _ h).2.1 rfl,c.upd U' fun h=>(e _ h).2.2.1 rfl, ?_, ?_, ?_⟩ fun h2 kv2 I2=>hq h2 kv2 v' I2
 ·rw [hrow, List.length_append]
  exact A'
 ·intro j hj
  rcases g' j hj with h | h
  ·exact e j h
  ·have := b.lt
   have:=c.lt
   have:=f.map.lt
   have:=a.1
   exact ⟨by omega,by omega,by omega,by omega⟩
 ·refine ⟨f.map.upd U' fun h => (e _ h).2.2.2 rfl, fun g => (f.vals g).upd U' fun j hj h => (f.own g j hj).1.2 h, fun g j hj => ⟨⟨(f.own g j hj).1.1, fun h => ?_⟩, (f.own g j hj).2⟩, f.dis⟩
  rcases g' j h with h | h
  ·exact (f.own g j hj).1.2 h
  ·have := (f.vals g).rd.lt hj
   omega
theorem aCV (hm : oF s) (hs : s.length < 2 ^ 40) (ns : sb ≠ bm) (nsm : sb ≠ mb) (nbm : bm ≠ mb) (hsb : h0.length ≤ sb) (hbm : h0.length ≤ bm) (hmb : h0.length ≤ mb)
  (hq:∀ h' x l,Upd (fun _=>False) h0 h'→Rd 3 h' x (jI l) l.length→(∀ j,aO x j→h0.length≤j)→(∀ r∈l,r.ok)→l.length≤s.length→l.map Row.item=Infl.itemsR s (s.length+1) 0→Q x h') :
  ∀ (f i : Nat) (h : aA) (kv : List (List UInt8 × AV)) (x3 : AV) (l : List Row), i ≤ s.length → s.length < i + f → l.length ≤ i → (∀ r ∈ l, r.ok) → It h0 sb bm mb s h i kv x3 l → l.map Row.item ++ Infl.itemsR s f i = Infl.itemsR s (s.length + 1) 0 →
   Y7.p0 (aK h0 Q) (.p (some ⟨sb,1,0⟩)) x3 (.p (some ⟨bm,1,0⟩)) (Fn Y29.id [.p (some ⟨sb,1,0⟩),.p (some ⟨bm,1,0⟩)]) i h:=by
 intro f
 induction f with
 | zero=>intro i h kv x3 l h1 h2; omega
 | succ f ih =>
  intro i h kv x3 l h1 h2 hll hok I hfin
  have I':=I
  obtain ⟨a,b,c,d,e,sn⟩:=I'
  refine Y7.i0 ?_
  simp only [Y7.t0, ← Y7.p1.eq_1]
  refine aE b rfl rfl (cC ?_)
  refine aR (fun hc=>?_) fun hc=>?_
  ·have hc : i < s.length := by have := of_decide_eq_true hc; omega
   obtain ⟨ch,hch⟩:∃ ch,s[i]? = some ch:=⟨s[i],List.getElem?_eq_getElem hc⟩
   obtain ⟨rok,rle⟩:=yK (c:=ch) hc
   have rn:(oR s i ch).n≤258:=by rcases rok with h | h <;> omega
   refine aE b rfl rfl (cC (sC hch ?_))
   refine cE fun h2' l2 U2 R2=>?_
   refine g8 R2 rfl rfl rfl fun h3 l3 U3 R3=>?_
   have R3:bC h3 h.length [byteAV ch,iN 0,iN 0]:=R3
   have U23:Upd (fun _=>False) h h3:=U2.own U3 (Nat.le_refl _)
   have I3:=I.ext U23
   have nx:¬ aO x3 h.length:=fun hj=>by have:=d.rd.lt hj; omega
   have nv:∀ g, ¬ aO (jV kv g) h.length:=fun g hj=>by have:=(sn.vals g).rd.lt hj; omega
   have bl:=b.lt
   have cl:=c.lt
   have ml:=sn.map.lt
   have al:=a.1
   have fin:∀ h4,It h0 sb bm mb s h4 i kv x3 l→bC h4 h.length (oR s i ch).cells→Y7.p1 (aK h0 Q) (.p (some ⟨sb,1,0⟩)) x3 (.p (some ⟨bm,1,0⟩)) (Fn Y29.id [.p (some ⟨sb,1,0⟩),.p (some ⟨bm,1,0⟩)]) i (.p (some ⟨h.length,3,0⟩)) h4:=fun h4 I4 R4=>by
    refine aA9 hs ns nsm nbm hsb hbm hmb hll rle rn I4 R4 nx fun h5 kv5 x5 I5=>?_
    refine ih (i+max (oR s i ch).n 1) h5 kv5 x5 (l++[oR s i ch]) rle (by omega) (by rw [List.length_append,List.length_singleton]; omega) ?_ I5 ?_
    ·intro r hr
     rcases List.mem_append.1 hr with h | h
     ·exact hok r h
     ·rw [List.mem_singleton.1 h]; exact rok
    ·rw [← hfin, qX hch, List.map_append, List.append_assoc]
     first | done | rfl
   refine aM (n:=((i+3:Nat):Int)) (by rw [aV (by omega) (by omega)]; omega) ?_
   refine aE (b.upd U23 fun h=>h) rfl rfl (cC ?_)
   refine aR (fun e3=>?_) fun e3=>?_
   ·have e3 : i + 3 ≤ s.length := by have := of_decide_eq_true e3; omega
    refine aE (b.upd U23 fun h=>h) rfl rfl (cC ?_)
    refine aE (c.upd U23 fun h=>h) rfl rfl ?_
    refine aE (b.upd U23 fun h=>h) rfl rfl (cC ?_)
    refine aM (n:=((i+3:Nat):Int)) (by rw [aV (by omega) (by omega)]; omega) ?_
    refine p7 (lo:=i) (hi:=i+3) (by omega) e3 ?_
    refine m9 (κ:=fun l:List UInt8=>AV.s l) I3.2.2.2.2.2.map r5 (by kernel_rfl) (z:=nilS) (by kernel_rfl) ?_
    refine hm h3 _ i _ e3 (I3.2.2.2.2.2.vals (b9 s i)) ?_
    simp only [eD,eC]
    refine aD (aD ?_)
    refine cU (aQ R3 rfl (by show 1<3; decide) (hk:=fun h4 l4 U4 R4=>?_))
    refine cU (aQ R4 rfl (by show 2<3; decide) (hk:=fun h5 l5 U5 R5=>?_))
    have I4:=I3.own U4 al (by omega) (by omega) (by omega) nx nv
    have I5:=I4.own U5 al (by omega) (by omega) (by omega) nx nv
    exact fin h5 I5 R5
   ·have e3 : s.length < i + 3 := by have := of_decide_eq_false e3; omega
    refine fin h3 I3 ?_
    have:oR s i ch=⟨ch,0,0⟩:=by unfold oR; rw [Infl.matchP_end h1 e3]
    rw [this]
    exact R3
  ·have hc : s.length ≤ i := by have := of_decide_eq_false hc; omega
   refine .inl (hq h x3 l a d.rd (fun j hj=>(e j hj).1) hok (by omega) ?_)
   rw [Infl.itemsR_none _ _ hc,List.append_nil] at hfin
   exact hfin
theorem aB6 {h:aA} (hm:oF s) (hs:s.length<2 ^ 40)
  (hq:∀ h' x l,Upd (fun _=>False) h h'→Rd 3 h' x (jI l) l.length→(∀ j,aO x j→h.length≤j)→(∀ r∈l,r.ok)→l.length≤s.length→l.map Row.item=Infl.itemsR s (s.length+1) 0→Q x h'):C Y7.id [.s s] h Q:=by
 refine Y7.call ?_
 simp only [Y7.t, ← Y7.p0.eq_1]
 refine bS (hk:=fun h1 l1 U1 R1=>?_)
 refine wL (fun l:List UInt8=>AV.s l) fun h2 l2 U2 M2=>?_
 refine cE fun h3 l3 U3 R3=>?_
 refine aQ R3 rfl (by decide) (hk:=fun h4 l4 U4 R4=>?_)
 have U13:=(U1.then U2).then U3
 refine aCV (h0:=h) (sb:=h.length) (bm:=h2.length) (mb:=h1.length) hm hs (by omega) (by omega) (by omega) (Nat.le_refl _) (by omega) (by omega) hq (s.length+1) 0 h4 [] _ [] (Nat.zero_le _) (by omega) (Nat.le_refl _) (fun r hr=>by cases hr) ⟨?_, ?_, ?_, ?_,fun j hj=>hj.elim, ?_⟩ rfl
 ·exact U13.own U4 (by omega)
 ·exact ((R1.upd U2 fun h=>h).upd U3 fun h=>h).upd U4 fun h=>by omega
 ·exact R4
 ·exact .inl ⟨rfl,rfl,rfl⟩
 ·exact ⟨(M2.upd U3 fun h=>h).upd U4 fun h=>by omega,fun g=>.inl ⟨rfl,rfl⟩,fun g j hj=>hj.elim,fun g g' j hj=>hj.elim⟩
end
end Go.Proofs.YtpaphfeihpgamaaDoor
namespace Go.Proofs.YtpaphfeihpgamaaDoor
open Go.GAM
theorem eG.str {E:TypeId} {h:aA} {v:AV} {l:List UInt8} (B:eG E h v l) {K:List UInt8→Prop} (hk:K l):cZ v h K:=by
 refine Byt.str (l:=l) ?_ hk
 rcases B with ⟨rfl,rfl⟩ | ⟨id,b,rfl,h1,h2,h3,h4,h5⟩
 ·exact .inl ⟨rfl,rfl,rfl⟩
 ·have e : b.cells.length = l.length := by rw [h2]; simp
  refine .inr ⟨id,_,0,none,b,rfl,h1,.inl h3,h4,by show l.length≤_; omega,by omega, ?_⟩
  rw [List.drop_zero,Nat.mul_one, ← e,List.take_length,h2]
section
variable [XR] {Q:AV→aA→Prop} {s:List UInt8} {h:aA}
theorem o5 (hm:oF s) (hs:s.length<2 ^ 32) (hq:Q (.s (Infl.fixedText s)) h):C Y34.id [.s s] h Q:=by
 refine Y34.call ?_
 unfold Y34.t
 refine bS (hk:=fun h1 l1 U1 R1=>?_)
 have R1:bC h1 h.length [nilS,iN 0]:=R1
 let G:Nat→Prop:=fun i=>h.length≤i
 have W1:Wr h1 G h.length []:=⟨nilS,R1,.inl ⟨rfl,rfl⟩,fun i hi=>hi.elim,Nat.le_refl _,fun x hx=>by cases hx⟩
 refine j4 (x:=3) (n:=3) (by decide) (by decide) (by decide) (fun i hi=>by show h.length≤i; omega) W1 fun h2 U2 W2=>?_
 refine jA fun h3 va vb U3 Ra Rb na nb=>?_
 simp only [eD,eC]
 refine aB6 hm (by omega) fun h4 x l U4 R4 nx hok hll hfin=>?_
 have hl2:=U2.1
 have hl3:=U3.1
 have hl4:=U4.1
 have U24:=U3.then U4
 let G2:Nat→Prop:=fun i=>(G i∧i<h2.length)∨h4.length≤i
 have cut:∀ {x:AV},(∀ i,aO x i→h2.length≤i∧i<h4.length)→∀ i,aO x i→¬ G2 i:=fun hx i hi g=>by
  have:=hx i hi
  rcases g with ⟨_,g⟩ | g <;> omega
 have la:∀ i,aO va i→h2.length≤i∧i<h4.length:=fun i hi=>⟨na i hi,by have:=RdI.ltp Ra (by decide +kernel) hi; omega⟩
 have lb:∀ i,aO vb i→h2.length≤i∧i<h4.length:=fun i hi=>⟨nb i hi,by have:=RdI.ltp Rb (by decide +kernel) hi; omega⟩
 have lx:∀ i,aO x i→h2.length≤i∧i<h4.length:=fun i hi=>⟨by have:=nx i hi; omega,R4.lt hi⟩
 have W4:Wr h4 G2 h.length ([]++Huff.loBits 3 3):=W2.cut U24 fun i hi g=>.inl ⟨g,hi⟩
 refine aBZ (a:=Infl.fixedL) (b:=Infl.fixedD) (l:=l) (by decide +kernel) (by decide +kernel) (by decide +kernel) (by decide +kernel) (by decide +kernel) (by decide +kernel) m6 mS (by decide +kernel) (by decide +kernel) hok
  (by rw [List.nil_append,Infl.lo_length]; omega) (fun i hi=>.inr hi) (cut la) (cut lb) (cut lx) (Ra.ext U4) (Rb.ext U4) R4 W4 fun h5 U5 W5=>?_
 obtain ⟨v,R5,B5,_,_,_⟩:=W5
 refine gD (cU (aE R5 rfl rfl ?_))
 refine eG.str B5 ?_
 have hbits:([]++Huff.loBits 3 3)++(Infl.encItems Infl.fixedL Infl.fixedD (l.map Row.item)++Huff.codeBits Infl.fixedL 256)=Infl.fixedBits (Infl.itemsR s (s.length+1) 0):=by
  rw [hfin] <;> rfl
 rw [hbits]
 refine gX rfl (Upd.ext ?_) hq
 refine (U1.ownP U2 fun j hj=>hj).then U24 |>.ownP U5 fun j hj=>?_
 rcases hj with hj | hj
 ·exact hj.1
 ·have:=U1.1; omega
end
end Go.Proofs.YtpaphfeihpgamaaDoor
namespace Go.Infl
open Go.Huff
def mostAt (s:List UInt8) (at':Nat):Nat:=min 258 (s.length - at')
def srch (s:List UInt8) (at':Nat):List Nat→Nat × Nat→Nat × Nat
 | [],b=>b
 | f :: r,b=>if 32768<at' - f∨b.1=mostAt s at' then b else srch s at' r (better s at' b (at' - f))
theorem srch_is {s : List UInt8} {at' : Nat} (h : at' ≤ s.length) {cand : Nat → Prop} (hc : ∀ d, 1 ≤ d → d ≤ at' → 3 ≤ lcp s at' d → cand (at' - d)) (hc3 : ∀ f, cand f → f < at' → 3 ≤ lcp s at' (at' - f)) :
  ∀ (r : List Nat) (n d cT : Nat), cT ≤ at' → (∀ f ∈ r, f < cT ∧ cand f) → r.Pairwise (· > ·) → (∀ f, cand f → f < cT → f ∈ r) →
   (n=0∧d=0∨3≤n∧1≤d∧d≤min at' 32768∧n=lcp s at' d∧∀ d',1≤d'→d'<d→lcp s at' d'<n)→(∀ d',1≤d'→d'≤at'→cT≤at' - d'→lcp s at' d'≤max n 2) →
   srch s at' r (n,d)=matchP s at':=by
 have done:∀ (n d:Nat),(n=0∧d=0∨3≤n∧1≤d∧d≤min at' 32768∧n=lcp s at' d∧∀ d',1≤d'→d'<d→lcp s at' d'<n)→(∀ d',1≤d'→d'≤min at' 32768→lcp s at' d'≤max n 2)→(n,d)=matchP s at':=by
  intro n d hb hall
  rcases hb with ⟨rfl,rfl⟩ | ⟨b1,b2,b3,b4,b5⟩
  ·obtain ⟨g1, _, _⟩ := fK s at' (min at' 32768)
   unfold matchP
   rw [if_pos]
   show (cA s at' (min at' 32768)).1<3
   rcases g1 with g1 | ⟨g1,g2,g3⟩
   ·omega
   ·have := hall _ g1 g2
    omega
  ·have e : dM s at' = (n, d) := wN b2 b3 b4 (by omega) (fun d' h1 h2 => by have := hall d' h1 h2; omega) b5
   unfold matchP
   rw [e,if_neg (by simp only; omega)]
 intro r
 induction r with
 | nil =>
  intro n d cT hb hr hp hall hbest hseen
  rw [srch]
  refine done n d hbest fun d' h1 h2=>?_
  by_cases hbd:cT≤at' - d'
  ·exact hseen d' h1 (by omega) hbd
  ·rcases Nat.lt_or_ge (lcp s at' d') 3 with h3 | h3
   ·omega
   ·have := hall (at' - d') (hc d' h1 (by omega) h3) (by omega)
    cases this
 | cons f r ih =>
  intro n d cT hb hr hp hall hbest hseen
  obtain ⟨f1,f2⟩:=hr f (by simp)
  obtain ⟨p1,p2⟩:=List.pairwise_cons.1 hp
  have gap:∀ d',1≤d'→d'≤at'→f<at' - d'→lcp s at' d'≤max n 2:=fun d' h1 h2 h3=>by
   by_cases hbd:cT≤at' - d'
   ·exact hseen d' h1 h2 hbd
   ·rcases Nat.lt_or_ge (lcp s at' d') 3 with h4 | h4
    ·omega
    ·have hm := hall (at' - d') (hc d' h1 h2 h4) (by omega)
     rcases List.mem_cons.1 hm with e | hm
     ·omega
     ·have:=p1 _ hm; omega
  rw [srch]
  split
  ·rename_i hstop
   refine done n d hbest fun d' h1 h2=>?_
   rcases hstop with hs | hs
   ·exact gap d' h1 (by omega) (by omega)
   ·obtain ⟨q1, q2, _⟩ := lcp_ok d' h
    have hs:n=min 258 (s.length - at'):=hs
    omega
  ·rename_i hstop
   have hstop:¬ 32768<at' - f:=fun h=>hstop (.inl h)
   have hf3:=hc3 f f2 (by omega)
   unfold better
   simp only []
   split
   ·rename_i hlt
    refine ih _ _ f (by omega) (fun x hx=>⟨p1 x hx,(hr x (by simp [hx])).2⟩) p2 (fun x hx1 hx2=>?_) (.inr ⟨hf3,by omega,by omega,rfl,fun d' h1 h2=>?_⟩) fun d' h1 h2 h3=>?_
    ·rcases List.mem_cons.1 (hall x hx1 (by omega)) with e | hm
     ·omega
     ·exact hm
    ·have := gap d' h1 (by omega) (by omega)
     omega
    ·by_cases e : at' - d' = f
     ·have : d' = at' - f := by omega
      subst this
      exact Nat.le_max_left _ _
     ·have := gap d' h1 h2 (by omega)
      omega
   ·rename_i hlt
    refine ih _ _ f (by omega) (fun x hx=>⟨p1 x hx,(hr x (by simp [hx])).2⟩) p2 (fun x hx1 hx2=>?_) hbest fun d' h1 h2 h3=>?_
    ·rcases List.mem_cons.1 (hall x hx1 (by omega)) with e | hm
     ·omega
     ·exact hm
    ·by_cases e : at' - d' = f
     ·have : d' = at' - f := by omega
      subst this
      omega
     ·exact gap d' h1 h2 (by omega)
end Go.Infl
namespace Go.Proofs.YtpaphfeihpgamaaDoor
open Go.GAM
theorem xO {s:List UInt8} {a d:Nat}:∀ (f n:Nat),n≤Infl.lcpF s a d f n
 | 0,n=>Nat.le_refl _
 | f + 1, n => by
  unfold Infl.lcpF
  split
  ·exact Nat.le_trans (Nat.le_succ n) (xO f (n+1))
  ·exact Nat.le_refl _
theorem zB {s:List UInt8} {a d:Nat} (h:a+3≤s.length) (h0:s[a]? = s[a - d]?) (h1:s[a+1]? = s[a+1 - d]?) (h2:s[a+2]? = s[a+2 - d]?):3≤Infl.lcp s a d:=by
 unfold Infl.lcp
 rw [show 258=255+1+1+1 by rfl,Infl.lcpF,if_pos ⟨by omega,h0⟩,Infl.lcpF,if_pos ⟨by omega,h1⟩,Infl.lcpF,if_pos ⟨by omega,h2⟩]
 exact xO _ _
theorem sP {s:List UInt8} {i k:Nat} (hk:k<3):(b9 s i)[k]? = s[i+k]?:=by
 unfold b9
 rw [List.getElem?_drop,List.getElem?_take_of_lt (by omega)]
theorem aCD {s:List UInt8} {a f:Nat} (ha:a+3≤s.length) (hf:f<a):b9 s f=b9 s a↔3≤Infl.lcp s a (a - f):=by
 constructor
 ·intro e
  have g:∀ k,k<3→s[a+k]? = s[f+k]?:=fun k hk=>by rw [← sP hk, ← sP hk,e]
  refine zB ha ?_ ?_ ?_
  ·have:=g 0 (by decide); rw [show a - (a - f)=f by omega]; exact this
  ·have:=g 1 (by decide); rw [show a+1 - (a - f)=f+1 by omega]; exact this
  ·have:=g 2 (by decide); rw [show a+2 - (a - f)=f+2 by omega]; exact this
 ·intro h
  obtain ⟨_,_,q⟩:=Infl.lcp_ok (s:=s) (a - f) (show a≤s.length by omega)
  refine List.ext_getElem? fun k=>?_
  by_cases hk:k<3
  ·rw [sP hk, sP hk]
   have:=q k (by omega)
   rw [show a+k - (a - f)=f+k by omega] at this
   exact this.symm
  ·have e1 : (b9 s f).length = 3 := by unfold b9; simp; omega
   have e2:(b9 s a).length=3:=by unfold b9; simp; omega
   rw [List.getElem?_eq_none (by omega),List.getElem?_eq_none (by omega)]
theorem yO {s:List UInt8} {g:List UInt8}:∀ (i x:Nat),x<i→x+3≤s.length→b9 s x=g→x∈occ s i g
 | 0,x,h,_,_=>by omega
 | i + 1, x, h, h3, hk => by
  unfold occ
  by_cases e:x=i
  ·subst e
   rw [if_pos ⟨h3,hk⟩]; simp
  ·exact List.mem_append_left _ (yO i x (by omega) h3 hk)
theorem qF (s:List UInt8) (g:List UInt8):∀ i,(occ s i g).Pairwise (· < ·)
 | 0=>List.Pairwise.nil
 | i + 1 => by
  unfold occ
  refine List.pairwise_append.2 ⟨qF s g i, ?_,fun a ha b hb=>?_⟩
  ·split
   ·exact List.pairwise_singleton _ _
   ·exact List.Pairwise.nil
  ·have := (sR s g i a ha).1
   split at hb
   ·rw [List.mem_singleton.1 hb]; exact this
   ·cases hb
theorem aBA {s:List UInt8} {a:Nat} (ha:a+3≤s.length):Infl.srch s a (occ s a (b9 s a)).reverse (0,0)=Infl.matchP s a:=by
 refine Infl.srch_is (cand:=fun f=>f<a∧b9 s f=b9 s a) (by omega) (fun d h1 h2 h3=>⟨by omega,(aCD ha (by omega)).2 (by rw [show a - (a - d)=d by omega]; exact h3)⟩) (fun f hf hfa=>(aCD ha hfa).1 hf.2)
  _ 0 0 a (Nat.le_refl _) (fun f hf=>?_) ?_ (fun f hf hfa=>?_) (.inl ⟨rfl,rfl⟩) fun d h1 h2 h3=>?_
 ·have := sR s _ a f (List.mem_reverse.1 hf)
  exact ⟨this.1,this.1,this.2.2⟩
 ·rw [List.pairwise_reverse]
  exact qF s _ a
 ·exact List.mem_reverse.2 (yO a f hfa (by omega) hf.2)
 ·omega
end Go.Proofs.YtpaphfeihpgamaaDoor
namespace Go.Proofs.YtpaphfeihpgamaaDoor
open Go.GAM
@[reducible] def xr0:XR:=⟨aD3 aD4⟩
abbrev p1 (id:Nat):AV:=.p (some ⟨id,1,0⟩)
theorem mmF (n:Nat):mmI false 258 (n:Int)=((min 258 n:Nat):Int):=by
 unfold mmI
 simp only [cond_false]
 split <;> omega
theorem aGT (a b:UInt8):(decide ((a.toNat:Int)=(b.toNat:Int)))=decide (a=b):=by
 by_cases h:a=b
 ·subst h; simp
 ·have : a.toNat ≠ b.toNat := fun e => h (UInt8.toNat.inj e)
  simp [h,this]
  omega
structure MS (Hb:aA) (g nb fb:Nat) (rec:Loop) (st:LoopState) (pe:Option Code) (h:aA) (b:Nat × Nat):Prop where
 upd:Upd (fun i=>i=nb∨i=fb∨i=g) Hb h
 gh:h[g]? = some (dG rec st pe)
 n:bC h nb [iN b.1]
 far:bC h fb [iN b.2]
section
variable {Hb:aA} {g sb ab nb fb mb:Nat} {rec:Loop} {s:List UInt8} {a:Nat}
theorem MS.set {st st':LoopState} {pe pe':Option Code} {h:aA} {b:Nat × Nat} (M:MS Hb g nb fb rec st pe h b) (h1:nb≠g) (h2:fb≠g):MS Hb g nb fb rec st' pe' (h.set g (dG rec st' pe')) b:=
 ⟨M.upd.trans (Upd.set _ _ _) fun i _ e=>.inr (.inr e),List.getElem?_set_self (aI M.gh),M.n.upd (Upd.set _ _ _) h1,M.far.upd (Upd.set _ _ _) h2⟩
variable [XR] {X:Exit→aA→Prop}
theorem aGA (hs : s.length < 2 ^ 40) (ha : a ≤ s.length) (Rs : bC Hb sb [.s s]) (Ra : bC Hb ab [iN a]) (Rm : bC Hb mb [iN (Infl.mostAt s a)]) (ns : sb ≠ nb ∧ sb ≠ fb ∧ sb ≠ g) (na : ab ≠ nb ∧ ab ≠ fb ∧ ab ≠ g) (nm : mb ≠ nb ∧ mb ≠ fb ∧ mb ≠ g)
  (n1:nb≠fb) (n2:nb≠g) (n3:fb≠g) {h:aA} {b:Nat × Nat} {f:Nat} (hf:f<a) (M:MS Hb g nb fb rec .busy none h b) (hb:b.1≤258)
  (hX:∀ h',MS Hb g nb fb rec .busy none h' (Infl.better s a b (a - f))→X .normal h') :
  ∀ (fu k:Nat),k+fu=258→a+k≤s.length→Infl.lcp s a (a - f)=Infl.lcpF s a (a - f) fu k→Y2.p1 X (p1 sb) (p1 ab) (p1 nb) (p1 fb) (p1 mb) f k h:=by
 have Rs:=Rs.upd M.upd fun h=>h.elim ns.1 fun h=>h.elim ns.2.1 ns.2.2
 have Ra:=Ra.upd M.upd fun h=>h.elim na.1 fun h=>h.elim na.2.1 na.2.2
 have Rm:=Rm.upd M.upd fun h=>h.elim nm.1 fun h=>h.elim nm.2.1 nm.2.2
 have fin:∀ k,k≤258→Infl.lcp s a (a - f)=k→Y2.p2 X (p1 sb) (p1 ab) (p1 nb) (p1 fb) (p1 mb) f k false h:=by
  intro k hk e
  refine Y2.i2 ?_
  unfold Y2.t2
  refine aX rfl ?_
  refine aE M.n rfl rfl (aD ?_)
  unfold Infl.better at hX
  rw [e] at hX
  refine aR (fun c=>?_) fun c=>?_
  ·have c : b.1 < k := by simpa using c
   simp only [if_pos c] at hX
   refine aE Ra rfl rfl (aD ?_)
   refine aM (n:=((a - f:Nat):Int)) (by rw [aV (by omega) (by omega)]; omega) ?_
   refine aQ M.n rfl Nat.one_pos (hk:=fun h1 l1 U1 R1=>?_)
   refine aE (Ra.upd U1 fun h=>na.1 h) rfl rfl (aD ⟨rfl, ?_⟩)
   refine aQ (M.far.upd U1 fun h=>n1 h.symm) rfl Nat.one_pos (hk:=fun h2 l2 U2 R2=>?_)
   refine hX h2 ⟨(M.upd.trans U1 fun i _ e=>.inl e).trans U2 fun i _ e=>.inr (.inl e), ?_,R1.upd U2 fun h=>n1 h,R2⟩
   rw [U2.2 g (by have:=aI M.gh; omega) (fun e=>n3 e.symm),U1.2 g (aI M.gh) (fun e=>n2 e.symm)]
   exact M.gh
  ·have c : ¬ b.1 < k := by simpa using c
   simp only [if_neg c] at hX
   exact hX h M
 intro fu
 induction fu with
 | zero =>
  intro k hk hle e
  refine Y2.i1 ?_
  unfold Y2.t1
  refine aE Rm rfl rfl (aD ?_)
  refine aX (decide_eq_false ?_) (fin k (by omega) e)
  unfold Infl.mostAt; omega
 | succ fu ih =>
  intro k hk hle e
  refine Y2.i1 ?_
  unfold Y2.t1
  refine aE Rm rfl rfl (aD ?_)
  unfold Infl.lcpF at e
  refine aR (fun c=>?_) fun c=>?_
  ·have c : a + k < s.length := by
    have c:=of_decide_eq_true c
    unfold Infl.mostAt at c; omega
   obtain ⟨x,hx⟩:∃ x,s[f+k]? = some x:=⟨_,List.getElem?_eq_getElem (by omega)⟩
   obtain ⟨y,hy⟩:∃ y,s[a+k]? = some y:=⟨_,List.getElem?_eq_getElem c⟩
   refine aE Rs rfl rfl (cC ?_)
   refine aM (n:=((f+k:Nat):Int)) (by rw [aV (by omega) (by omega)]; omega) ?_
   refine sC hx (aE Rs rfl rfl (cC (aE Ra rfl rfl (aD ?_))))
   refine aM (n:=((a+k:Nat):Int)) (by rw [aV (by omega) (by omega)]; omega) ?_
   refine sC hy ?_
   have hfk:a+k - (a - f)=f+k:=by omega
   rw [hfk,hx,hy] at e
   rw [aGT]
   by_cases hxy:x=y
   ·rw [if_pos ⟨c, by rw [hxy]⟩] at e
    rw [decide_eq_true hxy]
    refine Y2.i2 ?_
    unfold Y2.t2
    refine bA rfl ?_
    refine aM (n:=((k+1:Nat):Int)) (by rw [aV (by omega) (by omega)]; omega) ?_
    exact ih (k+1) (by omega) (by omega) e
   ·rw [if_neg fun hh => hxy (Option.some.inj hh.2).symm] at e
    rw [decide_eq_false hxy]
    exact fin k (by omega) e
  ·have c : ¬ (k : Int) < ((Infl.mostAt s a : Nat) : Int) := of_decide_eq_false c
   have c:¬ a+k<s.length:=by unfold Infl.mostAt at c; omega
   rw [if_neg fun hh=>c hh.1] at e
   exact fin k (by omega) e
theorem aGC {X0 : aS} {l : Nat} {Y : List AV → aA → (AV → aA → Prop) → Prop} {S : aA → Nat × Nat → Prop} {E : aA → Nat × Nat → Prop} {bx : AV} {sv : AV} {xs : List Nat} {Q : AV → aA → Prop}
  (hlen:xs.length<1073741824) (hbx:∀ h b,S h b→∀ K:AV→Prop,K sv→aB bx h K) (hsv:∀ h b,S h b→Rd 1 h sv (bB xs) xs.length) (hx:∀ f∈xs,f<a) (hSE:∀ h b,S h b→E h b) (hb0:∀ h b,S h b→b.1≤258)
  (hY:∀ h b i f K,S h b→f<a→(32768<a - f∨b.1=Infl.mostAt s a→∀ h',E h' b→K (.b false) h')→(¬ (32768<a - f∨b.1=Infl.mostAt s a)→∀ h',S h' (Infl.better s a b (a - f))→K (.b true) h')→Y [iN i,iN f] h K) :
  ∀ (j:Nat) (h:aA) (b:Nat × Nat),j≤xs.length→S h b→(∀ h',E h' (Infl.srch s a (xs.take j).reverse b)→Q (.tu []) h') →
  @Y22.p0 ⟨orY (dO prog X0) l Y⟩ Q (.fn (.yield l) [] []) bx ((j:Int) - 1) h:=by
 letI:XR:=⟨orY (dO prog X0) l Y⟩
 intro j
 induction j with
 | zero =>
  intro h b hj hS hq
  refine Y22.i0 ?_
  unfold Y22.t0
  exact aX (by decide) (hq h (hSE h b hS))
 | succ j ih =>
  intro h b hj hS hq
  have ej:((j+1:Nat):Int) - 1=(j:Int):=by omega
  obtain ⟨f,hf⟩:∃ f,xs[j]? = some f:=⟨_,List.getElem?_eq_getElem (by omega)⟩
  have htk:(xs.take (j+1)).reverse=f :: (xs.take j).reverse:=by
   rw [List.take_add_one,hf]; simp
  rw [htk,Infl.srch] at hq
  refine Y22.i0 ?_
  unfold Y22.t0
  rw [ej]
  refine bA (decide_eq_true (by omega)) ?_
  refine hbx h b hS _ ?_
  refine (hsv h b hS).idx (by omega) (by omega) fun id ver off ⟨bk,g1,g2,g3,g4,g5⟩=>⟨bk,g1,⟨g2,g3,g4⟩, ?_⟩
  have hc:(bk.cells)[off]? = some (iN f):=by
   have e1:((bk.cells.drop off).take 1)[0]? = some (iN f):=by
    rw [g5,List.getElem?_take_of_lt (by decide),List.getElem?_drop,Int.toNat_natCast,Nat.mul_one,Nat.add_zero]
    unfold bB
    rw [List.getElem?_map,hf] <;> rfl
   rw [List.getElem?_take_of_lt (by decide),List.getElem?_drop,Nat.add_zero] at e1
   exact e1
  show asI .i64 (bk.cells.getD off .u) _
  rw [getD_some hc]
  refine aD ?_
  refine xW (.inr ⟨rfl,hY h b j f _ hS (hx f (List.mem_of_getElem? hf)) (fun hstop h' hE=>?_) fun hgo h' hS'=>?_⟩)
  ·rw [if_pos hstop] at hq
   refine bE (bA rfl (hq h' hE))
  ·rw [if_neg hgo] at hq
   refine bE (aX rfl ?_)
   refine aM (n:=(j:Int) - 1) (by rw [aV (by omega) (by omega)]) ?_
   exact ih h' _ (by omega) hS' hq
end
end Go.Proofs.YtpaphfeihpgamaaDoor
namespace Go.Proofs.YtpaphfeihpgamaaDoor
open Go.GAM
theorem aAI {P:Program} {R:aS} {A:aS→aS} {gf:FuncId} {first cap:List AV} {Y:Nat→Loop→List AV→aA→(AV→aA→Prop)→Prop} {h:aA} {K:Loop→aA→Prop} (hc:(Nat.blt gf yid0&&mN P gf)=true)
  (hk:∀ l rec,A (orY R l (Y h.length rec)) gf (first++[.fn (.yield l) [] []]++cap) (h++[dG rec .ready none]) (fun _ h'=>K rec h')):aDR P R A (.fn (.func gf) first cap) Y h K:=bA hc hk
section
attribute [local instance] xr0
theorem aEN {s : List UInt8} {a : Nat} {h : aA} {v : AV} {Q : AV → aA → Prop} (hs : s.length < 1073741824) (ha : a + 3 ≤ s.length) (S : Stk h v (bB (occ s a (b9 s a))))
  (hq:Q (.tu [iN (Infl.matchP s a).1,iN (Infl.matchP s a).2]) h):aFX prog (@C xr0) (dO prog) Y30.id [.s s,iN a,v] h Q:=by
 refine Y30.callX ?_
 unfold Y30.tX
 refine bS (hk:=fun h1 l1 U1 R1=>?_)
 refine bS (hk:=fun h2 l2 U2 R2=>?_)
 refine cE fun h3 l3 U3 R3=>?_
 refine cE fun h4 l4 U4 R4=>?_
 have R1:=((R1.upd U2 fun h=>h).upd U3 fun h=>h).upd U4 fun h=>h
 have R2:=(R2.upd U3 fun h=>h).upd U4 fun h=>h
 have R3:=R3.upd U4 fun h=>h
 refine aE R1 rfl rfl (cC (aE R2 rfl rfl (aD ?_)))
 refine aM (n:=((s.length - a:Nat):Int)) (by rw [aV (by omega) (by omega)]; omega) ?_
 rw [mmF]
 refine cE fun h5 l5 U5 R5=>?_
 refine aQ R5 rfl Nat.one_pos (hk:=fun h6 l6 U6 R6=>?_)
 have R6:bC h6 h4.length [iN (Infl.mostAt s a)]:=R6
 have U56:Upd (fun _=>False) h4 h6:=U5.own U6 (Nat.le_refl _)
 have R1:bC h6 h.length [.s s]:=R1.upd U56 fun h=>h
 have R2:bC h6 h1.length [iN a]:=R2.upd U56 fun h=>h
 have R3:bC h6 h2.length [iN 0]:=R3.upd U56 fun h=>h
 have R4:bC h6 h3.length [iN 0]:=R4.upd U56 fun h=>h
 have Uh6:Upd (fun _=>False) h h6:=(((U1.then U2).then U3).then U4).then U56
 refine Y66.call ?_
 unfold Y66.t
 refine bS (hs:=by rcases S with ⟨rfl,_⟩ | ⟨_,_,rfl,_⟩ <;> rfl) (hk:=fun h7 l7 U7 R7=>.inl ?_)
 have hvp:v.parts=[v]:=by rcases S with ⟨rfl,_⟩ | ⟨_,_,rfl,_⟩ <;> rfl
 rw [hvp] at R7 ⊢
 have S7:Rd 1 h7 v (bB (occ s a (b9 s a))) (occ s a (b9 s a)).length:=by
  have:=(S.upd (Uh6.then U7) fun i hi h=>h).rd
  rwa [show (bB (occ s a (b9 s a))).length=(occ s a (b9 s a)).length by unfold bB; simp] at this
 have R1:=R1.upd U7 fun h=>h
 have R2:=R2.upd U7 fun h=>h
 have R3:=R3.upd U7 fun h=>h
 have R4:=R4.upd U7 fun h=>h
 have R6:=R6.upd U7 fun h=>h
 have hl1:=R1.lt
 have hlt:h.length<h1.length∧h1.length<h2.length∧h2.length<h3.length∧h3.length<h4.length∧h4.length<h6.length∧h6.length<h7.length:=by
  have:=U6.1
  omega
 obtain ⟨q1,q2,q3,q4,q5,q6⟩:=hlt
 refine aAI (by kernel_rfl) fun l rec=>?_
 obtain ⟨Hb,hHb⟩:∃ Hb,h7++[dG rec .ready none]=Hb:=⟨_,rfl⟩
 have Ub:Upd (fun _=>False) h7 Hb:=by rw [← hHb]; exact Upd.app _ _
 have hgb:Hb[h7.length]? = some (dG rec .ready none):=by rw [← hHb]; simp
 rw [hHb]
 have R1:=R1.upd Ub fun h=>h
 have R2:=R2.upd Ub fun h=>h
 have R3:=R3.upd Ub fun h=>h
 have R4:=R4.upd Ub fun h=>h
 have R6:=R6.upd Ub fun h=>h
 have R7:=R7.upd Ub fun h=>h
 have Sb:=S7.upd Ub fun i hi h=>h
 have hsvlt:∀ i,aO v i→i<h.length:=fun i hi=>S.rd.lt hi
 have hbase:Upd (fun _=>False) h Hb:=(Uh6.then U7).then Ub
 have M0:MS Hb h7.length h2.length h3.length rec .ready none Hb (0,0):=⟨Upd.refl _ _,hgb,R3,R4⟩
 have hocc:(occ s a (b9 s a)).length<1073741824:=Nat.lt_of_le_of_lt (wI s _ a) (by omega)
 refine @Y22.call ⟨orY (@C xr0) l _⟩ _ _ _ _ ?_
 unfold Y22.t
 refine aE R7 rfl rfl (S7.len ?_)
 refine aM (n:=(((occ s a (b9 s a)).length:Nat):Int) - 1) (aV (by omega) (by omega)) ?_
 refine aGC (s:=s) (a:=a) (xs:=occ s a (b9 s a)) (sv:=v) (S:=fun h b=>MS Hb h7.length h2.length h3.length rec .ready none h b∧b.1≤258)
  (E:=fun h b=>(MS Hb h7.length h2.length h3.length rec .ready none h b∨MS Hb h7.length h2.length h3.length rec .done (some (.exit 0)) h b)∧b.1≤258) hocc ?_ ?_ (fun f hf=>(sR s _ a f hf).1) (fun h b hS=>⟨.inl hS.1,hS.2⟩) (fun h b hS=>hS.2) ?_
  _ Hb (0,0) (Nat.le_refl _) ⟨M0,by decide⟩ ?_
 ·intro h' b hS K hK
  exact aE (R7.upd hS.1.upd fun h=>h.elim (by omega) fun h=>h.elim (by omega) (by omega)) rfl rfl hK
 ·intro h' b hS
  exact Sb.upd hS.1.upd fun i hi h=>by
   have:=hsvlt i hi
   exact h.elim (by omega) fun h=>h.elim (by omega) (by omega)
 ·intro h' b i f K ⟨hM, hb⟩ hf hstop hgo
  refine ⟨hM.gh, ?_⟩
  refine aED (aD ⟨hM.gh, ?_⟩)
  unfold aBK aB1
  have MB:MS Hb h7.length h2.length h3.length rec .busy none (h'.set h7.length (dG rec .busy none)) b:=hM.set (by omega) (by omega)
  have Ra:=R2.upd MB.upd fun h=>h.elim (by omega) fun h=>h.elim (by omega) (by omega)
  have Rm:=R6.upd MB.upd fun h=>h.elim (by omega) fun h=>h.elim (by omega) (by omega)
  refine aE Ra rfl rfl (aD ?_)
  refine aM (n:=((a - f:Nat):Int)) (by rw [aV (by omega) (by omega)]; omega) ?_
  simp only [← Y2.p0.eq_1]
  have out:∀ c:Bool,(c=true↔32768<a - f∨b.1=Infl.mostAt s a)→Y2.p0 (aF2 h7.length rec K) (p1 h.length) (p1 h1.length) (p1 h2.length) (p1 h3.length) (p1 h4.length) f c (h'.set h7.length (dG rec .busy none)):=by
   intro c hc
   refine Y2.i0 ?_
   unfold Y2.t0
   simp only [← Y2.p1.eq_1]
   refine aR (fun e=>?_) fun e=>?_
   ·refine ⟨MB.gh,hstop (hc.1 e) _ ⟨.inr (MB.set (by omega) (by omega)),hb⟩⟩
   ·have hn : ¬ (32768 < a - f ∨ b.1 = Infl.mostAt s a) := fun hh => by rw [hc.2 hh] at e; cases e
    refine aGA (s:=s) (a:=a) (Hb:=Hb) (b:=b) (by omega) (by omega) R1 R2 R6 ⟨by omega,by omega,by omega⟩ ⟨by omega,by omega,by omega⟩ ⟨by omega,by omega,by omega⟩ (by omega) (by omega) (by omega) hf MB hb (fun h2' M2=>?_) 258 0 (by omega) (by omega) rfl
    refine ⟨M2.gh,hgo hn _ ⟨M2.set (by omega) (by omega), ?_⟩⟩
    unfold Infl.better
    split
    ·exact (Infl.lcp_ok _ (by omega)).1
    ·exact hb
  refine aR (fun e=>out true ⟨fun _=>.inl (by have:=of_decide_eq_true e; omega),fun _=>rfl⟩) fun e=>?_
  have e:¬ 32768<a - f:=by have:=of_decide_eq_false e; omega
  refine aE MB.n rfl rfl (aD (aE Rm rfl rfl (aD (out _ ?_))))
  rw [decide_eq_true_iff]
  exact ⟨fun h=>.inr (by omega),fun h=>h.elim (fun h=>absurd h e) fun h=>by rw [h]⟩
 ·intro h' ⟨hE, hle⟩
  rw [List.take_length,aBA ha] at hE
  refine .inl ?_
  obtain ⟨st,pe,hM⟩:∃ st pe,MS Hb h7.length h2.length h3.length rec st pe h' (Infl.matchP s a):=hE.elim (fun M=>⟨_,_,M⟩) fun M=>⟨_,_,M⟩
  have Ud:Upd (fun i=>i=h2.length∨i=h3.length∨i=h7.length) Hb (h'.set h7.length cH):=hM.upd.trans (Upd.set _ _ _) fun i _ e=>.inr (.inr e)
  have Rn:=hM.n.upd (Upd.set h' h7.length cH) (by omega)
  have Rf:=hM.far.upd (Upd.set h' h7.length cH) (by omega)
  have ret:∀ h'',Upd (fun i=>i=h2.length∨i=h3.length) (h'.set h7.length cH) h''→aK h Q (.tu [iN (Infl.matchP s a).1,iN (Infl.matchP s a).2]) h'':=by
   intro h'' U''
   have Uall:Upd (fun _=>False) h h'':=(hbase.trans Ud fun i hi e=>by omega).trans U'' fun i hi e=>by omega
   exact gX rfl ⟨Uall.1,fun i hi=>Uall.2 i hi fun h=>h⟩ hq
  have tail:aB (p1 h2.length) (h'.set h7.length cH) (fun v73=>asI .i64 v73 fun n74=>aB (p1 h3.length) (h'.set h7.length cH) fun v75=>asI .i64 v75 fun n76=>
    aU 1 (p1 h2.length) (AV.i .i64 n74) (h'.set h7.length cH) fun h77=>aB (p1 h3.length) h77 fun v78=>asI .i64 v78 fun n79=>((AV.i .i64 n76)=(AV.i .i64 n79) ∧
    (aU 1 (p1 h3.length) (AV.i .i64 n76) h77 fun h80=>aB (p1 h2.length) h80 fun v82=>aB (p1 h3.length) h80 fun v83=>aK h Q (AV.tu [v82,v83]) h80))):=by
   refine aE Rn rfl rfl (aD (aE Rf rfl rfl (aD ?_)))
   refine aQ Rn rfl Nat.one_pos (hk:=fun h8 l8 U8 R8=>?_)
   have Rf8:=Rf.upd U8 (by omega)
   refine aE Rf8 rfl rfl (aD ⟨rfl, ?_⟩)
   refine aQ Rf8 rfl Nat.one_pos (hk:=fun h9 l9 U9 R9=>?_)
   refine aE (R8.upd U9 (by omega)) rfl rfl (aE R9 rfl rfl (ret h9 ?_))
   exact (U8.mono fun i _ e=>.inl e).trans U9 fun i _ e=>.inr e
  rcases hE with M | M
  ·exact .inl ⟨M.gh,tail⟩
  ·exact .inr (.inl ⟨M.gh,tail⟩)
end
end Go.Proofs.YtpaphfeihpgamaaDoor
namespace Go.Proofs.YtpaphfeihpgamaaDoor
open Go.GAM
def eO (h:aA) (id N:Nat) (ex:Bool) (bs:List UInt8):Prop:=∃ b:ABlk,h[id]? = some b∧b.sz=1∧b.cells.length=N∧b.floor≤N∧b.ro=false∧(ex=true→b.ex=true)∧bs.length≤N∧b.cells.take bs.length=bs.map byteAV
theorem eO.lt {h:aA} {id N:Nat} {ex:Bool} {bs:List UInt8} (B:eO h id N ex bs):id<h.length:=by obtain ⟨b,h1,_⟩:=B; exact aI h1
theorem eO.upd {M:Nat→Prop} {h h':aA} {id N:Nat} {ex:Bool} {bs:List UInt8} (B:eO h id N ex bs) (U:Upd M h h') (hM:¬ M id):eO h' id N ex bs:=by
 have hl:=B.lt
 obtain ⟨b,h1,h2⟩:=B
 exact ⟨b,(U.2 id hl hM).trans h1,h2⟩
theorem eO.copy {h:aA} {id N:Nat} {ex:Bool} {bs ns:List UInt8} {x:AV} (B:eO h id N ex bs) (hN:bs.length+ns.length≤N) {c:Option Nat} (hx:∀ K:List AV→Nat→Prop,K (ns.map byteAV) ns.length→d5 1 x h K) {K:AV→aA→Prop}
  (hk:∀ h',h'.length=h.length→Upd (· = id) h h'→eO h' id N ex (bs++ns)→K (iN ns.length) h'):kA 1 (.sl (some ⟨id,N,bs.length⟩) ns.length c) x h K:=by
 have hl:=B.lt
 obtain ⟨b,h1,h2,h3,h4,h5,h6,h7,h8⟩:=B
 refine ⟨Nat.one_pos,hx _ ⟨b,h1,h2,⟨h4,by show N≤b.cells.length; omega,by show bs.length+ns.length * 1≤N; omega⟩,h5,h3.symm, ?_, ?_⟩⟩
 ·rw [List.all_eq_true]
  intro v hv
  obtain ⟨c,_,rfl⟩:=List.mem_map.1 (List.mem_of_mem_take hv)
  rfl
 ·have e1 : (ns.map byteAV).take (min ns.length ns.length * 1) = ns.map byteAV := List.take_of_length_le (by simp)
  rw [e1,Nat.min_self]
  refine hk _ (by simp) (Upd.set _ _ _) ⟨_,List.getElem?_set_self hl,h2, ?_, ?_,h5,h6,by rw [List.length_append]; exact hN, ?_⟩
  ·rw [eI]; exact h3
  ·show b.cells.length≤N; omega
  ·show (wr b.cells bs.length (ns.map byteAV)).take _ = _
   have e2:b.cells=bs.map byteAV++b.cells.drop bs.length:=by rw [← h8,List.take_append_drop]
   have e3:bs.length=(bs.map byteAV).length:=by simp
   rw [e2]
   conv=>lhs; arg 2; arg 2; rw [e3]
   rw [tI _ _ _ (by simp; omega),List.length_append, ← List.append_assoc,List.take_append_of_le_length (by simp),List.take_of_length_le (by simp),List.map_append]
def iQ (h:aA) (d:Nat) (v:AV):Prop:=bC h d [v,iN 0,.i .i8 0]
abbrev bp (d:Nat):AV:=.p (some ⟨d,3,0⟩)
section
variable [XR] {h:aA} {Q:AV→aA→Prop} {d id N:Nat} {bs ns:List UInt8}
def vP [XR]:Prop:=∀ (h:aA) (Q:AV→aA→Prop) (id N n:Nat) (bs:List UInt8),eO h id N true bs→N≤1000→1≤n→n≤1099511627776 →
 (∀ h' N',Upd (fun _=>False) h h'→h.length<h'.length→bs.length+n≤N'→eO h' h.length N' false bs→Q (.sl (some ⟨h.length,N',0⟩) bs.length none) h')→C Y67.id [.sl (some ⟨id,N,0⟩) bs.length none,iN n] h Q
theorem aDT {K:AV→aA→Prop} (hk:K (.i .i64 0) h):wF 1 (.sl none 0 none) h K:=hk
theorem aC2 {K:AV→Prop} {t:TypeId} (ht:zO prog t=true) (hk:K (.b true)):dT prog .eql t (.sl none 0 none) (.sl none 0 none) K:=by
 simp only [dT,ht,cond_true]; exact hk
theorem aAS {K:AV→Prop} {t:TypeId} {a:AA} {n:Nat} {c:Option Nat} (ht:zO prog t=true) (hk:K (.b false)):dT prog .eql t (.sl (some a) n c) (.sl none 0 none) K:=by
 simp only [dT,ht,cond_true]; exact hk
theorem aBQ {l:List UInt8} {K:List AV→Nat→Prop} (hk:K (l.map byteAV) l.length):d5 1 (.s l) h K:=⟨rfl,hk⟩
theorem xM (R:iQ h d (.sl none 0 none)) {n:Nat} (hn:0<n) (hq:Q (.tu [iN 0,.b false]) h):C Y28.id [bp d,iN n] h Q:=by
 refine Y28.call ?_
 simp only [Y28.t,bI,bH]
 refine aE R rfl rfl (oY (aE R rfl rfl (aDT ?_)))
 refine aD (aM (n:=0) rfl ?_)
 exact aX (decide_eq_false (by omega)) (.inl hq)
theorem sM {id N l:Nat} (B:eO h id N true bs) {K:AV→aA→Prop} (hk:K (iN N) h):wF 1 (.sl (some ⟨id,N,0⟩) l none) h K:=by
 obtain ⟨b,h1,h2,h3,h4,h5,h6,h7,h8⟩:=B
 exact .inl ⟨b,N,h1,by omega,h6 rfl,h3.symm,h2,Nat.one_pos,by show 0+N * 1=b.cells.length; omega,hk⟩
theorem aE9 {ex:Bool} {id N l j:Nat} (B:eO h id N ex bs) (hj:j≤N) {K:AV→Prop} (hk:K (.sl (some ⟨id,N,0⟩) j none)):bJ 1 (.sl (some ⟨id,N,0⟩) l none) none (some (iN j)) none h K:=by
 obtain ⟨b,h1,h2,h3,h4,h5,h6,h7,h8⟩:=B
 refine ⟨Nat.one_pos,fun h=>by simp at h,by omega,by simp,b,h1,by omega,by show b.floor≤N; omega,.inl h2, ?_⟩
 refine ⟨.inr (.inl ⟨rfl,by simp; omega⟩), ?_⟩
 simpa using hk
theorem oI {ex:Bool} {id N l i:Nat} (B:eO h id N ex bs) (hi:i≤l) {K:AV→Prop} (hk:K (.sl (some ⟨id,N,i⟩) (l - i) none)):bJ 1 (.sl (some ⟨id,N,0⟩) l none) (some (iN i)) none none h K:=by
 obtain ⟨b,h1,h2,h3,h4,h5,h6,h7,h8⟩:=B
 refine ⟨Nat.one_pos,fun h=>by simp at h,by omega,by simp; omega,b,h1,by omega,by show b.floor≤N; omega,.inl h2, ?_⟩
 refine ⟨.inl (Nat.le_refl _), ?_⟩
 simpa using hk
theorem aEI (R:iQ h d (.sl (some ⟨id,N,0⟩) bs.length none)) (B:eO h id N true bs) (hne:d≠id) {n:Nat} (hN:N≤1000) (hn:bs.length+n≤N)
  (hq:∀ h',Upd (· = d) h h'→iQ h' d (.sl (some ⟨id,N,0⟩) (bs.length+n) none)→Q (.tu [iN bs.length,.b true]) h'):C Y28.id [bp d,iN n] h Q:=by
 refine Y28.call ?_
 simp only [Y28.t,bI,bH]
 refine aE R rfl rfl (oY (aE R rfl rfl (sM B (aD ?_))))
 refine aM (n:=((N - bs.length:Nat):Int)) (by rw [aV (by omega) (by omega)]; omega) ?_
 refine bA (decide_eq_true (by omega)) (aE R rfl rfl ?_)
 refine aM (n:=((bs.length+n:Nat):Int)) (by rw [aV (by omega) (by omega)]; omega) ?_
 refine aE9 B hn ?_
 exact aQ R rfl (by show 0<3; decide) (hk:=fun h1 l1 U1 R1=>.inl (hq h1 U1 R1))
theorem aB4 (R:iQ h d (.sl (some ⟨id,N,0⟩) bs.length none)) (B:eO h id N true bs) {n:Nat} (hN:N≤1000) (hn2:n≤1099511627776) (hn:N<bs.length+n)
  (hq:Q (.tu [iN 0,.b false]) h):C Y28.id [bp d,iN n] h Q:=by
 have hbN:bs.length≤N:=by obtain ⟨b,_,_,_,_,_,_,h7,_⟩:=B; exact h7
 refine Y28.call ?_
 simp only [Y28.t,bI,bH]
 refine aE R rfl rfl (oY (aE R rfl rfl (sM B (aD ?_))))
 refine aM (n:=((N - bs.length:Nat):Int)) (by rw [aV (by omega) (by omega)]; omega) ?_
 exact aX (decide_eq_false (by omega)) (.inl hq)
theorem aDU (R:iQ h d (.sl none 0 none)) (hq:Q (iN 0) h):C Y31.id [bp d] h Q:=by
 refine Y31.call ?_
 simp only [Y31.t,bI,bH]
 exact aE R rfl rfl (oY (aE R rfl rfl (aD (aM (n:=0) rfl (.inl hq)))))
theorem aFC {a:AA} {l:Nat} (R:iQ h d (.sl (some a) l none)) (hl:l<1099511627776) (hq:Q (iN l) h):C Y31.id [bp d] h Q:=by
 refine Y31.call ?_
 simp only [Y31.t,bI,bH]
 exact aE R rfl rfl (oY (aE R rfl rfl (aD (aM (n:=(l:Int)) (by rw [aV (by omega) (by omega)]; omega) (.inl hq)))))
theorem aDE (R:iQ h d (.sl none 0 none)) {n:Nat} (h0:0<n) (hn:n≤64)
  (hq:∀ h' id,Upd (· = d) h h'→h.length≤id→iQ h' d (.sl (some ⟨id,64,0⟩) n none)→eO h' id 64 true []→Q (iN 0) h'):C Y3.id [bp d,iN n] h Q:=by
 refine Y3.call ?_
 simp only [Y3.t, ← Y3.p0.eq_1,bI,bH]
 refine aDU R (aD (bA rfl ?_))
 refine aE R rfl rfl (aD ?_)
 refine Y3.i0 ?_
 simp only [Y3.t0, ← Y3.p1.eq_1]
 refine aX rfl ?_
 refine Y3.i1 ?_
 simp only [Y3.t1, ← Y3.p2.eq_1,bI,bH]
 refine xM R h0 ?_
 simp only [eD,eC]
 refine aD (bE (aX rfl (aE R rfl rfl (aC2 (by kernel_rfl) ?_))))
 refine bE (bA rfl ?_)
 refine Y3.i2 ?_
 simp only [Y3.t2,bI,bH]
 refine bA (decide_eq_true (by omega)) ?_
 refine ⟨by omega,by omega,by decide,by decide,rfl,Nat.one_pos, ?_⟩
 rw [Int.toNat_natCast]
 have U1:Upd (fun _=>False) h (h++[aY (List.replicate (64:Int).toNat [AV.i .u8 0]).flatten 1 true]):=Upd.app _ _
 refine aQ (R.upd U1 fun h=>h) rfl (by show 0<3; decide) (hk:=fun h2 l2 U2 R2=>?_)
 refine .inl (hq h2 h.length ((U1.mono fun _ _ h=>h.elim).trans U2 fun _ _ h=>h) (Nat.le_refl _) R2 ?_)
 have hd:=R.lt
 refine eO.upd (h:=h++[aY (List.replicate (64:Int).toNat [AV.i .u8 0]).flatten 1 true]) ⟨_,by simp; rfl,rfl,rfl,Nat.le_refl _,rfl,fun _=>rfl,Nat.zero_le _,rfl⟩ U2 (by omega)
theorem zM (hG:vP) (R:iQ h d (.sl (some ⟨id,64,0⟩) bs.length none)) (B:eO h id 64 true bs) (hne:d≠id) {n:Nat} (h0:0<bs.length) (hn2:n≤1099511627776) (hn:64<bs.length+n)
  (hq:∀ h' N',Upd (· = d) h h'→h.length<h'.length→bs.length+n≤N'→iQ h' d (.sl (some ⟨h.length,N',0⟩) (bs.length+n) none)→eO h' h.length N' false bs→Q (iN bs.length) h'):C Y3.id [bp d,iN n] h Q:=by
 have hbN:bs.length≤64:=by obtain ⟨b,_,_,_,_,_,_,h7,_⟩:=B; exact h7
 have hd:=R.lt
 refine Y3.call ?_
 simp only [Y3.t, ← Y3.p0.eq_1,bI,bH]
 refine aFC R (by omega) (aD (aX (decide_eq_false (by omega)) ?_))
 refine Y3.i0 ?_
 simp only [Y3.t0, ← Y3.p1.eq_1]
 refine aX rfl ?_
 refine Y3.i1 ?_
 simp only [Y3.t1, ← Y3.p2.eq_1,bI,bH]
 refine aB4 R B (by decide) hn2 (by omega) ?_
 simp only [eD,eC]
 refine aD (bE (aX rfl (aE R rfl rfl (aAS (by kernel_rfl) ?_))))
 refine bE (aX rfl ?_)
 refine Y3.i2 ?_
 simp only [Y3.t2, ← Y3.p3.eq_1,bI,bH]
 refine aX rfl (aE R rfl rfl (sM B (aD ?_)))
 refine vW (n:=32) (by decide) (by decide) ?_
 refine aM (n:=32 - (bs.length:Int)) (aV (by omega) (by omega)) ?_
 refine aX (decide_eq_false (by omega)) ?_
 refine aM (n:=9223372036854775743) (by decide) ?_
 refine aM (n:=9223372036854775743 - (n:Int)) (aV (by omega) (by omega)) ?_
 refine aX (decide_eq_false (by omega)) ?_
 refine aE R rfl rfl (aE R rfl rfl (aD ?_))
 refine oI B (Nat.zero_le _) (aE R rfl rfl (aD ?_))
 refine aM (n:=(n:Int)) (by rw [aV (by omega) (by omega)]; simp) ?_
 refine hG h _ id 64 n bs B (by decide) (by omega) hn2 fun h1 N' U1 l1 hN' B1=>?_
 refine aQ (R.upd U1 fun h=>h) rfl (by show 0<3; decide) (hk:=fun h2 l2 U2 R2=>?_)
 refine Y3.i3 ?_
 simp only [Y3.t3,bI,bH]
 refine aQ R2 rfl (by show 1<3; decide) (hk:=fun h3 l3 U3 R3=>?_)
 refine aE R3 rfl rfl ?_
 refine aM (n:=((bs.length+n:Nat):Int)) (by rw [aV (by omega) (by omega)]; omega) ?_
 have B3:eO h3 h.length N' false bs:=(B1.upd U2 (by omega)).upd U3 (by omega)
 refine aE9 B3 hN' ?_
 refine aQ R3 rfl (by show 0<3; decide) (hk:=fun h4 l4 U4 R4=>?_)
 refine .inl (hq h4 N' ((((U1.mono fun _ _ h=>h.elim).trans U2 fun _ _ h=>h).trans U3 fun _ _ h=>h).trans U4 fun _ _ h=>h) (by omega) hN' R4 (B3.upd U4 (by omega)))
theorem uI (R:iQ h d (.sl none 0 none)) {x:AV} {n0:0<ns.length} (hn:ns.length≤64) (B:Rd 1 h x (ns.map byteAV) ns.length) (hx:¬ aO x d)
  (hq:∀ h' id,Upd (· = d) h h'→h.length≤id→iQ h' d (.sl (some ⟨id,64,0⟩) ns.length none)→eO h' id 64 true ns→Q (.tu [iN ns.length,.ni]) h'):C Y26.id [bp d,x] h Q:=by
 refine Y26.call ?_
 simp only [Y26.t, ← Y26.p0.eq_1,bI,bH]
 refine aQ R rfl (by show 2<3; decide) (hk:=fun h1 l1 U1 R1=>?_)
 have R1:iQ h1 d (.sl none 0 none):=R1
 have B1:=B.upd U1 fun i hi e=>hx (e ▸ hi)
 refine B1.len (xM R1 n0 ?_)
 simp only [eD,eC]
 refine aD (bE (bA rfl (B1.len ?_)))
 refine aDE R1 n0 hn fun h2 id U2 hid R2 B2=>aD ?_
 refine Y26.i0 ?_
 simp only [Y26.t0,bI,bH]
 refine aE R2 rfl rfl (oI B2 (Nat.zero_le _) ?_)
 have Bx2:=B1.upd U2 fun i hi e=>hx (e ▸ hi)
 refine eO.copy (bs:=[]) (ns:=ns) B2 (by simpa using hn) (fun K hk=>Bx2.news hk) fun h3 l3 U3 B3=>aD (.inl ?_)
 have hd:=R.lt
 refine hq h3 id ((U1.trans U2 fun _ _ h=>h).trans U3 fun i hi e=>by omega) (by omega) (R2.upd U3 (by omega)) B3
theorem wS (hG:bs.length+ns.length≤64∨vP) (R:iQ h d (.sl (some ⟨id,64,0⟩) bs.length none)) (B:eO h id 64 true bs) (hne:d≠id) (h0:0<bs.length) (hn2:ns.length≤1099511627776)
  (hq:∀ h' id' N ex,Upd (fun i=>i=d∨i=id) h h'→(id'=id∨h.length≤id')→iQ h' d (.sl (some ⟨id',N,0⟩) (bs.length+ns.length) none)→eO h' id' N ex (bs++ns)→Q (.tu [iN ns.length,.ni]) h'):C Y24.id [bp d,.s ns] h Q:=by
 have hbN:bs.length≤64:=by obtain ⟨b,_,_,_,_,_,_,h7,_⟩:=B; exact h7
 refine Y24.call ?_
 simp only [Y24.t, ← Y24.p0.eq_1,bI,bH]
 refine aQ R rfl (by show 2<3; decide) (hk:=fun h1 l1 U1 R1=>?_)
 have R1:iQ h1 d (.sl (some ⟨id,64,0⟩) bs.length none):=R1
 have B1:=B.upd U1 fun e=>hne e.symm
 have hd:=R.lt
 have hidl:=B.lt
 have fin:∀ h2 id' N ex,Upd (fun i=>i=d∨i=id) h h2→(id'=id∨h.length≤id')→iQ h2 d (.sl (some ⟨id',N,0⟩) (bs.length+ns.length) none)→eO h2 id' N ex bs→bs.length+ns.length≤N→Y24.p0 (aK h Q) (bp d) ns bs.length h2:=by
  intro h2 id' N ex U2 hid' R2 B2 hN
  refine Y24.i0 ?_
  simp only [Y24.t0,bI,bH]
  refine aE R2 rfl rfl (oI B2 (Nat.le_add_right _ _) ?_)
  rw [Nat.add_sub_cancel_left]
  have hdi:d≠id':=by omega
  refine B2.copy hN (fun K hk=>aBQ hk) fun h3 l3 U3 B3=>aD (.inl ?_)
  exact hq h3 id' N ex (U2.trans U3 fun i hi e=>by omega) hid' (R2.upd U3 hdi) B3
 by_cases hc:bs.length+ns.length≤64
 ·refine aEI R1 B1 hne (by decide) hc fun h2 U2 R2 => ?_
  simp only [eD,eC]
  refine aD (bE (aX rfl ?_))
  exact fin h2 id 64 true ((U1.mono fun _ _ e=>.inl e).trans U2 fun i _ e=>.inl e) (.inl rfl) R2 (B1.upd U2 fun e=>hne e.symm) hc
 ·refine aB4 R1 B1 (by decide) hn2 (by omega) ?_
  simp only [eD,eC]
  refine aD (bE (bA rfl ?_))
  refine zM (hG.resolve_left hc) R1 B1 hne h0 hn2 (by omega) fun h2 N' U2 l2 hN' R2 B2=>aD ?_
  exact fin h2 _ N' false ((U1.mono fun _ _ e=>.inl e).trans U2 fun i _ e=>.inl e) (.inr (by omega)) R2 B2 hN'
theorem aGQ {ex:Bool} (R:iQ h d (.sl (some ⟨id,N,0⟩) bs.length none)) (B:eO h id N ex bs) (hq:Q (.s bs) h):C Y62.id [bp d] h Q:=by
 refine Y62.call ?_
 simp only [Y62.t,bI,bH]
 refine fD (by kernel_rfl) (bE (aX rfl (aE R rfl rfl (aE R rfl rfl (aD ?_)))))
 refine oI B (Nat.zero_le _) ?_
 rw [Nat.sub_zero]
 obtain ⟨b,h1,h2,h3,h4,h5,h6,h7,h8⟩:=B
 have Rb:Byt h (.sl (some ⟨id,N,0⟩) bs.length none) bs:=.inr ⟨id,N,0,none,b,rfl,h1,.inl h2,h4,by omega,by omega,by rw [List.drop_zero,Nat.mul_one]; exact h8⟩
 exact Rb.str (.inl hq)
end
end Go.Proofs.YtpaphfeihpgamaaDoor
namespace Go.Proofs.YtpaphfeihpgamaaDoor
open Go.GAM
open Go.Infl (bF dA bW Out Lim)
structure RS where
 at':Nat
 outv:AV
 short:Bool
 e:Int
def Fits (r:RS) (out:List UInt8) (F:Infl.Fin):Prop:=F.out=out∧((r.short=true∧F.e=3)∨(r.short=false∧r.e=2∧F.e=1)∨(r.short=false∧r.e=16∧F.e=2))
section
variable [XR] {h:aA} {Q:AV→aA→Prop} {L:Lim} {s:List UInt8} {d:Nat} {r:RS} {out:List UInt8} {F:Infl.Fin}
end
end Go.Proofs.YtpaphfeihpgamaaDoor
namespace Go.Proofs.YtpaphfeihpgamaaDoor
open Go.GAM
open Go.Infl (bF dA bW Out Lim)
section
variable [XR] {h:aA} {Q:AV→aA→Prop} {v:AV} {l:List Nat}
end
section
variable [XR] {h:aA} {Q:AV→aA→Prop} {v:AV} {l:List Nat}
end
end Go.Proofs.YtpaphfeihpgamaaDoor
namespace Go.Proofs.YtpaphfeihpgamaaDoor
open Go.GAM
open Go.Infl (bF dA bW Out Lim)
section
variable [XR] {h:aA} {Q:AV→aA→Prop} {L:Lim} {s:List UInt8} {d:Nat} {r:RS} {out:List UInt8} {F:Infl.Fin}
end
end Go.Proofs.YtpaphfeihpgamaaDoor
