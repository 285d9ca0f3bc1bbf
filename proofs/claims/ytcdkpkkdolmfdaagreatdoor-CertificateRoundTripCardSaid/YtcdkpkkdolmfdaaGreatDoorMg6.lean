/- Lemmas (several texts in one). -/
import Derived.Test.YtcdkpkkdolmfdaaGreatDoorMg5
set_option linter.unusedVariables false
set_option linter.unusedSimpArgs false
set_option linter.unusedSectionVars false
set_option maxRecDepth 20000
namespace Go.GAM
def GlAt (h:AHeap) (id:Nat) (cs:List AV):Prop:=∃ b:ABlk,h[id]? = some b∧b.cells=cs∧b.floor≤cs.length∧b.gl=true
theorem GlAt.upd {M:Nat→Prop} {h h':AHeap} {id:Nat} {cs:List AV} (G:GlAt h id cs) (U:Upd M h h') (hM:¬ M id):GlAt h' id cs:=by
  obtain ⟨b,h1,h2⟩:=G
  exact ⟨b,(U.2 id (lt_of_some h1) hM).trans h1,h2⟩
theorem GlAt.var {h:AHeap} {id:Nat} {cs:List AV} (G:GlAt h id cs):gvar h id = .p (some ⟨id,cs.length,0⟩):=by
  obtain ⟨b,h1,rfl,h3,h4⟩:=G
  unfold gvar
  rw [h1]
  simp only [h4,Bool.true_and,Nat.ble_eq_true_of_le h3,cond_true]
theorem GlAt.loadN {h:AHeap} {id n:Nat} {cs:List AV} {K:AV→Prop} (G:GlAt h id cs) (hn:n=cs.length) (hk:K (.ag cs)):pLoadN n (gvar h id) h K:=by
  rw [G.var]
  obtain ⟨b,h1,rfl,h3,h4⟩:=G
  subst hn
  refine ⟨b,h1,⟨h3,Nat.le_refl _,by simp⟩, ?_⟩
  simpa using hk
theorem GlAt.load1 {h:AHeap} {id:Nat} {v:AV} {K:AV→Prop} (G:GlAt h id [v]) (hk:K v):pLoad1 (gvar h id) h K:=by
  rw [G.var]
  obtain ⟨b,h1,h2,h3,h4⟩:=G
  refine ⟨b,h1,⟨h3,by rw [h2]; exact Nat.le_refl _,by simp⟩, ?_⟩
  rw [h2]; exact hk
end Go.GAM
namespace Go.Proofs.YtcdkpkkdolmfdaaGreatDoor
open Go.GAM Go.RowKit
section
variable {h:AHeap} {Q:AV→AHeap→Prop}
theorem RdI.elem {sz:Nat} {h:AHeap} {v:AV} {cs:List AV} {len:Nat} (R:RdI sz h v cs len) {k:IntKind} {i:Int} (h0:0≤i) (h1:i<len) {K:AV→Prop} (hk:K (.ag ((cs.drop (i.toNat * sz)).take sz))) :
    pIdxAddrSl sz v (.i k i) h fun a=>pLoadN sz a h K:=by
  obtain ⟨j,rfl⟩:∃ j:Nat,i=j:=⟨i.toNat,by omega⟩
  obtain ⟨p,A,hp⟩:=R.at (i:=j) (by omega)
  exact hp k h _ (Upd.refl _ _) (A.loadN (by simpa using hk))
def attrs:List (List UInt8 × List UInt8):=[([67,78],[50,46,53,46,52,46,51]),([79],[50,46,53,46,52,46,49,48]),([79,85],[50,46,53,46,52,46,49,49]),([67],[50,46,53,46,52,46,54])]
structure CG (h:AHeap):Prop where
  seq:GlAt h 0 [.i .i64 0,.i .i64 16,.b true]
  set:GlAt h 8 [.i .i64 0,.i .i64 17,.b true]
  att:∃ v,GlAt h 7 [v]∧RdI 2 h v (attrs.flatMap fun x=>[.s x.1,.s x.2]) 4
theorem CG.ext {h':AHeap} (G:CG h) (U:Upd (fun _=>False) h h'):CG h':=by
  obtain ⟨v,g1,g2⟩:=G.att
  exact ⟨G.seq.upd U fun h=>h,G.set.upd U fun h=>h,v,g1.upd U fun h=>h,g2.ext U⟩
def shp (c t:Int) (m:Bool):AV:=.ag [.i .i64 c,.i .i64 t,.b m]
theorem shape_eq {c t c' t':Int} {m m':Bool} {K:AV→Prop} (hk:K (.b (decide (c=c')&&(decide (t=t')&&(m == m'))))):pBin prog .eql 46 (shp c t m) (shp c' t' m') K:=by
  have hg:Program.eqGuardType prog prog.depth 46=false:=by kernel_rfl
  have hst:prog.stoodInHeld 46=false:=by kernel_rfl
  have hi:=aEq_int (P:=prog) (d:=62) (kt:=3) (q:=.i64) (by kernel_rfl)
  have h4:prog.underlying 4=some .bool:=Tryz.underlying4
  have h3:prog.underlying 3=some (.int .i64):=by kernel_rfl
  have e:aEq prog 64 46 (shp c t m) (shp c' t' m')=some (decide (c=c')&&(decide (t=t')&&(m == m'))):=by
    show aEq prog (63+1) 46 (.ag [.i .i64 c,.i .i64 t,.b m]) (.ag [.i .i64 c',.i .i64 t',.b m'])=_
    unfold aEq
    rw [show prog.underlying 46=_ from Tryz.underlying46]
    simp only [hst]
    have hb:aEq prog 63 4 (.b m) (.b m')=some (m == m'):=by
      show aEq prog (62+1) 4 (.b m) (.b m')=_
      unfold aEq
      rw [h4]
    simp [hi,hb,h3,h4]
    rw [Bool.eq_iff_iff]; simp
  show (bif Program.eqGuardType prog prog.depth 46 then False else match aEq prog 64 46 (shp c t m) (shp c' t' m') with
    | some r=>eqOut .eql r K
    | none=>False)
  rw [hg,e]
  exact hk
def isS (c t:Int) (m:Bool):Der→Bool | .mk c' t' m' _ _=>decide (c'=c)&&(decide (t'=t)&&(m' == m))
def Der.kids:Der→List Der | .mk _ _ _ _ ks=>ks
theorem shapeIs_c {c t:Int} {m:Bool} {d:Der} {cs:List AV} {F:Nat→Prop} (D:DV h F d cs) (hq:Q (.b (isS c t m d)) h):C Y45.id [shp c t m,.ag cs] h Q:=by
  refine Y45.call ?_
  simp only [Y45.t]
  refine st_box rfl fun h1 hl1 U1 R1=>?_
  have D1:=D.ext U1
  refine D1.box fun h2 hl2 U2 R2 D2=>?_
  have R1':=R1.upd U2 fun h=>h
  have hcl:=D.len
  cases D with
  | @mk c' t' m' s ks v rows ks1 sv1 f1 o1=>
  refine st_fld (st_load R2 hcl.symm rfl (st_asI (st_fld (st_load R2 hcl.symm rfl (st_asI (st_fld (st_load R2 hcl.symm rfl (st_asB ?_))))))))
  refine st_loadN R1' rfl ?_
  refine shape_eq (st_asB ?_)
  exact kRet_pure rfl (U1.trans U2 fun _ _ h=>h).ext hq
theorem DV.kidsLen {d:Der} {cs:List AV} {F:Nat→Prop} (D:DV h F d cs):∃ v rows,cs[4]? = some v∧DVs h F d.kids rows∧SArg 5 h v rows.flatten rows.length∧rows.length=d.kids.length∧(∀ i,SlAt v i→F i∧i<h.length):=by
  cases D with
  | @mk c' t' m' s ks v rows ks1 sv1 f1 o1=>exact ⟨v,rows,rfl,ks1,sv1,ks1.length.symm,f1⟩
theorem list_c {c t n:Int} {m:Bool} {d:Der} {cs:List AV} {F:Nat→Prop} (D:DV h F d cs) {v:AV} (hv:cs[4]? = some v) (hq:∀ h',Upd (fun _=>False) h h'→Q (.tu [v,.b (isS c t m d&&(decide (n<0)||decide ((d.kids.length:Int)=n)))]) h') :
    C Y28.id [shp c t m,.ag cs,.i .i64 n] h Q:=by
  refine Y28.call ?_
  simp only [Y28.t,Y28.j0]
  refine st_box rfl fun h1 hl1 U1 R1=>?_
  have D1:=D.ext U1
  refine D1.box fun h2 hl2 U2 R2 D2=>?_
  have R1':=R1.upd U2 fun h=>h
  have hcl:=D.len
  obtain ⟨v',rows,hv',hks,hsa,hrl,_⟩:=D2.kidsLen
  rw [hv] at hv'; cases hv'
  have p0:∀ b,b=(isS c t m d&&(decide (n<0)||decide ((d.kids.length:Int)=n)))→Y28.p0 (kRet h Q) v b h2:=by
    intro b hb
    refine Y28.i0 ?_
    simp only [Y28.t0]
    subst hb
    exact .inl (hq h2 (U1.trans U2 fun _ _ h=>h))
  refine st_fld (st_load R2 hcl.symm hv (st_loadN R1' rfl (st_loadN R2 hcl.symm ?_)))
  refine shapeIs_c D2 (st_asB (st_load R2 hcl.symm hv ⟨rfl, ?_⟩))
  refine bif_both (fun e=>?_) fun e=>p0 _ (by rw [e] <;> rfl)
  refine bif_both (fun e2=>p0 _ (by rw [e,e2] <;> rfl)) fun e2=>?_
  refine st_fld (st_load R2 hcl.symm hv (hsa.len (p0 _ ?_)))
  rw [e,e2,hrl] <;> rfl
end
end Go.Proofs.YtcdkpkkdolmfdaaGreatDoor
namespace Go.Proofs.YtcdkpkkdolmfdaaGreatDoor
open Go.GAM Go.RowKit
theorem DV.cells' {h:AHeap} {F:Nat→Prop} {d:Der} {cs:List AV} (D:DV h F d cs):cs.all AV.cellOK=true:=by
  cases D with
  | mk _ _ _ hc=>simp [AV.cellOK] at hc ⊢; exact hc
def attrOf (o:List UInt8):List UInt8:=attrs.foldl (fun n x=>if x.2=o then x.1 else n) []
def sps:List UInt8:=[92,44,61]
def pairS (a b:Der):Option (List UInt8):=
  if (oidS a).2=true∧(dtxtS b).2=true∧attrOf (oidS a).1≠[] then some ((attrOf (oidS a).1++[61])++escS sps (dtxtS b).1) else none
def setS (s : Der) : Option (List UInt8) :=
  if isS 0 17 true s=true then match s.kids with
    | [k] => if isS 0 16 true k = true then match k.kids with
      | [a,b]=>pairS a b
      | _=>none
      else none
    | _=>none
  else none
def nameK : List Der → Option (List (List UInt8))
  | []=>some []
  | s :: r => match setS s with
    | none=>none
    | some x => match nameK r with
      | none=>none
      | some l=>some (x :: l)
def nameS (d:Der):Option (List UInt8):=if isS 0 16 true d=true then (nameK d.kids).map fun l=>Lib.join l [44] else none
def nameR:Option (List UInt8)→AV
  | none=>.tu [.s [],.i .i64 2]
  | some t=>.tu [.s t,.i .i64 0]
def shortN (d:Der):Prop:=d.kids.length≤4000∧∀ s∈d.kids, ∀ k∈s.kids, ∀ x∈k.kids,x.data.length≤100000
theorem attrOf_len (o:List UInt8):(attrOf o).length≤2:=by
  have:∀ (l:List (List UInt8 × List UInt8)) (n:List UInt8),n.length≤2→(∀ x∈l,x.1.length≤2)→(l.foldl (fun n x=>if x.2=o then x.1 else n) n).length≤2:=by
    intro l
    induction l with
    | nil=>intro n hn _; exact hn
    | cons x l ih =>
      intro n hn hl
      rw [List.foldl_cons]
      refine ih _ ?_ fun y hy=>hl y (by simp [hy])
      split
      · exact hl x (by simp)
      · exact hn
  exact this attrs [] (by simp) (by decide)
theorem sps_nd:sps.Nodup:=by decide
theorem dtxt_len (b:Der):(dtxtS b).1.length≤b.data.length:=by unfold dtxtS; split <;> simp
theorem pairS_len {a b:Der} {x:List UInt8} (h:pairS a b=some x) (hb:b.data.length≤100000):x.length≤200010:=by
  unfold pairS at h
  split at h
  · cases h
    have h1:=attrOf_len (oidS a).1
    have h2:=escS_len sps_nd (dtxtS b).1
    have h3:=sumC_le sps_nd (dtxtS b).1
    have h4:=dtxt_len b
    simp only [List.length_append,List.length_cons,List.length_nil]; omega
  · cases h
theorem setS_len {s : Der} {x : List UInt8} (h : setS s = some x) (hb : ∀ k ∈ s.kids, ∀ x ∈ k.kids, x.data.length ≤ 100000) : x.length ≤ 200010 := by
  unfold setS at h
  split at h
  · split at h
    · rename_i k hk
      split at h
      · split at h
        · rename_i a b hab
          exact pairS_len h (hb k (by rw [hk]; simp) b (by rw [hab]; simp))
        · cases h
      · cases h
    · cases h
  · cases h
theorem join_len (sep : UInt8) (M : Nat) : ∀ l : List (List UInt8), (∀ x ∈ l, x.length ≤ M) → (Lib.join l [sep]).length ≤ l.length * (M + 1)
  | [],_=>by simp [Lib.join_nil]
  | x :: r, h => by
    rw [Lib.join_cons,List.length_append,List.length_cons]
    have hx:=h x (by simp)
    have key:∀ r:List (List UInt8),(∀ x∈r,x.length≤M)→(Lib.joinTail [sep] r).length≤r.length * (M+1):=by
      intro r
      induction r with
      | nil=>intro _; simp [Lib.joinTail]
      | cons y r ih =>
        intro hr
        have:=ih fun z hz=>hr z (by simp [hz])
        have hy:=hr y (by simp)
        unfold Lib.joinTail at *
        simp only [List.map_cons,List.flatten_cons,List.length_append,List.length_cons,List.length_nil,Nat.add_mul,Nat.one_mul] at *
        omega
    have:=key r fun z hz=>h z (by simp [hz])
    rw [Nat.add_mul,Nat.one_mul]; omega
section
variable {h:AHeap} {Q:AV→AHeap→Prop}
def restR (ok:Bool) (done:List (List UInt8)) (r:List Der):Option (List UInt8):=match nameK r with
  | none=>none
  | some l=>if ok=true then some (Lib.join (done++l) [44]) else none
theorem SArg.row {h:AHeap} {F:Nat→Prop} {v:AV} {ks:List Der} {rows:List (List AV)} (hks:DVs h F ks rows) (S:SArg 5 h v rows.flatten rows.length) {i:Nat} {k:Der} (hk:ks[i]? = some k) :
    ∃ id ver off cap r, v = .sl (some ⟨id, ver, off⟩) rows.length cap ∧ DV h F k r ∧
      ∀ h',Upd (fun _=>False) h h'→(∀ (kk:IntKind) (K:AV→Prop),K (.p (some ⟨id,ver,off+i * 5⟩))→pIdxAddrSl 5 v (.i kk (i:Int)) h' K)∧∀ K:AV→Prop,K (.ag r)→pLoadN 5 (.p (some ⟨id,ver,off+i * 5⟩)) h' K:=by
  obtain ⟨r,hr,D⟩:=hks.get hk
  have hi:i<rows.length:=lt_of_some hr
  obtain ⟨id,ver,off,cap,b,rfl,RA⟩:=S.at (by omega)
  refine ⟨id,ver,off,cap,r,rfl,D,fun h' U=>?_⟩
  have RA':=RA.upd U fun h=>h
  exact ⟨fun kk K hK=>st_idx RA' hi hK,fun K hK=>st_elemN RA' hi (rows_get rows i r hks.len5 hr) hK⟩
theorem name_p1 {x5 x10 x14 : Bool} {x6 v va : AV} {x12 x13 : List UInt8} {n i : Int} {h0 : AHeap} (hA : RdI 2 h0 va (attrs.flatMap fun x => [.s x.1, .s x.2]) 4)
    (next:∀ (h':AHeap) (b:Bool),Upd (fun _=>False) h h'→b = !(x10&&(x14 && !(decide (attrOf x12=[]))))→Y11.p3 Q x5 x6 x13 (attrOf x12) v n i b h') :
    ∀ (k j:Nat) (hx:AHeap),4=j+k→Upd (fun _=>False) h0 hx→Upd (fun _=>False) h hx→Y11.p1 Q x5 x6 x10 x12 x13 x14 ((attrs.take j).foldl (fun n x=>if x.2=x12 then x.1 else n) []) v n i va 4 (j:Int) hx:=by
  intro k
  induction k with
  | zero =>
    intro j hx hj U0 U
    obtain rfl:j=4:=by omega
    refine Y11.i1 ?_
    simp only [Y11.t1,Y11.j3]
    refine bif_f (by decide) ?_
    have e:(attrs.take 4).foldl (fun n x=>if x.2=x12 then x.1 else n) []=attrOf x12:=rfl
    rw [e]
    cases x10 with
    | false=>exact bif_t rfl (next hx true U (by simp))
    | true =>
      refine bif_f rfl ?_
      cases x14 with
      | false=>exact bif_t rfl (next hx true U (by simp))
      | true=>exact bif_f rfl (next hx _ U (by simp))
  | succ k ih =>
    intro j hx hj U0 U
    obtain ⟨x,hc⟩:∃ x,attrs[j]? = some x:=⟨attrs[j]'(by show j<4; omega),List.getElem?_eq_getElem _⟩
    have htk:=take_snoc hc
    refine Y11.i1 ?_
    simp only [Y11.t1,Y11.j2]
    refine bif_t (decide_eq_true (by omega)) ?_
    have hrow:((attrs.flatMap fun x=>[AV.s x.1,AV.s x.2]).drop (j * 2)).take 2=[.s x.1,.s x.2]:=by
      have:∀ j x,attrs[j]? = some x→((attrs.flatMap fun x=>[AV.s x.1,AV.s x.2]).drop (j * 2)).take 2=[.s x.1,.s x.2]:=by
        intro j x hjx
        have hj4:j<4:=lt_of_some hjx
        match j,hj4 with
        | 0,_=>simp [attrs] at hjx ⊢; subst hjx; simp
        | 1,_=>simp [attrs] at hjx ⊢; subst hjx; simp
        | 2,_=>simp [attrs] at hjx ⊢; subst hjx; simp
        | 3,_=>simp [attrs] at hjx ⊢; subst hjx; simp
      exact this j x hc
    refine RdI.elem (hA.ext U0) (by omega) (by omega) ?_
    simp only [Int.toNat_natCast]
    rw [hrow]
    refine st_alloc fun h1 hl1 U1 R1=>?_
    refine st_storeN R1 rfl rfl rfl fun h2 hl2 U2 R2=>?_
    have U02:Upd (fun _=>False) hx h2:=U1.trans U2 fun i hi e=>by omega
    have nxt:∀ x15,x15=(attrs.take (j+1)).foldl (fun n x=>if x.2=x12 then x.1 else n) []→Y11.p2 Q x5 x6 x10 x12 x13 x14 x15 v n i va 4 (j:Int) h2:=by
      intro x15 he
      refine Y11.i2 ?_
      simp only [Y11.t2,Y11.j1]
      subst he
      exact inc (by omega) (ih (j+1) h2 (by omega) (U0.trans U02 fun _ _ h=>h) (U.trans U02 fun _ _ h=>h))
    refine st_fld (st_load R2 rfl rfl (st_asS ?_))
    refine bif_both (fun e=>?_) fun e=>?_
    · refine st_fld (st_load R2 rfl rfl (st_asS (nxt _ ?_)))
      rw [htk,List.foldl_append,List.foldl_cons,List.foldl_nil,if_pos (of_decide_eq_true e)]
    · refine nxt _ ?_
      rw [htk,List.foldl_append,List.foldl_cons,List.foldl_nil,if_neg (of_decide_eq_false e)]
theorem pairR (ok:Bool) (done:List (List UInt8)) (s:Der) (r:List Der):restR ok done (s :: r)=match setS s with
    | none=>none
    | some x=>restR ok (done++[x]) r:=by
  have e:nameK (s :: r)=match setS s with
    | none=>none
    | some x => match nameK r with
      | none=>none
      | some l=>some (x :: l):=rfl
  unfold restR
  rw [e]
  cases setS s with
  | none=>rfl
  | some x=>cases nameK r <;> simp
theorem name_p0 (G : CG h) {F : Nat → Prop} {d : Der} (hB : shortN d) {v : AV} {rows : List (List AV)} (hks : DVs h F d.kids rows) (hsa : SArg 5 h v rows.flatten rows.length) {ok : Bool} :
    ∀ (r:List Der) (i:Nat) (v6:AV) (done:List (List UInt8)) (hx:AHeap),d.kids.drop i=r→i≤d.kids.length→Upd (fun _=>False) h hx→NewS h hx v6 (done.map .s)→done.length≤i→(∀ x∈done,x.length≤200010) →
    Q (nameR (restR ok done r)) h→Y11.p0 (kRet h Q) ok v6 v (rows.length:Int) (i:Int) hx:=by
  have hrl:=hks.length
  intro r
  induction r with
  | nil =>
    intro i v6 done hx hr hi U S hd hdl hq
    have hle:=drop_end hr
    have hN:=hB.1
    refine Y11.i0 ?_
    simp only [Y11.t0]
    refine bif_f (decide_eq_false (by omega)) ?_
    have hq:Q (nameR (if ok=true then some (Lib.join (done++[]) [44]) else none)) h:=hq
    rw [List.append_nil] at hq
    cases ok with
    | false=>exact bif_t rfl (kRet_pure rfl U.ext hq)
    | true =>
      refine bif_f rfl (join_c (ls:=done) ?_ ?_ (by omega) (st_asS (kRet_pure rfl U.ext hq)))
      · have:=S.stk.rd; rwa [List.length_map] at this
      · have h1 := join_len 44 200010 done hdl
        have h2:done.length * (200010+1)≤4000 * (200010+1):=Nat.mul_le_mul_right _ (by omega)
        omega
  | cons s r ih =>
    intro i v6 done hx hr hi U S hd hdl hq
    have hN:=hB.1
    have hlt:=drop_lt hr
    have hnx:=drop_next hr
    have hsi:=at_of_drop hr
    have hsm:=List.mem_of_getElem? hsi
    rw [pairR] at hq
    refine Y11.i0 ?_
    simp only [Y11.t0,Y11.j1]
    refine bif_t (decide_eq_true (by omega)) ?_
    obtain ⟨id,ver,off,cap,rw1,rfl,Ds,hrd⟩:=SArg.row hks hsa hsi
    obtain ⟨k1,k2⟩:=hrd hx U
    refine k1 _ _ (k2 _ ?_)
    have hcl:=Ds.len
    refine st_alloc fun h1 hl1 U1 R1=>?_
    refine st_storeN R1 rfl hcl Ds.cells' fun h2 hl2 U2 R2=>?_
    have Ux2:Upd (fun _=>False) hx h2:=U1.trans U2 fun i hi e=>by omega
    have U02:Upd (fun _=>False) h h2:=U.trans Ux2 fun _ _ h=>h
    refine (G.ext U02).set.loadN rfl (st_loadN R2 hcl.symm ?_)
    have Ds2:=Ds.ext U02
    obtain ⟨vs,rs,hvs,hkss,hsas,hrls,_⟩:=Ds2.kidsLen
    refine list_c Ds2 hvs fun h3 U3=>?_
    refine st_ext0 (st_ext1 (st_asB ?_))
    have U03:=U02.trans U3 fun _ _ h=>h
    have fail:∀ hy,Upd (fun _=>False) h hy→setS s=none→kRet h Q (.tu [.s [],.i .i64 2]) hy:=by
      intro hy Uy he
      rw [he] at hq
      exact kRet_pure rfl Uy.ext hq
    refine bif_both (fun e=>fail _ U03 ?_) fun e=>?_
    · unfold setS
      split
      · rename_i hs
        split
        · rename_i k hk
          rw [hs,hk] at e
          simp at e
        · rfl
      · rfl
    have e:isS 0 17 true s=true∧s.kids.length=1:=by
      simp at e
      exact ⟨e.1,by omega⟩
    obtain ⟨k,hk⟩:∃ k,s.kids=[k]:=by
      match hh:s.kids with
      | [k]=>exact ⟨k,rfl⟩
      | []=>rw [hh] at e; simp at e
      | _ :: _ :: _=>rw [hh] at e; simp at e
    have hset:setS s=if isS 0 16 true k=true then (match k.kids with
      | [a,b]=>pairS a b
      | _=>none) else none:=by
      unfold setS
      rw [if_pos e.1,hk]
    refine (G.ext U03).seq.loadN rfl ?_
    obtain ⟨id1,ver1,off1,cap1,rw2,rfl,Dk,hrd1⟩:=SArg.row hkss hsas (i:=0) (k:=k) (by rw [hk] <;> rfl)
    obtain ⟨m1,m2⟩:=hrd1 h3 U3
    refine m1 _ _ (m2 _ ?_)
    have Dk3:=Dk.ext U3
    obtain ⟨vk,rk,hvk,hksk,hsak,hrlk,_⟩:=Dk3.kidsLen
    refine list_c Dk3 hvk fun h4 U4=>?_
    have U04:=U03.trans U4 fun _ _ h=>h
    obtain ⟨n1,n2⟩:=hrd1 h4 (U3.trans U4 fun _ _ h=>h)
    refine n1 _ _ ⟨rfl, ?_⟩
    refine st_ext0 (st_ext1 (st_asB ?_))
    refine bif_both (fun e2=>fail _ U04 ?_) fun e2=>?_
    · rw [hset]
      split
      · rename_i hs
        split
        · rename_i a b hab
          rw [hs,hab] at e2
          simp at e2
        · rfl
      · rfl
    have e2:isS 0 16 true k=true∧k.kids.length=2:=by
      simp at e2
      exact ⟨e2.1,by omega⟩
    obtain ⟨a,b,hab⟩:∃ a b,k.kids=[a,b]:=by
      match hh:k.kids with
      | [a,b]=>exact ⟨a,b,rfl⟩
      | []=>rw [hh] at e2; simp at e2
      | [_]=>rw [hh] at e2; simp at e2
      | _ :: _ :: _ :: _=>rw [hh] at e2; simp at e2
    have hset:setS s=pairS a b:=by rw [hset,if_pos e2.1,hab]
    have hkm:k∈s.kids:=by rw [hk]; simp
    have hda:=hB.2 s hsm k hkm a (by rw [hab]; simp)
    have hdb:=hB.2 s hsm k hkm b (by rw [hab]; simp)
    obtain ⟨id2,ver2,off2,cap2,ra,hva,Da,hrda⟩:=SArg.row hksk hsak (i:=0) (k:=a) (by rw [hab] <;> rfl)
    obtain ⟨id3,ver3,off3,cap3,rb,hvb,Db,hrdb⟩:=SArg.row hksk hsak (i:=1) (k:=b) (by rw [hab] <;> rfl)
    subst hva
    cases hvb
    obtain ⟨a1,a2⟩:=hrda h4 U4
    obtain ⟨b1,b2⟩:=hrdb h4 U4
    refine a1 _ _ (a2 _ ?_)
    refine oid_c (Da.ext U4) hda (st_ext0 (st_asS (st_ext1 (st_asB ?_))))
    refine b1 _ _ (b2 _ ?_)
    refine dtxt_c (Db.ext U4) hdb (st_ext0 (st_asS (st_ext1 (st_asB ?_))))
    obtain ⟨va,g1,g2⟩:=(G.ext U04).att
    refine g1.load1 (g2.len ?_)
    refine name_p1 g2 (fun h5 bb U5 hb=>?_) 4 0 h4 rfl (Upd.refl _ _) (Upd.refl _ _)
    have U05:=U04.trans U5 fun _ _ h=>h
    refine Y11.i3 ?_
    simp only [Y11.t3,Y11.j0]
    refine bif_both (fun e3=>fail _ U05 ?_) fun e3=>?_
    · rw [hset]
      unfold pairS
      rw [if_neg]
      intro hh
      rw [e3,hh.1,hh.2.1] at hb
      simp at hb
      exact hh.2.2 hb
    have hh:(oidS a).2=true∧(dtxtS b).2=true∧attrOf (oidS a).1≠[]:=by
      rw [e3] at hb
      have hb:=hb.symm
      simp at hb
      exact hb
    have hset:setS s=some ((attrOf (oidS a).1++[61])++escS sps (dtxtS b).1):=by
      rw [hset]; unfold pairS; rw [if_pos hh]
    have hxl:=setS_len hset fun k hk x hx=>hB.2 s hsm k hk x hx
    rw [hset] at hq
    have hl1:=attrOf_len (oidS a).1
    have hl2:=dtxt_len b
    refine ⟨by simp; omega, ?_⟩
    refine st_build (cs:=(pairsS sps).map .s) rfl rfl fun y h6 hl6 U6 R6 F6=>?_
    refine newRep_c (sp:=sps) (by decide) R6 (by decide) fun idp h7 U7 hn7 N7=>?_
    refine replace_c (sp:=sps) (by omega) sps_nd (by decide) (by decide) N7 fun h8 U8 _=>?_
    refine st_asS ⟨by simp only [List.length_append,List.length_cons,List.length_nil] at hxl ⊢; omega, ?_⟩
    have U58:Upd (fun _=>False) h5 h8:=((U6.trans U7 fun _ _ h=>h).trans U8 fun i hi e=>by have:=U6.1; omega)
    have U08:=U05.trans U58 fun _ _ h=>h
    have Ux8:Upd (fun _=>False) hx h8:=(((Ux2.trans U3 fun _ _ h=>h).trans U4 fun _ _ h=>h).trans U5 fun _ _ h=>h).trans U58 fun _ _ h=>h
    have S8:NewS h h8 v6 (done.map .s):=⟨U08,S.stk.upd Ux8 fun _ _ h=>h,S.new⟩
    refine NewS.push S8 rfl rfl (by simp; omega) (by simp; omega) fun v' h9 S9 U9 _=>?_
    refine inc (by omega) (ih (i+1) v' (done++[(attrOf (oidS a).1++[61])++escS sps (dtxtS b).1]) h9 hnx (by omega) S9.upd (by simpa using S9) (by simp; omega) (fun x hx=>?_) hq)
    rcases List.mem_append.1 hx with h | h
    · exact hdl x h
    · simp at h; subst h; simpa using hxl
theorem name_c (G:CG h) {F:Nat→Prop} {d:Der} {cs:List AV} (D:DV h F d cs) (hB:shortN d) (hq:Q (nameR (nameS d)) h):C Y11.id [.ag cs] h Q:=by
  refine Y11.call ?_
  simp only [Y11.t,Y11.j0]
  refine D.box fun h1 hl1 U1 R1 D1=>?_
  refine (G.ext U1).seq.loadN rfl (st_loadN R1 D.len.symm ?_)
  obtain ⟨v,rows,hv,hks,hsa,hrl,_⟩:=D1.kidsLen
  refine list_c D1 hv fun h2 U2=>st_ext0 (st_ext1 (st_asB ?_))
  have U02:=U1.trans U2 fun _ _ h=>h
  obtain ⟨v',rows',hv',hks',hsa',hrl',_⟩:=D.kidsLen
  have hdv:v'=v:=by rw [hv] at hv'; exact (Option.some.inj hv').symm
  subst hdv
  have hsl:∀ K:Int→Prop,K (rows'.length:Int)→pLenSl v' K:=fun K hk=>hsa'.len hk
  refine hsl _ ?_
  have e:(isS 0 16 true d&&(decide ((-1:Int)<0)||decide ((d.kids.length:Int) = -1)))=isS 0 16 true d:=by
    rw [show decide ((-1:Int)<0)=true by decide,Bool.true_or,Bool.and_true]
  rw [e]
  refine name_p0 G hB hks' hsa' d.kids 0 _ [] h2 rfl (by omega) U02 ⟨U02,.inl ⟨rfl,rfl⟩,fun _ h=>h.elim⟩ (by simp) (fun x hx=>by cases hx) ?_
  have e2:restR (isS 0 16 true d) [] d.kids=nameS d:=by
    unfold restR nameS
    cases nameK d.kids with
    | none=>simp
    | some l=>by_cases hh:isS 0 16 true d=true <;> simp [hh]
  rw [e2]; exact hq
end
end Go.Proofs.YtcdkpkkdolmfdaaGreatDoor
namespace Go.Proofs.YtcdkpkkdolmfdaaGreatDoor
open Go.GAM Go.RowKit
section
variable {h:AHeap} {Q:AV→AHeap→Prop}
theorem shapeOf_c {c t:Int} {m:Bool} {v:AV} (hv:∃ a n cap,v = .sl a n cap) (hq:∀ h',Upd (fun _=>False) h h'→Q (.ag [.i .i64 c,.i .i64 t,.b true,.s [],v]) h'):C Y44.id [shp c t m,v] h Q:=by
  obtain ⟨a,n,cap,rfl⟩:=hv
  refine Y44.call ?_
  simp only [Y44.t]
  refine st_box rfl fun h1 hl1 U1 R1=>?_
  refine st_alloc fun h2 hl2 U2 R2=>?_
  have R1':=R1.upd U2 fun h=>h
  refine st_fld (st_load R1' rfl rfl (st_asI (st_fld (st_load R1' rfl rfl (st_asI ?_)))))
  refine st_pbA (cs:=[.i .i64 c,.i .i64 t,.b true,.s [],.sl a n cap]) rfl ?_
  refine st_storeN R2 rfl rfl rfl fun h3 hl3 U3 R3=>st_loadN R3 rfl ?_
  exact .inl (hq h3 ((U1.trans U2 fun _ _ h=>h).trans U3 fun i hi e=>by omega))
theorem shapeVal_c {c t:Int} {m:Bool} {s:List UInt8} (hq:Q (.ag (leafC c t false s)) h):C Y46.id [shp c t m,.s s] h Q:=by
  refine Y46.call ?_
  simp only [Y46.t]
  refine st_box rfl fun h1 hl1 U1 R1=>?_
  refine st_alloc fun h2 hl2 U2 R2=>?_
  have R1':=R1.upd U2 fun h=>h
  refine st_fld (st_load R1' rfl rfl (st_asI (st_fld (st_load R1' rfl rfl (st_asI ?_)))))
  refine st_storeN R2 rfl rfl rfl fun h3 hl3 U3 R3=>st_loadN R3 rfl ?_
  exact kRet_pure rfl ((U1.trans U2 fun _ _ h=>h).trans U3 fun i hi e=>by omega).ext hq
def oidDat (o:List UInt8):List UInt8:=match oidOfS o with
  | .ok l=>l
  | .error _=>[]
theorem attr_oid:∀ x∈attrs,oidOfS x.2 = .ok (oidDat x.2)∧(oidDat x.2).length≤10:=by
  intro x hx
  simp only [attrs,List.mem_cons,List.not_mem_nil,or_false] at hx
  rcases hx with rfl | rfl | rfl | rfl
  · exact ⟨by kernel_rfl,by decide +kernel⟩
  · exact ⟨by kernel_rfl,by decide +kernel⟩
  · exact ⟨by kernel_rfl,by decide +kernel⟩
  · exact ⟨by kernel_rfl,by decide +kernel⟩
def kidOf (o text:List UInt8):Der:=.mk 0 17 true [] [.mk 0 16 true [] [.mk 0 6 false (oidDat o) [],.mk 0 12 false (plainE text) []]]
def kidsOf (part:List UInt8):List Der:=attrs.flatMap fun x=>if x.1=(cutS part 61).1 then [kidOf x.2 (cutS part 61).2.1] else []
def outOf (ks:List Der):Der:=.mk 0 16 true [] ks
def nameOfS (s : List UInt8) : Der × Int :=
  if 512<s.length then (.zero,3) else if s=[] then (outOf [],0) else
    if nameS (outOf ((splitE [] s).flatMap kidsOf))=some s then (outOf ((splitE [] s).flatMap kidsOf),0) else (.zero,5)
theorem Arr.cell {sz:Nat} {h:AHeap} {v:AV} {cs:List AV} {n:Nat} (A:Arr sz h v cs n):v.parts=[v]∧v.sizeOK=true∧v.cellOK=true:=by
  rcases A with ⟨rfl,_⟩ | ⟨_,_,rfl,_⟩ <;> exact ⟨rfl,rfl,rfl⟩
structure NSt (h0 hb h:AHeap) (id0 id1:Nat) (v:AV) (ks:List Der):Prop where
  ub:Upd (fun _=>False) h0 hb
  upd:Upd (· = id1) hb h
  n0:h0.length≤id0
  n1:h0.length≤id1
  l0:id0<hb.length
  l1:id1<hb.length
  ne:id0≠id1
  r0:RecAt h id0 z5
  r1:RecAt h id1 [.i .i64 0,.i .i64 16,.b true,.s [],v]
  arr:∃ rows,Arr 5 h v rows.flatten rows.length∧DVs h (fun i=>hb.length≤i∧¬ SlAt v i) ks rows
  new:∀ i,SlAt v i→hb.length≤i
theorem NSt.ext {h0 hb h h':AHeap} {id0 id1:Nat} {v:AV} {ks:List Der} (S:NSt h0 hb h id0 id1 v ks) (U:Upd (fun _=>False) h h'):NSt h0 hb h' id0 id1 v ks:=by
  obtain ⟨rows,A,D⟩:=S.arr
  exact ⟨S.ub,S.upd.trans (U.mono fun _ _ h=>h.elim) fun _ _ h=>h,S.n0,S.n1,S.l0,S.l1,S.ne,S.r0.upd U fun h=>h,S.r1.upd U fun h=>h,⟨rows,A.upd U fun _ _ h=>h,D.upd U fun i hi _=>⟨fun h=>h,hi⟩⟩,S.new⟩
theorem NSt.low {h0 hb h:AHeap} {id0 id1:Nat} {v:AV} {ks:List Der} (S:NSt h0 hb h id0 id1 v ks):Upd (fun _=>False) h0 h:=
  S.ub.trans S.upd fun i hi e=>by have:=S.n1; omega
theorem NSt.val {h0 hb h:AHeap} {id0 id1:Nat} {v:AV} {ks:List Der} (S:NSt h0 hb h id0 id1 v ks):DV h (fun i=>h0.length≤i) (outOf ks) [.i .i64 0,.i .i64 16,.b true,.s [],v]:=by
  obtain ⟨rows,A,D⟩:=S.arr
  have hb0:=S.ub.1
  exact .mk (D.upd (Upd.refl (fun _=>False) h) fun i hi _=>⟨fun h=>h,by omega⟩) (.inl A.rd) (fun i hi=>⟨by have:=S.new i hi; omega,A.rd.lt hi⟩) (Arr.cell A).2.2
theorem NSt.push {h0 hb h:AHeap} {id0 id1:Nat} {v y:AV} {ks:List Der} {k:Der} {r:List AV} {ty:Option TypeId} (S:NSt h0 hb h id0 id1 v ks) (hn:ks.length≤4000) (R:Rd 5 h y r 1) (hrl:r.length=5) (hrc:r.all AV.cellOK=true)
    (D:DV h (fun i=>hb.length≤i∧¬ SlAt v i) k r) {K:AV→AHeap→Prop}
    (hk:∀ v' h',Upd (SlAt v) h h'→RecAt h' id1 [.i .i64 0,.i .i64 16,.b true,.s [],v]→(v'.parts=[v']∧v'.sizeOK=true∧v'.cellOK=true)→(∀ h'',h''.length=h'.length→Upd (· = id1) h' h''→RecAt h'' id1 [.i .i64 0,.i .i64 16,.b true,.s [],v']→NSt h0 hb h'' id0 id1 v' (ks++[k]))→K v' h') :
    pAppend ty 5 64 v y h K:=by
  obtain ⟨rows,A,Ds⟩:=S.arr
  have hrows:=Ds.length
  have hl0:=S.l0
  have hl1:=S.l1
  have hbh:=S.upd.1
  refine A.append (by decide) (ns:=r) (k:=1) (fun K hK=>R.news hK) (by omega) hrc (by omega) (by omega) fun v' h' U A' F=>?_
  have out:∀ i,i<hb.length→¬ SlAt v i:=fun i hi hs=>by have:=S.new i hs; omega
  refine hk v' h' U (S.r1.upd U (out _ hl1)) (Arr.cell A') fun h'' hl'' U'' R''=>?_
  have hnew':∀ i,SlAt v' i→hb.length≤i:=fun i hi=>by
    rcases F i hi with hh | hh
    · exact S.new i hh
    · omega
  have Dall:=Ds.app D
  have e1:(rows++[r]).flatten=rows.flatten++r:=by simp
  have e2:(rows++[r]).length=rows.length+1:=by simp
  refine ⟨S.ub,(S.upd.trans U fun i hi hs=>absurd hs (out i hi)).trans U'' fun _ _ h=>h,S.n0,S.n1,hl0,hl1,S.ne,(S.r0.upd U (out _ hl0)).upd U'' S.ne,R'',⟨rows++[r], ?_, ?_⟩,hnew'⟩
  · rw [e1, e2]
    exact A'.upd U'' fun i hi e=>by have:=hnew' i hi; omega
  · have D1 : DVs h' (fun i => hb.length ≤ i ∧ ¬ SlAt v' i) (ks ++ [k]) (rows ++ [r]) := Dall.upd U fun i hi hil => ⟨hi.2, hi.1, fun hs => by
      rcases F i hs with hh | hh
      · exact hi.2 hh
      · omega⟩
    exact D1.upd U'' fun i hi _=>⟨by omega,hi⟩
theorem nameOf_p1 {h0 hb : AHeap} (G : CG h0) {va : AV} (gva : GlAt h0 7 [va]) (hA : RdI 2 h0 va (attrs.flatMap fun x => [.s x.1, .s x.2]) 4) {id0 id1 : Nat} {s name text : List UInt8} {x26 : AV} {n27 i28 : Int} (ht : text.length ≤ 1000000) {ks0 : List Der} (hk0 : ks0.length ≤ 3000)
    (next:∀ v h',NSt h0 hb h' id0 id1 v (ks0++attrs.flatMap fun x=>if x.1=name then [kidOf x.2 text] else [])→withI (IntKind.wrap .i64 (i28+1)) fun n125=>Y8.p0 (kRet h0 Q) s (.p (some ⟨id0,5,0⟩)) (.p (some ⟨id1,5,0⟩)) x26 n27 n125 h') :
    ∀ (k j:Nat) (v:AV) (hx:AHeap),4=j+k→NSt h0 hb hx id0 id1 v (ks0++(attrs.take j).flatMap fun x=>if x.1=name then [kidOf x.2 text] else []) →
    Y8.p1 (kRet h0 Q) s (.p (some ⟨id0,5,0⟩)) (.p (some ⟨id1,5,0⟩)) name text x26 n27 i28 va 4 (j:Int) hx:=by
  intro k
  induction k with
  | zero =>
    intro j v hx hj S
    obtain rfl:j=4:=by omega
    refine Y8.i1 ?_
    simp only [Y8.t1,Y8.j0]
    exact bif_f (by decide) (next v hx S)
  | succ k ih =>
    intro j v hx hj S
    obtain ⟨x,hc⟩:∃ x,attrs[j]? = some x:=⟨attrs[j]'(by show j<4; omega),List.getElem?_eq_getElem _⟩
    have hxm:=List.mem_of_getElem? hc
    have htk:=take_snoc hc
    refine Y8.i1 ?_
    simp only [Y8.t1,Y8.j2]
    refine bif_t (decide_eq_true (by omega)) ?_
    have hrow:((attrs.flatMap fun x=>[AV.s x.1,AV.s x.2]).drop (j * 2)).take 2=[.s x.1,.s x.2]:=by
      have:∀ j x,attrs[j]? = some x→((attrs.flatMap fun x=>[AV.s x.1,AV.s x.2]).drop (j * 2)).take 2=[.s x.1,.s x.2]:=by
        intro j x hjx
        have hj4:j<4:=lt_of_some hjx
        match j,hj4 with
        | 0,_=>simp [attrs] at hjx ⊢; subst hjx; simp
        | 1,_=>simp [attrs] at hjx ⊢; subst hjx; simp
        | 2,_=>simp [attrs] at hjx ⊢; subst hjx; simp
        | 3,_=>simp [attrs] at hjx ⊢; subst hjx; simp
      exact this j x hc
    refine RdI.elem (hA.ext S.low) (by omega) (by omega) ?_
    simp only [Int.toNat_natCast]
    rw [hrow]
    refine st_alloc fun h1 hl1 U1 R1=>?_
    refine st_storeN R1 rfl rfl rfl fun h2 hl2 U2 R2=>?_
    have U02:Upd (fun _=>False) hx h2:=U1.trans U2 fun i hi e=>by omega
    have S2:=S.ext U02
    have nxt:∀ v' h',NSt h0 hb h' id0 id1 v' (ks0++(attrs.take (j+1)).flatMap fun x=>if x.1=name then [kidOf x.2 text] else [])→Y8.p2 (kRet h0 Q) s (.p (some ⟨id0,5,0⟩)) (.p (some ⟨id1,5,0⟩)) name text x26 n27 i28 va 4 (j:Int) h':=by
      intro v' h' S'
      refine Y8.i2 ?_
      simp only [Y8.t2,Y8.j1]
      exact inc (by omega) (ih (j+1) v' h' (by omega) S')
    refine st_fld (st_load R2 rfl rfl (st_asS ?_))
    refine bif_both (fun e=>?_) fun e=>nxt v h2 (by
      rw [htk,List.flatMap_append]
      simp only [List.flatMap_cons,List.flatMap_nil,List.append_nil,if_neg (of_decide_eq_false e)]
      exact S2)
    have e:=of_decide_eq_true e
    obtain ⟨ho1,ho2⟩:=attr_oid x hxm
    refine st_fld (st_load R2 rfl rfl (st_asS ?_))
    refine oidOf_c fun h3 U3=>?_
    rw [ho1]
    simp only [oidR]
    refine st_ext0 (st_ext1 (st_asI ?_))
    refine st_alloc fun h4 hl4 U4 R4=>?_
    refine st_storeN R4 rfl rfl rfl fun h5 hl5 U5 R5=>?_
    have U25:Upd (fun _=>False) h2 h5:=(U3.trans U4 fun _ _ h=>h).trans U5 fun i hi e=>by have:=U3.1; omega
    have S5:=S2.ext U25
    have l65:∀ hz (K:AV→Prop),Upd (fun _=>False) h5 hz→K (.ag (leafC 0 6 false (oidDat x.2)))→pLoadN 5 (.p (some ⟨h3.length,5,0⟩)) hz K:=fun hz K U hK=>st_loadN (R5.upd U fun h=>h) rfl hK
    have l1:∀ hz (K:AV→Prop),Upd (fun _=>False) h5 hz→K (shp 0 16 true)→pLoadN 3 (gvar hz 0) hz K:=fun hz K U hK=>(G.ext (S5.low.trans U fun _ _ h=>h)).seq.loadN rfl hK
    have l3:∀ hz (K:AV→Prop),Upd (fun _=>False) h5 hz→K (shp 0 17 true)→pLoadN 3 (gvar hz 8) hz K:=fun hz K U hK=>(G.ext (S5.low.trans U fun _ _ h=>h)).set.loadN rfl hK
    have l69:∀ hz (K:AV→Prop),Upd (fun _=>False) h5 hz→K v→pLoad1 (.p (some ⟨id1,5,0+4⟩)) hz K:=fun hz K U hK=>st_load (S5.r1.upd U fun h=>h) rfl rfl hK
    have r0:=Upd.refl (fun _=>False) h5
    refine st_fld (l69 _ _ r0 (l3 _ _ r0 (l1 _ _ r0 (l65 _ _ r0 ?_))))
    refine cplain_c ht (st_asS ?_)
    refine l65 _ _ r0 ⟨rfl,l1 _ _ r0 ⟨rfl,l3 _ _ r0 ⟨rfl,l69 _ _ r0 ⟨rfl, ?_⟩⟩⟩⟩
    refine shapeVal_c (m:=false) ?_
    refine l65 _ _ r0 ⟨rfl,l1 _ _ r0 ⟨rfl,l3 _ _ r0 ⟨rfl,l69 _ _ r0 ⟨rfl, ?_⟩⟩⟩⟩
    refine st_build (cs:=leafC 0 6 false (oidDat x.2)++leafC 0 12 false (plainE text)) rfl rfl fun y1 h6 hl6 U6 R6 F6=>?_
    refine l1 _ _ U6 ⟨rfl,l3 _ _ U6 ⟨rfl,l69 _ _ U6 ⟨rfl, ?_⟩⟩⟩
    have hy1:∃ a n cap,y1 = .sl a n cap:=by
      rcases R6 with ⟨rfl,_⟩ | ⟨_,_,_,_,_,rfl,_⟩ <;> exact ⟨_,_,_,rfl⟩
    refine shapeOf_c hy1 fun h7 U7=>?_
    have U57:=U6.trans U7 fun _ _ h=>h
    refine l65 _ _ U57 ⟨rfl,l3 _ _ U57 ⟨rfl,l69 _ _ U57 ⟨rfl, ?_⟩⟩⟩
    refine st_build (cs:=[.i .i64 0,.i .i64 16,.b true,.s [],y1]) (by obtain ⟨a,n,cap,rfl⟩:=hy1; rfl) rfl fun y2 h8 hl8 U8 R8 F8=>?_
    have U58:=U57.trans U8 fun _ _ h=>h
    refine l65 _ _ U58 ⟨rfl,l1 _ _ U58 ⟨rfl,l3 _ _ U58 ⟨rfl,l69 _ _ U58 ⟨rfl, ?_⟩⟩⟩⟩
    have hy2:∃ a n cap,y2 = .sl a n cap:=by
      rcases R8 with ⟨rfl,_⟩ | ⟨_,_,_,_,_,rfl,_⟩ <;> exact ⟨_,_,_,rfl⟩
    refine shapeOf_c hy2 fun h9 U9=>?_
    have U59:=U58.trans U9 fun _ _ h=>h
    refine l65 _ _ U59 ⟨rfl,l1 _ _ U59 ⟨rfl,l69 _ _ U59 ⟨rfl, ?_⟩⟩⟩
    refine st_build (cs:=[.i .i64 0,.i .i64 17,.b true,.s [],y2]) (by obtain ⟨a,n,cap,rfl⟩:=hy2; rfl) rfl fun y3 h10 hl10 U10 R10 F10=>?_
    have U510:=U59.trans U10 fun _ _ h=>h
    refine l65 _ _ U510 ⟨rfl,l1 _ _ U510 ⟨rfl,l3 _ _ U510 ⟨rfl,l69 _ _ U510 ⟨rfl, ?_⟩⟩⟩⟩
    have S10:=S5.ext U510
    have hbh5:=S5.upd.1
    have vlt:∀ i,SlAt v i→i<h5.length:=fun i hi=>by obtain ⟨rows,A,_⟩:=S5.arr; exact A.rd.lt hi
    have V1:DV h10 (fun i=>hb.length≤i∧¬ SlAt v i) (.mk 0 16 true [] [.mk 0 6 false (oidDat x.2) [],.mk 0 12 false (plainE text) []]) [.i .i64 0,.i .i64 16,.b true,.s [],y1]:=by
      have hks:DVs h10 (fun i=>hb.length≤i∧¬ SlAt v i) [.mk 0 6 false (oidDat x.2) [],.mk 0 12 false (plainE text) []] [leafC 0 6 false (oidDat x.2),leafC 0 12 false (plainE text)]:=.cons (DV.leaf _ _ _ _ _ _) (.cons (DV.leaf _ _ _ _ _ _) .nil)
      have R6':=R6.upd (((U7.trans U8 fun _ _ h=>h).trans U9 fun _ _ h=>h).trans U10 fun _ _ h=>h) fun _ _ h=>h
      refine .mk hks (.inl (by simpa using R6')) (fun i hi=>⟨⟨by have:=F6 i hi; omega,fun hs=>by have:=F6 i hi; have:=vlt i hs; omega⟩,R6'.lt hi⟩) (by obtain ⟨a,n,cap,rfl⟩:=hy1; rfl)
    have V2:DV h10 (fun i=>hb.length≤i∧¬ SlAt v i) (kidOf x.2 text) [.i .i64 0,.i .i64 17,.b true,.s [],y2]:=by
      have hks:=DVs.cons V1 DVs.nil
      have R8':=R8.upd (U9.trans U10 fun _ _ h=>h) fun _ _ h=>h
      have h58:=U57.1
      refine .mk hks (.inl (by simpa using R8')) (fun i hi=>⟨⟨by have:=F8 i hi; omega,fun hs=>by have:=F8 i hi; have:=vlt i hs; omega⟩,R8'.lt hi⟩) (by obtain ⟨a,n,cap,rfl⟩:=hy2; rfl)
    have hkl:(ks0++(attrs.take j).flatMap fun x=>if x.1=name then [kidOf x.2 text] else []).length≤4000:=by
      have:∀ l:List (List UInt8 × List UInt8),(l.flatMap fun x=>if x.1=name then [kidOf x.2 text] else []).length≤l.length:=by
        intro l
        induction l with
        | nil=>simp
        | cons a l ih =>
          rw [List.flatMap_cons,List.length_append,List.length_cons]
          have:(if a.1=name then [kidOf a.2 text] else []).length≤1:=by split <;> simp
          omega
      have:=this (attrs.take j)
      simp only [List.length_append,List.length_take] at *
      omega
    refine S10.push hkl R10 rfl (by obtain ⟨a,n,cap,rfl⟩:=hy2; rfl) V2 fun v' h11 U11 R11 hv' fin=>?_
    have id65:¬ SlAt v h3.length:=fun hs=>by
      obtain ⟨rows,A,_⟩:=S2.arr
      have:=A.rd.lt hs; have:=U3.1; omega
    have lo:∀ g,g<h0.length→¬ SlAt v g:=fun g hg hs=>by have:=S.new g hs; have:=S.ub.1; omega
    have G10:=G.ext S10.low
    have G11:CG h11:=by
      have hu:Upd (fun _=>False) h0 h11:=S10.low.trans U11 fun i hi hs=>(lo i hi hs)
      exact G.ext hu
    refine st_loadN ((R5.upd U510 fun h=>h).upd U11 id65) rfl ⟨rfl, ?_⟩
    refine G11.seq.loadN rfl ⟨rfl,G11.set.loadN rfl ⟨rfl, ?_⟩⟩
    refine st_fld (st_store R11 rfl (by simp) hv'.1 hv'.2.1 hv'.2.2 fun h12 hl12 U12 R12=>?_)
    refine nxt v' h12 ?_
    have S12:=fin h12 hl12 U12 R12
    rw [htk,List.flatMap_append]
    simp only [List.flatMap_cons,List.flatMap_nil,List.append_nil,if_pos e]
    rw [List.append_assoc] at S12
    exact S12
theorem kidsOf_len (part:List UInt8):(kidsOf part).length≤4:=by
  have:∀ l:List (List UInt8 × List UInt8),(l.flatMap fun x=>if x.1=(cutS part 61).1 then [kidOf x.2 (cutS part 61).2.1] else []).length≤l.length:=by
    intro l
    induction l with
    | nil=>simp
    | cons a l ih =>
      rw [List.flatMap_cons,List.length_append,List.length_cons]
      have:(if a.1=(cutS part 61).1 then [kidOf a.2 (cutS part 61).2.1] else []).length≤1:=by split <;> simp
      omega
  exact this attrs
theorem kidsOf_short {part:List UInt8} (hp:part.length≤1000):∀ s∈kidsOf part, ∀ k∈s.kids, ∀ x∈k.kids,x.data.length≤100000:=by
  intro s hs k hk x hx
  unfold kidsOf at hs
  obtain ⟨a,ha,hs⟩:=List.mem_flatMap.1 hs
  split at hs
  · simp only [List.mem_singleton] at hs
    subst hs
    simp only [kidOf,Der.kids,List.mem_singleton] at hk
    subst hk
    simp only [Der.kids,List.mem_cons,List.not_mem_nil,or_false] at hx
    rcases hx with rfl | rfl
    · have := (attr_oid a ha).2
      simp only [Der.data]; omega
    · have h1 := plainE_len (cutS part 61).2.1
      have h2:(cutS part 61).2.1.length≤part.length:=by unfold cutS; split <;> simp
      simp only [Der.data]; omega
  · cases hs
theorem splitE_mem : ∀ (cur s : List UInt8), ∀ x ∈ splitE cur s, x.length ≤ cur.length + s.length
  | cur,[],x,hx=>by simp [splitE] at hx; subst hx; simp
  | cur, [c], x, hx => by
    unfold splitE at hx
    split at hx
    · simp at hx; rcases hx with rfl | rfl <;> simp
    · simp at hx; subst hx; simp
  | cur, c :: d :: r, x, hx => by
    unfold splitE at hx
    split at hx
    · have := splitE_mem (cur ++ [c, d]) r x hx
      simp at this ⊢; omega
    · split at hx
      · rcases List.mem_cons.1 hx with rfl | hx
        · simp
        · have := splitE_mem [] (d :: r) x hx
          simp at this ⊢; omega
      · have := splitE_mem (cur ++ [c]) (d :: r) x hx
        simp at this ⊢; omega
def NRet (h:AHeap) (Q:AV→AHeap→Prop) (r:Der × Int):Prop:=∀ h' cs,Upd (fun _=>False) h h'→DV h' (fun i=>h.length≤i) r.1 cs→Q (.tu [.ag cs,.i .i64 r.2]) h'
theorem nameOf_end {h0 hb hx:AHeap} {id0 id1:Nat} {v:AV} {ks:List Der} (S:NSt h0 hb hx id0 id1 v ks) {bad:Bool} (hq:NRet h0 Q (if bad=true then (Der.zero,5) else (outOf ks,0))) :
    Y8.p3 (kRet h0 Q) (.p (some ⟨id0,5,0⟩)) (.p (some ⟨id1,5,0⟩)) bad hx:=by
  refine Y8.i3 ?_
  simp only [Y8.t3]
  have hid0:=S.n0
  cases bad with
  | true =>
    refine bif_t rfl ?_
    refine st_storeN S.r0 rfl rfl rfl fun h1 hl1 U1 R1=>st_loadN R1 rfl ?_
    exact .inl (hq h1 z5 (S.low.trans U1 fun i hi e=>by omega) (DV.zero _ _))
  | false =>
    refine bif_f rfl (st_loadN S.r1 rfl ?_)
    have V:=S.val
    refine st_storeN S.r0 rfl rfl V.cells' fun h1 hl1 U1 R1=>st_loadN R1 rfl ?_
    refine .inl (hq h1 _ (S.low.trans U1 fun i hi e=>by omega) ?_)
    have S1:DV h1 (fun i=>h0.length≤i) (outOf ks) [.i .i64 0,.i .i64 16,.b true,.s [],v]:=by
      obtain ⟨rows,A,D⟩:=S.arr
      have hl0:=S.l0
      have hb0:=S.ub.1
      have A1:=A.upd U1 fun i hi e=>by have:=S.new i hi; omega
      exact .mk (D.upd U1 fun i hi _=>⟨by omega,by omega⟩) (.inl A1.rd) (fun i hi=>⟨by have:=S.new i hi; omega,A1.rd.lt hi⟩) (Arr.cell A).2.2
    exact S1
theorem nameOf_p0 {h0 hb : AHeap} (G : CG h0) {id0 id1 : Nat} {s : List UInt8} (hs : s.length ≤ 512) {x26 : AV} (P26 : Rd 1 hb x26 ((splitE [] s).map .s) (splitE [] s).length) (hid1 : ¬ SlAt x26 id1) (hne : s ≠ [])
    (hq:NRet h0 Q (nameOfS s)) :
    ∀ (r:List (List UInt8)) (i:Nat) (v:AV) (hx:AHeap),(splitE [] s).drop i=r→i≤(splitE [] s).length→NSt h0 hb hx id0 id1 v (((splitE [] s).take i).flatMap kidsOf) →
    Y8.p0 (kRet h0 Q) s (.p (some ⟨id0,5,0⟩)) (.p (some ⟨id1,5,0⟩)) x26 ((splitE [] s).length:Int) (i:Int) hx:=by
  have hpl:=splitE_len [] s
  have hpm:=splitE_mem [] s
  have fl:∀ l:List (List UInt8),(l.flatMap kidsOf).length≤4 * l.length:=by
    intro l
    induction l with
    | nil=>simp
    | cons a l ih =>
      have:=kidsOf_len a
      rw [List.flatMap_cons,List.length_append,List.length_cons]; omega
  intro r
  induction r with
  | nil =>
    intro i v hx hr hi S
    have hle:=drop_end hr
    refine Y8.i0 ?_
    simp only [Y8.t0,Y8.j3]
    refine bif_f (decide_eq_false (by omega)) ?_
    rw [List.take_of_length_le hle] at S
    have hsh:shortN (outOf ((splitE [] s).flatMap kidsOf)):=by
      refine ⟨?_,fun t ht k hk x hx=>?_⟩
      · have := fl (splitE [] s)
        show ((splitE [] s).flatMap kidsOf).length≤4000
        omega
      · have ht : t ∈ (splitE [] s).flatMap kidsOf := ht
        obtain ⟨part,hp,ht⟩:=List.mem_flatMap.1 ht
        exact kidsOf_short (by have:=hpm part hp; simp at this; omega) t ht k hk x hx
    refine st_loadN S.r1 rfl ?_
    refine name_c (G.ext S.low) S.val hsh ?_
    have hnf:nameOfS s=if nameS (outOf ((splitE [] s).flatMap kidsOf))=some s then (outOf ((splitE [] s).flatMap kidsOf),0) else (.zero,5):=by
      unfold nameOfS
      rw [if_neg (by omega),if_neg hne]
    rw [hnf] at hq
    cases hN:nameS (outOf ((splitE [] s).flatMap kidsOf)) with
    | none =>
      rw [hN,if_neg (by simp)] at hq
      simp only [nameR]
      refine st_ext0 (st_asS (st_ext1 (st_asI (bif_t rfl ?_))))
      exact nameOf_end S (bad:=true) (by rw [if_pos rfl]; exact hq)
    | some t =>
      rw [hN] at hq
      simp only [nameR]
      refine st_ext0 (st_asS (st_ext1 (st_asI (bif_f rfl ?_))))
      refine nameOf_end S ?_
      by_cases hts:t=s
      · subst hts
        rw [if_pos rfl] at hq
        rw [if_neg (by simp)]; exact hq
      · rw [if_neg (by simpa using hts)] at hq
        rw [if_pos (by simpa using hts)]; exact hq
  | cons part r ih =>
    intro i v hx hr hi S
    have hlt:=drop_lt hr
    have hnx:=drop_next hr
    have hpi:=at_of_drop hr
    have hpp:=hpm part (List.mem_of_getElem? hpi)
    simp only [List.length_nil,Nat.zero_add] at hpp
    have htk:=take_snoc hpi
    refine Y8.i0 ?_
    simp only [Y8.t0,Y8.j1]
    refine bif_t (decide_eq_true (by omega)) ?_
    have P1:=P26.upd S.upd fun j hj e=>hid1 (e ▸ hj)
    refine P1.cell (by decide) hlt (by rw [Nat.mul_one,List.getElem?_map,hpi] <;> rfl) (st_asS ?_)
    refine cut_c (by omega) ?_
    refine st_ext0 (st_asS (st_ext1 (st_asS (st_ext2 (st_asB ?_)))))
    obtain ⟨va,g1,g2⟩:=G.att
    refine (g1.upd S.low fun h=>h).load1 ((g2.ext S.low).len ?_)
    have hk0:=fl ((splitE [] s).take i)
    have htl:(cutS part 61).2.1.length≤part.length:=by unfold cutS; split <;> simp
    have htk2:((splitE [] s).take i).length≤(splitE [] s).length:=by rw [List.length_take]; omega
    refine nameOf_p1 (ks0:=((splitE [] s).take i).flatMap kidsOf) G g1 g2 (by omega) (by omega) (fun v' h' S'=>?_) 4 0 v hx rfl (by simpa using S)
    refine inc (by omega) (ih (i+1) v' h' hnx (by omega) ?_)
    rw [htk,List.flatMap_append]
    simpa [kidsOf] using S'
theorem nameOf_c {s:List UInt8} (G:CG h) (hs:s.length≤9223372036854775807) (hq:NRet h Q (nameOfS s)):C Y8.id [.s s] h Q:=by
  refine Y8.call ?_
  simp only [Y8.t,Y8.j0]
  refine st_alloc fun h1 hl1 U1 R1=>?_
  refine bif_both (fun e=>?_) fun e=>?_
  · have e : 512 < s.length := by have := of_decide_eq_true e; omega
    refine st_storeN R1 rfl rfl rfl fun h2 hl2 U2 R2=>st_loadN R2 rfl (.inl ?_)
    unfold nameOfS at hq
    rw [if_pos e] at hq
    exact hq h2 z5 (U1.trans U2 fun i hi e=>by omega) (DV.zero _ _)
  · have e : s.length ≤ 512 := by have := of_decide_eq_false e; omega
    refine (G.ext U1).seq.loadN rfl ?_
    refine shapeOf_c ⟨none,0,none,rfl⟩ fun h2 U2=>?_
    have U02:=U1.trans U2 fun _ _ h=>h
    refine st_alloc fun h3 hl3 U3 R3=>?_
    refine st_storeN R3 rfl rfl rfl fun h4 hl4 U4 R4=>?_
    have U24:Upd (fun _=>False) h2 h4:=U3.trans U4 fun i hi e=>by omega
    have U04:=U02.trans U24 fun _ _ h=>h
    have hh1:=U2.1
    refine bif_both (fun e2=>?_) fun e2=>?_
    · have e2 := of_decide_eq_true e2
      unfold nameOfS at hq
      rw [if_neg (by omega),if_pos e2] at hq
      refine st_loadN R4 rfl ?_
      refine st_storeN ((R1.upd U2 fun h=>h).upd U24 fun h=>h) rfl rfl rfl fun h5 hl5 U5 R5=>st_loadN R5 rfl (.inl ?_)
      exact hq h5 _ (U04.trans U5 fun i hi e=>by omega) (DV.leaf _ _ _ _ _ _)
    · have e2 := of_decide_eq_false e2
      refine csplit_c (by omega) fun v h5 N5=>?_
      have hrd:=N5.stk.rd
      rw [List.length_map] at hrd
      refine hrd.len ?_
      have hlt:h2.length<h4.length:=by omega
      have U45:=N5.upd
      refine nameOf_p0 (hb:=h5) G e hrd (fun hi=>by have:=N5.new _ hi; omega) e2 hq (splitE [] s) 0 _ h5 rfl (by omega) ⟨U04.trans U45 fun _ _ h=>h,Upd.refl _ _,Nat.le_refl _,by omega,by have:=U45.1; omega,by have:=U45.1; omega,by omega,((R1.upd U2 fun h=>h).upd U24 fun h=>h).upd U45 fun h=>h,R4.upd U45 fun h=>h,⟨[],Arr.nil _ _,.nil⟩,fun i hi=>hi.elim⟩
def commonK:List (List UInt8)→List UInt8
  | []=>[]
  | p :: r=>if hasPre p [67,78,61]=true then plainE (p.drop 3) else commonK r
def commonS (s:List UInt8):List UInt8:=if (nameOfS s).2=0 then commonK (splitE [] s) else []
theorem common_c {s : List UInt8} (G : CG h) (hs : s.length ≤ 9223372036854775807) (hq : Q (.s (commonS s)) h) : C Y33.id [.s s] h Q := by
  refine Y33.call ?_
  simp only [Y33.t,Y33.j0]
  refine nameOf_c G hs fun h1 cs U1 D1=>?_
  refine st_ext0 (st_ext1 (st_asI ?_))
  refine st_alloc fun h2 hl2 U2 R2=>?_
  refine st_storeN R2 rfl D1.len D1.cells' fun h3 hl3 U3 R3=>?_
  have U03:Upd (fun _=>False) h h3:=(U1.trans U2 fun _ _ h=>h).trans U3 fun i hi e=>by have:=U1.1; omega
  unfold commonS at hq
  refine bif_both (fun e=>?_) fun e=>?_
  · have e : (nameOfS s).2 ≠ 0 := by simpa using e
    rw [if_neg e] at hq
    exact kRet_pure rfl U03.ext hq
  · have e : (nameOfS s).2 = 0 := by simpa using e
    rw [if_pos e] at hq
    have hs5:s.length≤512:=by
      apply Classical.byContradiction
      intro hh
      unfold nameOfS at e
      rw [if_pos (by omega)] at e
      cases e
    refine csplit_c (by omega) fun v h4 N4=>?_
    have hrd:=N4.stk.rd
    rw [List.length_map] at hrd
    refine hrd.len ?_
    have hpm:=splitE_mem [] s
    have U04:=U03.trans N4.upd fun _ _ h=>h
    have go:∀ (r:List (List UInt8)) (i:Nat),(splitE [] s).drop i=r→i≤(splitE [] s).length→Q (.s (commonK r)) h→Y33.p0 (kRet h Q) v ((splitE [] s).length:Int) (i:Int) h4:=by
      have hpl:=splitE_len [] s
      intro r
      induction r with
      | nil =>
        intro i hr hi hq
        have:=drop_end hr
        refine Y33.i0 ?_
        simp only [Y33.t0]
        exact bif_f (decide_eq_false (by omega)) (kRet_pure rfl U04.ext hq)
      | cons p r ih =>
        intro i hr hi hq
        have hlt:=drop_lt hr
        have hpi:=at_of_drop hr
        have hpp:=hpm p (List.mem_of_getElem? hpi)
        simp only [List.length_nil,Nat.zero_add] at hpp
        refine Y33.i0 ?_
        simp only [Y33.t0,Y33.j0]
        refine bif_t (decide_eq_true (by omega)) ?_
        refine hrd.cell (by decide) hlt (by rw [Nat.mul_one,List.getElem?_map,hpi] <;> rfl) (st_asS ?_)
        refine cutPrefix_c (by omega) ?_
        refine st_ext0 (st_asS (st_ext1 (st_asB ?_)))
        unfold commonK at hq
        refine bif_both (fun e=>?_) fun e=>?_
        · rw [if_pos e] at hq
          rw [if_pos e]
          exact cplain_c (by simp; omega) (st_asS (kRet_pure rfl U04.ext hq))
        · rw [if_neg (by rw [e]; simp)] at hq
          exact inc (by omega) (ih (i+1) (drop_next hr) (by omega) hq)
    exact go _ 0 rfl (by omega) hq
end
end Go.Proofs.YtcdkpkkdolmfdaaGreatDoor
namespace Go.Proofs.YtcdkpkkdolmfdaaGreatDoor
open Go.GAM Go.RowKit
section
variable {h:AHeap} {Q:AV→AHeap→Prop}
def attB (t:List UInt8):Bool:=decide (t=[67,78])||(decide (t=[79])||(decide (t=[79,85])||decide (t=[67])))
end
end Go.Proofs.YtcdkpkkdolmfdaaGreatDoor
namespace Go.Proofs.YtcdkpkkdolmfdaaGreatDoor
open Go.GAM Go.RowKit
section
variable {h:AHeap} {Q:AV→AHeap→Prop}
end
end Go.Proofs.YtcdkpkkdolmfdaaGreatDoor
namespace Go.Proofs.YtcdkpkkdolmfdaaGreatDoor
open Go.GAM Go.RowKit
abbrev Att:=List UInt8 × List UInt8
def badC (c:UInt8):Bool:=decide (c=61) || !textB c
def scanV:List UInt8→Option (List UInt8 × List UInt8)
  | []=>some ([],[])
  | [c]=>if c=44 then some ([],[c]) else if badC c=true∨c=92 then none else some ([c],[])
  | c :: d :: r => if c = 44 then some ([], c :: d :: r) else if badC c = true then none else
      if c=92 then (if d∈sps then (scanV r).map fun p=>(d :: p.1,p.2) else none) else (scanV (d :: r)).map fun p=>(c :: p.1,p.2)
def scanA : Nat → List UInt8 → Option (List Att)
  | 0,_=>none
  | n + 1, s => if attB (s.takeWhile (· ≠ 61)) = false ∨ s.dropWhile (· ≠ 61) = [] then none else match scanV ((s.dropWhile (· ≠ 61)).drop 1) with
    | none=>none
    | some (v,[])=>some [(s.takeWhile (· ≠ 61),v)]
    | some (v,_ :: r)=>(scanA n r).map ((s.takeWhile (· ≠ 61),v) :: ·)
def attrsS (s:List UInt8):Option (List Att):=if s=[] then some [] else scanA (s.length+1) s
def rend1 (a:Att):List UInt8:=(a.1++[61])++escS sps a.2
def okA (a:Att):Prop:=attB a.1=true∧a.2.all textB=true
def rendJ (l:List Att):List UInt8:=Lib.join (l.map rend1) [44]
theorem rendJ_one (a:Att):rendJ [a]=rend1 a:=by unfold rendJ; simp [Lib.join_cons,Lib.joinTail]
theorem rendJ_cons (a b:Att) (l:List Att):rendJ (a :: b :: l)=rend1 a++44 :: rendJ (b :: l):=by
  unfold rendJ; simp [Lib.join_cons,Lib.joinTail]
theorem sps_text {c:UInt8} (h:c∈sps):textB c=true:=by
  simp only [sps,List.mem_cons,List.not_mem_nil,or_false] at h
  rcases h with rfl | rfl | rfl <;> rfl
theorem sps_mem {c:UInt8}:c∈sps↔c=92∨c=44∨c=61:=by simp [sps]
theorem escS_cons (c:UInt8) (v:List UInt8):escS sps (c :: v)=(if c∈sps then [92,c] else [c])++escS sps v:=rfl
theorem scanV_good (c:UInt8) (X:List UInt8) (h:c ∉ sps) (ht:textB c=true):scanV (c :: X)=(scanV X).map fun p=>(c :: p.1,p.2):=by
  rw [sps_mem] at h
  have h1:c≠92:=fun e=>h (.inl e)
  have h2:c≠44:=fun e=>h (.inr (.inl e))
  have h3:c≠61:=fun e=>h (.inr (.inr e))
  have hb:badC c=false:=by unfold badC; rw [decide_eq_false h3,ht] <;> rfl
  cases X with
  | nil=>unfold scanV; rw [if_neg h2,if_neg (by rw [hb]; simp [h1])] <;> rfl
  | cons d r=>rw [scanV,if_neg h2,if_neg (by rw [hb]; simp),if_neg h1]
theorem scanV_esc (c:UInt8) (X:List UInt8) (h:c∈sps):scanV (92 :: c :: X)=(scanV X).map fun p=>(c :: p.1,p.2):=by
  rw [scanV,if_neg (by decide),if_neg (by decide),if_pos rfl,if_pos h]
theorem scanV_rend:∀ (v r:List UInt8),v.all textB=true→(r=[]∨∃ r',r=44 :: r')→scanV (escS sps v++r)=some (v,r)
  | [], r, _, hr => by
    rcases hr with rfl | ⟨r',rfl⟩
    · rfl
    · cases r' <;> rfl
  | c :: v, r, hv, hr => by
    simp only [List.all_cons,Bool.and_eq_true] at hv
    rw [escS_cons]
    by_cases h:c∈sps
    · rw [if_pos h]
      show scanV (92 :: c :: (escS sps v++r))=_
      rw [scanV_esc c _ h,scanV_rend v r hv.2 hr] <;> rfl
    · rw [if_neg h]
      show scanV (c :: (escS sps v++r))=_
      rw [scanV_good c _ h hv.1,scanV_rend v r hv.2 hr] <;> rfl
theorem scanV_is : ∀ (s : List UInt8) (v r : List UInt8), scanV s = some (v, r) → s = escS sps v ++ r ∧ v.all textB = true ∧ (r = [] ∨ ∃ r', r = 44 :: r')
  | [], v, r, h => by
    unfold scanV at h; cases h
    exact ⟨rfl,rfl,.inl rfl⟩
  | [c], v, r, h => by
    unfold scanV at h
    split at h
    · rename_i e; subst e; cases h
      exact ⟨rfl,rfl,.inr ⟨[],rfl⟩⟩
    · rename_i e
      split at h
      · cases h
      · rename_i e2
        cases h
        have hb:¬ badC c=true:=fun e=>e2 (.inl e)
        have h92:c≠92:=fun e=>e2 (.inr e)
        unfold badC at hb
        simp only [Bool.or_eq_true,decide_eq_true_eq,Bool.not_eq_true',not_or] at hb
        have ht:textB c=true:=by simpa using hb.2
        have hs:c ∉ sps:=fun h=>by
          rcases sps_mem.1 h with h | h | h
          · exact h92 h
          · exact e h
          · exact hb.1 h
        refine ⟨?_,by simp [ht],.inl rfl⟩
        rw [escS_cons,if_neg hs] <;> rfl
  | c :: d :: r0, v, r, h => by
    rw [scanV] at h
    split at h
    · rename_i e; subst e; cases h
      exact ⟨rfl,rfl,.inr ⟨_,rfl⟩⟩
    · rename_i e
      split at h
      · cases h
      · rename_i hb
        unfold badC at hb
        simp only [Bool.or_eq_true,decide_eq_true_eq,Bool.not_eq_true',not_or] at hb
        have ht:textB c=true:=by simpa using hb.2
        split at h
        · rename_i e92
          subst e92
          split at h
          · rename_i hd
            cases hs:scanV r0 with
            | none=>rw [hs] at h; cases h
            | some p =>
              obtain ⟨v',r'⟩:=p
              rw [hs] at h; cases h
              obtain ⟨h1,h2,h3⟩:=scanV_is r0 v' r' hs
              refine ⟨?_,by simp [h2,sps_text hd],h3⟩
              rw [escS_cons,if_pos hd]
              show 92 :: d :: r0=92 :: d :: (escS sps v'++r')
              rw [h1]
          · cases h
        · rename_i h92
          cases hs:scanV (d :: r0) with
          | none=>rw [hs] at h; cases h
          | some p =>
            obtain ⟨v',r'⟩:=p
            rw [hs] at h; cases h
            obtain ⟨h1,h2,h3⟩:=scanV_is (d :: r0) v' r' hs
            have hns:c ∉ sps:=fun h=>by
              rcases sps_mem.1 h with h | h | h
              · exact h92 h
              · exact e h
              · exact hb.1 h
            refine ⟨?_,by simp [h2,ht],h3⟩
            rw [escS_cons,if_neg hns]
            show c :: d :: r0=c :: (escS sps v'++r')
            rw [h1]
theorem attB_cases {t:List UInt8} (h:attB t=true):t=[67,78]∨t=[79]∨t=[79,85]∨t=[67]:=by
  unfold attB at h
  simp only [Bool.or_eq_true,decide_eq_true_eq] at h
  exact h
theorem att_take {t X:List UInt8} (h:attB t=true):(t++61 :: X).takeWhile (· ≠ 61)=t∧(t++61 :: X).dropWhile (· ≠ 61)=61 :: X:=by
  rcases attB_cases h with rfl | rfl | rfl | rfl <;> exact ⟨by simp [List.takeWhile],by simp [List.dropWhile]⟩
theorem scanA_is : ∀ (n : Nat) (s : List UInt8) (l : List Att), scanA n s = some l → s = rendJ l ∧ (∀ a ∈ l, okA a) ∧ l ≠ []
  | 0,s,l,h=>by cases h
  | n + 1, s, l, h => by
    unfold scanA at h
    split at h
    · cases h
    · rename_i e
      rw [not_or] at e
      obtain ⟨e1,e2⟩:=e
      have e1:attB (s.takeWhile (· ≠ 61))=true:=by simpa using e1
      have hs:s.takeWhile (· ≠ 61)++s.dropWhile (· ≠ 61)=s:=List.takeWhile_append_dropWhile
      obtain ⟨c,X,hX⟩:∃ c X,s.dropWhile (· ≠ 61)=c :: X:=by
        cases hd:s.dropWhile (· ≠ 61) with
        | nil=>exact absurd hd e2
        | cons c X=>exact ⟨c,X,rfl⟩
      have hc:c=61:=by
        have:=List.head?_dropWhile_not (fun x:UInt8=>decide (x≠61)) s
        rw [hX] at this
        simpa using this
      subst hc
      generalize ht:s.takeWhile (· ≠ 61)=t at *
      rw [hX] at h hs
      have one:∀ v:List UInt8,rend1 (t,v)=t++61 :: escS sps v:=fun v=>by simp [rend1]
      split at h
      · cases h
      · rename_i v hv
        cases h
        obtain ⟨h1,h2,h3⟩:=scanV_is _ _ _ hv
        refine ⟨?_,fun a ha=>by cases List.mem_singleton.1 ha; exact ⟨e1,h2⟩,by simp⟩
        rw [rendJ_one,one, ← hs]
        have h1:X=escS sps v++[]:=h1
        rw [h1,List.append_nil]
      · rename_i v c r hv
        obtain ⟨h1,h2,h3⟩:=scanV_is _ _ _ hv
        have h3:c=44:=by rcases h3 with h | ⟨r',h⟩ <;> cases h; rfl
        subst h3
        cases hr:scanA n r with
        | none=>rw [hr] at h; cases h
        | some l' =>
          rw [hr] at h; cases h
          obtain ⟨g1,g2,g3⟩:=scanA_is n r l' hr
          refine ⟨?_,fun a ha=>?_,by simp⟩
          · cases l' with
            | nil=>exact absurd rfl g3
            | cons b l' =>
              rw [rendJ_cons,one, ← g1, ← hs]
              have h1:X=escS sps v++44 :: r:=h1
              rw [h1,List.append_assoc] <;> rfl
          · rcases List.mem_cons.1 ha with rfl | ha
            · exact ⟨e1,h2⟩
            · exact g2 a ha
theorem scanA_rend:∀ (l:List Att) (n:Nat),(∀ a∈l,okA a)→l≠[]→l.length≤n→scanA n (rendJ l)=some l
  | [],n,_,h,_=>absurd rfl h
  | [a], n, ha, _, hn => by
    obtain ⟨n,rfl⟩:∃ m,n=m+1:=⟨n - 1,by simp at hn; omega⟩
    obtain ⟨h1,h2⟩:=ha a (by simp)
    have hv:=scanV_rend a.2 [] h2 (.inl rfl)
    rw [List.append_nil] at hv
    rw [rendJ_one,show rend1 a=a.1++61 :: escS sps a.2 by simp [rend1]]
    unfold scanA
    rw [(att_take h1).1,(att_take h1).2,if_neg (by rw [h1]; simp)]
    show (match scanV (escS sps a.2) with
      | none=>none
      | some (v,[])=>some [(a.1,v)]
      | some (v,_ :: r)=>(scanA n r).map ((a.1,v) :: ·))=_
    rw [hv]
  | a :: b :: l, n, ha, _, hn => by
    obtain ⟨n,rfl⟩:∃ m,n=m+1:=⟨n - 1,by simp at hn; omega⟩
    obtain ⟨h1,h2⟩:=ha a (by simp)
    have ih:=scanA_rend (b :: l) n (fun x hx=>ha x (by simp [List.mem_cons.1 hx])) (by simp) (by simp at hn ⊢; omega)
    have hv:=scanV_rend a.2 (44 :: rendJ (b :: l)) h2 (.inr ⟨_,rfl⟩)
    rw [rendJ_cons,show rend1 a++44 :: rendJ (b :: l)=a.1++61 :: (escS sps a.2++44 :: rendJ (b :: l)) by simp [rend1]]
    unfold scanA
    rw [(att_take h1).1,(att_take h1).2,if_neg (by rw [h1]; simp)]
    show (match scanV (escS sps a.2++44 :: rendJ (b :: l)) with
      | none=>none
      | some (v,[])=>some [(a.1,v)]
      | some (v,_ :: r)=>(scanA n r).map ((a.1,v) :: ·))=_
    rw [hv]
    show (scanA n (rendJ (b :: l))).map ((a.1,a.2) :: ·)=_
    rw [ih] <;> rfl
theorem splitE_plain (c:UInt8) (cur X:List UInt8) (h1:c≠92) (h2:c≠44):splitE cur (c :: X)=splitE (cur++[c]) X:=by
  cases X with
  | nil=>unfold splitE; rw [if_neg h2]
  | cons d r => conv => lhs; unfold splitE
                rw [if_neg h1,if_neg h2]
theorem splitE_esc (c:UInt8) (cur X:List UInt8):splitE cur (92 :: c :: X)=splitE (cur++[92,c]) X:=by
  conv=>lhs; unfold splitE
  rw [if_pos rfl]
theorem splitE_comma (cur X:List UInt8):splitE cur (44 :: X)=cur :: splitE [] X:=by
  cases X with
  | nil=>rfl
  | cons d r => conv => lhs; unfold splitE
                rw [if_neg (by decide),if_pos rfl]
theorem splitE_val:∀ (v cur X:List UInt8),splitE cur (escS sps v++X)=splitE (cur++escS sps v) X
  | [],cur,X=>by simp [escS_nil]
  | c :: v, cur, X => by
    rw [escS_cons]
    by_cases h:c∈sps
    · rw [if_pos h]
      show splitE cur (92 :: c :: (escS sps v++X))=_
      rw [splitE_esc,splitE_val v,List.append_assoc]
    · rw [if_neg h]
      show splitE cur (c :: (escS sps v++X))=_
      rw [sps_mem,not_or,not_or] at h
      rw [splitE_plain c _ _ h.1 h.2.1,splitE_val v,List.append_assoc]
theorem splitE_one {a:Att} (h:attB a.1=true) (X:List UInt8):splitE [] (rend1 a++X)=splitE (rend1 a) X:=by
  obtain ⟨t,v⟩:=a
  show splitE [] (((t++[61])++escS sps v)++X)=splitE ((t++[61])++escS sps v) X
  rcases attB_cases h with rfl | rfl | rfl | rfl
  · show splitE [] (67 :: 78 :: 61 :: (escS sps v ++ X)) = _
    rw [splitE_plain _ _ _ (by decide) (by decide),splitE_plain _ _ _ (by decide) (by decide),splitE_plain _ _ _ (by decide) (by decide),splitE_val] <;> rfl
  · show splitE [] (79 :: 61 :: (escS sps v ++ X)) = _
    rw [splitE_plain _ _ _ (by decide) (by decide),splitE_plain _ _ _ (by decide) (by decide),splitE_val] <;> rfl
  · show splitE [] (79 :: 85 :: 61 :: (escS sps v ++ X)) = _
    rw [splitE_plain _ _ _ (by decide) (by decide),splitE_plain _ _ _ (by decide) (by decide),splitE_plain _ _ _ (by decide) (by decide),splitE_val] <;> rfl
  · show splitE [] (67 :: 61 :: (escS sps v ++ X)) = _
    rw [splitE_plain _ _ _ (by decide) (by decide),splitE_plain _ _ _ (by decide) (by decide),splitE_val] <;> rfl
theorem splitE_rend:∀ l:List Att,(∀ a∈l,okA a)→l≠[]→splitE [] (rendJ l)=l.map rend1
  | [],_,h=>absurd rfl h
  | [a], ha, _ => by
    have:=splitE_one (ha a (by simp)).1 []
    rw [List.append_nil] at this
    rw [rendJ_one,this] <;> rfl
  | a :: b :: l, ha, _ => by
    rw [rendJ_cons,splitE_one (ha a (by simp)).1,splitE_comma,splitE_rend (b :: l) (fun x hx=>ha x (by simp [List.mem_cons.1 hx])) (by simp)] <;> rfl
theorem plainE_esc:∀ v:List UInt8,plainE (escS sps v)=v
  | []=>rfl
  | c :: v => by
    have ih:=plainE_esc v
    rw [escS_cons]
    by_cases h:c∈sps
    · rw [if_pos h]
      show plainE (92 :: c :: escS sps v)=_
      rw [plainE,if_pos rfl,ih]
    · rw [if_neg h]
      show plainE (c :: escS sps v)=_
      rw [sps_mem,not_or] at h
      cases hX:escS sps v with
      | nil=>rw [hX] at ih; rw [← ih] <;> rfl
      | cons d r=>rw [plainE,if_neg h.1, ← hX,ih]
theorem cut_att {a:Att} (h:attB a.1=true):cutS (rend1 a) 61=(a.1,escS sps a.2,true):=by
  obtain ⟨t,v⟩:=a
  have key:Lib.indexByte (rend1 (t,v)) 61=(t.length:Int):=by
    show Lib.indexByte ((t++[61])++escS sps v) 61=_
    rcases attB_cases h with rfl | rfl | rfl | rfl <;> simp [Lib.indexByte]
  unfold cutS
  rw [key,if_pos (by omega)]
  have e:rend1 (t,v)=t++61 :: escS sps v:=by simp [rend1]
  rw [e]
  simp
def oidNm (t:List UInt8):List UInt8:=attrs.foldr (fun x n=>if x.1=t then x.2 else n) []
theorem att_mem {t:List UInt8} (h:attB t=true):(t,oidNm t)∈attrs:=by
  rcases attB_cases h with rfl | rfl | rfl | rfl <;> decide +kernel
theorem att_is {x:Att} (h:x∈attrs):attB x.1=true:=by
  simp only [attrs,List.mem_cons,List.not_mem_nil,or_false] at h
  rcases h with rfl | rfl | rfl | rfl <;> rfl
theorem att_oid {x:Att} (h:x∈attrs):(oidS (.mk 0 6 false (oidDat x.2) [])).2=true∧attrOf (oidS (.mk 0 6 false (oidDat x.2) [])).1=x.1:=by
  simp only [attrs,List.mem_cons,List.not_mem_nil,or_false] at h
  rcases h with rfl | rfl | rfl | rfl <;> exact ⟨by kernel_rfl,by kernel_rfl⟩
theorem kids_at:∀ t:List UInt8,attB t=true→∀ X,(attrs.flatMap fun x=>if x.1=t then [kidOf x.2 X] else [])=[kidOf (oidNm t) X]:=by
  intro t ht X
  rcases attB_cases ht with rfl | rfl | rfl | rfl <;> rfl
theorem kids_rend {a:Att} (h:attB a.1=true):kidsOf (rend1 a)=[kidOf (oidNm a.1) (escS sps a.2)]:=by
  unfold kidsOf
  rw [cut_att h]
  exact kids_at a.1 h _
theorem set_kid {x:Att} (h:x∈attrs) (X:List UInt8):setS (kidOf x.2 X)=if (plainE X).all textB=true then some (rend1 (x.1,plainE X)) else none:=by
  obtain ⟨h1,h2⟩:=att_oid h
  show pairS (.mk 0 6 false (oidDat x.2) []) (.mk 0 12 false (plainE X) [])=_
  unfold pairS
  rw [h1,h2]
  have hd:dtxtS (.mk 0 12 false (plainE X) [])=if (plainE X).all textB=true then (plainE X,true) else ([],false):=by
    unfold dtxtS
    show (if (true||_)=true∧(plainE X).all textB=true then _ else _)=_
    rw [Bool.true_or]
    simp only [true_and]
    rfl
  rw [hd]
  have hne:x.1≠[]:=by
    simp only [attrs,List.mem_cons,List.not_mem_nil,or_false] at h
    rcases h with rfl | rfl | rfl | rfl <;> decide
  split
  · rw [if_pos ⟨rfl,rfl,hne⟩] <;> rfl
  · rw [if_neg (by rintro ⟨_,h,_⟩; cases h)]
theorem nameK_rend:∀ l:List Att,(∀ a∈l,okA a)→nameK ((l.map rend1).flatMap kidsOf)=some (l.map rend1)
  | [],_=>rfl
  | a :: l, ha => by
    have ih:=nameK_rend l fun x hx=>ha x (by simp [hx])
    obtain ⟨h1,h2⟩:=ha a (by simp)
    rw [List.map_cons,List.flatMap_cons,kids_rend h1]
    show nameK (kidOf (oidNm a.1) (escS sps a.2) :: (l.map rend1).flatMap kidsOf)=_
    unfold nameK
    have:=set_kid (att_mem h1) (escS sps a.2)
    rw [plainE_esc,if_pos h2] at this
    rw [show setS (kidOf (oidNm a.1) (escS sps a.2))=some (rend1 a) from this,ih]
theorem nameS_rend {l:List Att} (h:∀ a∈l,okA a):nameS (outOf ((l.map rend1).flatMap kidsOf))=some (rendJ l):=by
  unfold nameS
  show (if true=true then (nameK ((l.map rend1).flatMap kidsOf)).map (fun l=>Lib.join l [44]) else none)=_
  rw [if_pos rfl,nameK_rend l h] <;> rfl
theorem nameK_is : ∀ (ks : List Der) (xs : List (List UInt8)), nameK ks = some xs → (∀ k ∈ ks, ∃ x X, x ∈ attrs ∧ k = kidOf x.2 X) → ∃ l : List Att, xs = l.map rend1 ∧ ∀ a ∈ l, okA a
  | [],xs,h,_=>by unfold nameK at h; cases h; exact ⟨[],rfl,by simp⟩
  | k :: ks, xs, h, hk => by
    obtain ⟨x,X,hx,rfl⟩:=hk k (by simp)
    unfold nameK at h
    rw [set_kid hx] at h
    split at h
    · cases h
    · rename_i y hy
      split at hy
      · rename_i ht
        cases hy
        split at h
        · cases h
        · rename_i l' hl'
          cases h
          obtain ⟨l,rfl,hl⟩:=nameK_is ks l' hl' fun k hk'=>hk k (by simp [hk'])
          refine ⟨(x.1,plainE X) :: l,rfl,fun a ha=>?_⟩
          rcases List.mem_cons.1 ha with rfl | ha
          · exact ⟨att_is (x:=x) hx,ht⟩
          · exact hl a ha
      · cases hy
theorem names_are {s : List UInt8} (hne : s ≠ []) (hl : s.length ≤ 512) : (∃ l, scanA (s.length + 1) s = some l ∧ s = rendJ l ∧ (∀ a ∈ l, okA a) ∧ l ≠ [] ∧ (nameOfS s).2 = 0) ∨ (scanA (s.length + 1) s = none ∧ (nameOfS s).2 = 5) := by
  cases hs:scanA (s.length+1) s with
  | some l =>
    obtain ⟨h1,h2,h3⟩:=scanA_is _ _ _ hs
    refine .inl ⟨l,rfl,h1,h2,h3, ?_⟩
    unfold nameOfS
    rw [if_neg (by omega),if_neg hne,if_pos (by rw [h1,splitE_rend l h2 h3]; exact nameS_rend h2)]
  | none =>
    refine .inr ⟨rfl, ?_⟩
    unfold nameOfS
    rw [if_neg (by omega),if_neg hne]
    split
    · rename_i h
      exfalso
      unfold nameS at h
      have h:((nameK ((splitE [] s).flatMap kidsOf)).map fun l=>Lib.join l [44])=some s:=h
      cases hk:nameK ((splitE [] s).flatMap kidsOf) with
      | none=>rw [hk] at h; cases h
      | some xs =>
        rw [hk] at h
        have h:Lib.join xs [44]=s:=Option.some.inj h
        obtain ⟨l,rfl,hl'⟩:=nameK_is _ _ hk fun k hk'=>by
          obtain ⟨p,hp,hp2⟩:=List.mem_flatMap.1 hk'
          unfold kidsOf at hp2
          obtain ⟨x,hx,hx2⟩:=List.mem_flatMap.1 hp2
          split at hx2
          · exact ⟨x,_,hx,List.mem_singleton.1 hx2⟩
          · cases hx2
        have hl0:l≠[]:=by
          rintro rfl
          exact hne (by rw [← h]; exact Lib.join_nil _)
        have h:rendJ l=s:=h
        have hlen:l.length≤s.length+1:=by
          have:=splitE_len [] s
          rw [← h,splitE_rend l hl' hl0] at this
          rw [← h]; simpa using this
        have:=scanA_rend l (s.length+1) hl' hl0 hlen
        rw [h,hs] at this
        cases this
    · rfl
end Go.Proofs.YtcdkpkkdolmfdaaGreatDoor
namespace Go.Proofs.YtcdkpkkdolmfdaaGreatDoor
open Go.GAM Go.RowKit
section
variable {h0:AHeap} {Q:AV→AHeap→Prop} {s:List UInt8} {x4:AV} {done:List Att} {t:List UInt8} {h:AHeap}
end
end Go.Proofs.YtcdkpkkdolmfdaaGreatDoor
namespace Go.GAM
theorem q_fld {id ver off o:Nat} {K:AV→Prop}:pFieldAddr o (.p (some ⟨id,ver,off⟩)) K=K (.p (some ⟨id,ver,off+o⟩)):=rfl
theorem q_asS {l:List UInt8} {K:List UInt8→Prop}:asS (.s l) K=K l:=rfl
theorem q_asB {b:Bool} {K:Bool→Prop}:asB (.b b) K=K b:=rfl
theorem q_asI {n:Int} {K:Int→Prop}:asI .i64 (.i .i64 n) K=K n:=rfl
theorem q_same {v:AV} {A:Prop}:(v=v∧A)=A:=by simp
theorem q_ld {h:AHeap} {id n o:Nat} {cs:List AV} {v:AV} {K:AV→Prop} (R:RecAt h id cs) (hn:n=cs.length) (hc:cs[o]? = some v):pLoad1 (.p (some ⟨id,n,o⟩)) h K=K v:=by
  refine propext ⟨fun hk=>?_,fun hk=>st_load R hn hc hk⟩
  obtain ⟨b,h1,_,h2⟩:=hk
  obtain ⟨b',g1,g2,_⟩:=R
  have h1:h[id]? = some b:=h1
  rw [g1] at h1
  cases h1
  have h2:K (b.cells.getD o .u):=h2
  rw [g2,getD_some hc] at h2
  exact h2
theorem q_ldN {h:AHeap} {id n o k:Nat} {cs:List AV} {K:AV→Prop} (R:RecAt h id cs) (hn:n=cs.length) (hk:o+k≤cs.length):pLoadN k (.p (some ⟨id,n,o⟩)) h K=K (.ag ((cs.drop o).take k)):=by
  obtain ⟨b,g1,g2,g3,g4⟩:=R
  refine propext ⟨fun h'=>?_,fun h'=>⟨b,g1,⟨by rw [hn]; exact g3,by rw [hn,g2]; exact Nat.le_refl _,by rw [hn]; exact hk⟩,by rw [g2]; exact h'⟩⟩
  obtain ⟨b',h1,_,h2⟩:=h'
  have h1:h[id]? = some b':=h1
  rw [g1] at h1
  cases h1
  rw [g2] at h2
  exact h2
def ptr (v:AV) (sz i o:Nat):AV:=match v with
  | .sl (some a) _ _=>.p (some ⟨a.id,a.ver,a.off+i * sz+o⟩)
  | _=>.u
theorem q_idx {sz:Nat} {h:AHeap} {v:AV} {cs:List AV} {len:Nat} (R:RdI sz h v cs len) {k:IntKind} {n:Int} (h0:0≤n) (h1:n<len) {K:AV→Prop}:pIdxAddrSl sz v (.i k n) h K=K (ptr v sz n.toNat 0):=by
  rcases R with ⟨rfl,rfl,rfl⟩ | ⟨rfl,_⟩ | ⟨id,ver,off,cap,b,rfl,h2,h4,h5,h6,h7⟩
  · omega
  · omega
  · exact propext ⟨fun hk=>hk.2.2.2,fun hk=>⟨h0,h1,⟨b,h2,h4,by omega⟩,hk⟩⟩
theorem q_pfld {v:AV} {sz i o o':Nat} {h:AHeap} {cs:List AV} {len:Nat} (R:RdI sz h v cs len) (hi:i<len) {K:AV→Prop}:pFieldAddr o' (ptr v sz i o) K=K (ptr v sz i (o+o')):=by
  rcases R with ⟨rfl,rfl,rfl⟩ | ⟨rfl,_⟩ | ⟨id,ver,off,cap,b,rfl,h2,h4,h5,h6,h7⟩
  · omega
  · omega
  · show K _ = K _
    unfold ptr
    simp only [Nat.add_assoc]
theorem q_pld {v:AV} {sz i o:Nat} {h:AHeap} {cs:List AV} {len:Nat} {c:AV} (R:RdI sz h v cs len) (hi:i<len) (ho:o<sz) (hc:cs[i * sz+o]? = some c) {K:AV→Prop}:pLoad1 (ptr v sz i o) h K=K c:=by
  rcases R with ⟨rfl,rfl,rfl⟩ | ⟨rfl,_⟩ | ⟨id,ver,off,cap,b,rfl,h2,h4,h5,h6,h7⟩
  · omega
  · omega
  · have e1 : (i + 1) * sz ≤ len * sz := Nat.mul_le_mul_right _ (by omega)
    rw [Nat.add_mul] at e1
    have hcell:b.cells.getD (off+i * sz+o) .u=c:=by
      rw [← h7,List.getElem?_take_of_lt (by omega),List.getElem?_drop] at hc
      exact getD_some (by rw [← hc]; congr 1; omega)
    refine propext ⟨fun hk=>?_,fun hk=>⟨b,h2,⟨h4,h5,by simp only; omega⟩,by simp only; rw [hcell]; exact hk⟩⟩
    obtain ⟨b',g1,_,g2⟩:=hk
    have g1:h[id]? = some b':=g1
    rw [h2] at g1
    cases g1
    have g2:K (b.cells.getD (off+i * sz+o) .u):=g2
    rw [hcell] at g2
    exact g2
theorem q_pldN {v:AV} {sz i:Nat} {h:AHeap} {cs:List AV} {len:Nat} (R:RdI sz h v cs len) (hi:i<len) {K:AV→Prop}:pLoadN sz (ptr v sz i 0) h K=K (.ag ((cs.drop (i * sz)).take sz)):=by
  rcases R with ⟨rfl,rfl,rfl⟩ | ⟨rfl,_⟩ | ⟨id,ver,off,cap,b,rfl,h2,h4,h5,h6,h7⟩
  · omega
  · omega
  · have e1 : (i + 1) * sz ≤ len * sz := Nat.mul_le_mul_right _ (by omega)
    rw [Nat.add_mul] at e1
    have hcell:(b.cells.drop (off+i * sz)).take sz=(cs.drop (i * sz)).take sz:=by
      rw [← h7,List.drop_take,List.drop_drop,List.take_take,Nat.min_eq_left (by omega)]
    refine propext ⟨fun hk=>?_,fun hk=>⟨b,h2,⟨h4,h5,by simp only; omega⟩,by simp only [Nat.add_zero]; rw [hcell]; exact hk⟩⟩
    obtain ⟨b',g1,_,g2⟩:=hk
    have g1:h[id]? = some b':=g1
    rw [h2] at g1
    cases g1
    have g2:K (.ag ((b.cells.drop (off+i * sz+0)).take sz)):=g2
    rw [Nat.add_zero,hcell] at g2
    exact g2
theorem RdI.upd {sz:Nat} {M:Nat→Prop} {h h':AHeap} {v:AV} {cs:List AV} {len:Nat} (R:RdI sz h v cs len) (U:Upd M h h') (hM:∀ id,SlAt v id→¬ M id):RdI sz h' v cs len:=by
  rcases R with h1 | h1 | ⟨id,ver,off,cap,b,rfl,h2,h3⟩
  · exact .inl h1
  · exact .inr (.inl h1)
  · exact .inr (.inr ⟨id,ver,off,cap,b,rfl,(U.2 id (lt_of_some h2) (hM id rfl)).trans h2,h3⟩)
theorem RdI.plen {sz:Nat} {h:AHeap} {v:AV} {cs:List AV} {len:Nat} (R:RdI sz h v cs len) {K:Int→Prop}:pLenSl v K=K (len:Int):=by
  rcases R with ⟨rfl,rfl,rfl⟩ | ⟨rfl,_,a,c,rfl⟩ | ⟨id,ver,off,cap,b,rfl,h2⟩ <;> rfl
theorem Stk.app1 {ty : Option TypeId} {bytes : Nat} {h : AHeap} {v x y : AV} {l : List AV} (S : Stk h v l) (R1 : Rd 1 h y [x] 1) (hx : x.cellOK = true) (hlen : (l.length + 1) * bytes ≤ 140737488355328) (hl2 : l.length + 1 ≤ 9223372036854775807) {K : AV → AHeap → Prop}
    (hk:∀ v' h',Upd (SlAt v) h h'→Stk h' v' (l++[x])→(∀ i,SlAt v' i→SlAt v i∨h.length≤i)→K v' h'):pAppend ty 1 bytes v y h K:=by
  refine ⟨Nat.one_pos,R1.news ?_⟩
  rcases S with ⟨rfl,rfl⟩ | ⟨id,b,rfl,g1,g2,g3,g4,g5,g6,g7⟩
  · refine ⟨by simpa using hlen, by omega, ?_⟩
    rw [if_neg (by decide)]
    exact hk _ _ ((Upd.app _ _).mono fun _ _ h=>h.elim) (.inr ⟨h.length,newBlk [x] 1 false ty,by simp [newBlk],by simp,rfl,by simp [newBlk],by simp [newBlk],by simp [newBlk],rfl,rfl⟩) fun i hi=>.inr (by have e:h.length=i:=hi; omega)
  · have hid := lt_of_some g1
    refine ⟨hlen,by omega,b,g1,g2,⟨g5,Nat.le_refl _,by simp only; omega⟩, ?_⟩
    by_cases hfull:l.length=b.cells.length
    · cases hex : b.ex with
      | true =>
        refine .inr (.inl ⟨Nat.one_pos,.inr ⟨rfl,rfl,rfl,by simp only; omega⟩, ?_⟩)
        refine hk _ _ ((Upd.app _ _).mono fun _ _ h=>h.elim) (.inr ⟨h.length,newBlk (l++[x]) 1 false ty, ?_, ?_,rfl,by simp [newBlk],by simp only [newBlk,List.length_append]; exact List.take_of_length_le (by simp),by simp [newBlk],rfl,rfl⟩) fun i hi=>.inr (by have e:h.length=i:=hi; omega)
        · simp [newBlk,g4,g3]
        · simp [g4]
      | false =>
        refine .inr (.inr (.inr (.inl ⟨Nat.one_pos,g6,rfl,rfl,by omega,rfl,rfl,g7,by simp [hx], ?_⟩)))
        have hcl:b.cells=l:=by rw [hfull,List.take_length] at g4; exact g4
        refine hk _ _ ((Upd.set _ _ _).mono fun i _ h=>h.symm) (.inr ⟨id,{ b with cells:=b.cells++[x],ty:=sameTy b.ty ty }, ?_,by simp [hid,hex],g2,by simp; omega, ?_,by simp; omega,g6,g7⟩) fun i hi=>.inl hi
        · simp
        · simp only [hcl]
          rw [List.take_of_length_le (by simp)]
    · refine .inr (.inr (.inl ⟨Nat.one_pos, g6, rfl, by simp only; omega, .inl rfl, by simp [hx], ?_⟩))
      refine hk _ _ ((Upd.set _ _ _).mono fun i _ h=>h.symm) (.inr ⟨id,{ b with cells:=wr b.cells (0+l.length * 1) [x],floor:=b.cells.length }, ?_,show (h.set id _)[id]? = some _ from List.getElem?_set_self hid,g2, ?_, ?_, ?_,g6,g7⟩) fun i hi=>.inl hi
      · simp [wr]
      · simp [wr]; omega
      · simp only [wr, Nat.zero_add, Nat.mul_one, List.length_append, List.length_cons, List.length_nil]
        apply List.ext_getElem?
        intro i
        by_cases h1:i<l.length
        · rw [List.getElem?_take_of_lt (by omega), List.getElem?_set_ne (by omega), List.getElem?_append_left h1]
          conv=>rhs; rw [← g4]
          rw [List.getElem?_take_of_lt h1]
        · by_cases h2 : i = l.length
          · subst h2
            rw [List.getElem?_take_of_lt (by omega),List.getElem?_set_self (by omega),List.getElem?_append_right (by omega)]
            simp
          · rw [List.getElem?_eq_none (by simp; omega),List.getElem?_eq_none (by simp; omega)]
      · simp [wr]
theorem NewS.app1 {ty:Option TypeId} {bytes:Nat} {h0 h:AHeap} {v x y:AV} {l:List AV} (S:NewS h0 h v l) (R1:Rd 1 h y [x] 1) (hx:x.cellOK=true) (hlen:(l.length+1) * bytes≤140737488355328) (hl2:l.length+1≤9223372036854775807) {K:AV→AHeap→Prop}
    (hk:∀ v' h',NewS h0 h' v' (l++[x])→Upd (SlAt v) h h'→(∀ i,SlAt v' i→SlAt v i∨h.length≤i)→K v' h'):pAppend ty 1 bytes v y h K:=
  S.stk.app1 R1 hx hlen hl2 fun v' h' U S' F=>hk v' h' ⟨S.upd.trans U fun i hi hs=>absurd (S.new i hs) (by omega),S',fun i hi=>by
    rcases F i hi with h | h
    · exact S.new i h
    · exact Nat.le_trans S.upd.1 h⟩ U F
end Go.GAM
namespace Go.GAM
inductive Ev (α:Type) where
  | ok (a:α)
  | no (c:Nat)
deriving Inhabited
def want {α:Type} (c:Bool) (n:Nat) (x:Ev α):Ev α:=bif c then x else .no n
structure CB where
  b:ABlk
  n:Nat
inductive Tr where
  | e
  | n (v:Option CB) (l r:Tr)
structure HS where
  t:Tr
  n:Nat
end Go.GAM
namespace Go.GAM
abbrev EvS:=Ev (AV × HS)
end Go.GAM
namespace Go.GAM
section
variable {P:Program}
abbrev CallC:=FuncId→List AV→HS→EvS
end
end Go.GAM
namespace Go.GAM
section
variable {P:Program} {RC:CallC} {RA:CallR} {nt:Nat}
end
end Go.GAM
namespace Go.GAM
end Go.GAM
namespace Go.GAM
open Go.RowKit
section
variable {w:World}
end
end Go.GAM
namespace Go.Proofs.YtcdkpkkdolmfdaaGreatDoor
open Go.GAM Go.RowKit
def bitsB (d:Der):Bool:=isS 0 3 false d
def truthB (d:Der):Bool:=isS 0 1 false d&&decide (d.data.length=1)
def seqB (d:Der):Bool:=isS 0 16 true d
def hexD (n:Nat):UInt8:=if n<10 then UInt8.ofNat (48+n) else UInt8.ofNat (87+n)
def hexS (l:List UInt8):List UInt8:=l.flatMap fun c=>[hexD (c.toNat / 16),hexD (c.toNat % 16)]
def altOid:List UInt8:=[50,46,53,46,50,57,46,49,55]
def basOid:List UInt8:=[50,46,53,46,50,57,46,49,57]
def extOne (d:Der):Option (List UInt8 × List UInt8):=match d.kids with
  | [a,b]=>if (seqB d&&(isS 0 4 false b&&(oidS a).2))=true then some ((oidS a).1,b.data) else none
  | [a,t,b]=>if (seqB d&&(truthB t&&(isS 0 4 false b&&(oidS a).2)))=true then some ((oidS a).1,b.data) else none
  | _=>none
def addNames:List (List UInt8)→List Der→List (List UInt8)
  | ns,[]=>ns
  | ns,y :: r=>if (isS 2 2 false y&&decide (ns.length<16))=true then addNames (ns++[lowS y.data]) r else addNames ns r
def authB (ks:List Der):Bool:=match ks with
  | []=>false
  | k :: _=>truthB k && !decide (k.data=[0])
def innerS (s:List UInt8):Option (List Der):=match decS s with
  | .ok v=>if seqB v=true then some v.kids else none
  | .error _=>none
def extS : List Der → Bool → Bool → List (List UInt8) × Bool → Option (List (List UInt8) × Bool)
  | [],_,_,x=>some x
  | d :: r, nm, bs, x => match extOne d with
    | none=>none
    | some (t, s) =>
      if t=altOid∧nm=false then (match innerS s with
        | some ks=>extS r true bs (addNames x.1 ks,x.2)
        | none=>none)
      else if t=basOid∧bs=false then (match innerS s with
        | some ks=>extS r nm true (x.1,authB ks)
        | none=>none)
      else extS r nm bs x
def verB (a:Der):Bool:=isS 2 0 true a&&(match a.kids with
  | [v]=>(intS v).2&&decide ((intS v).1=2)
  | _=>false)
def timesS (e:Der):Option (Int × Int):=if seqB e=true then (match e.kids with
  | [p,q]=>if ((timeS p).2&&(timeS q).2)=true then some ((timeS p).1,(timeS q).1) else none
  | _=>none) else none
def keyS (g : Der) : Option (List UInt8) := if seqB g = true then (match g.kids with
  | [p, q] => if (seqB p && bitsB q) = true then (match q.data with
    | c :: r=>if c=0 then some r else none
    | []=>none) else none
  | _=>none) else none
def extX : List Der → Option (List (List UInt8) × Bool)
  | []=>some ([],false)
  | [x] => if isS 2 3 true x = true then (match x.kids with
    | [k]=>if seqB k=true then extS k.kids false false ([],false) else none
    | _=>none) else none
  | _=>none
def contentS (l : List Der) : Option Cert := match l with
  | a :: b :: c :: d :: e :: f :: g :: x =>
    if (verB a&&(isS 0 2 false b&&(!decide (b.data=[])&&seqB c)))=true then
      match nameS d,nameS f,timesS e,keyS g,extX x with
      | some i,some s,some t,some k,some n=>some ⟨hexS b.data,i,s,t.1,t.2,n.1,n.2,k⟩
      | _,_,_,_,_=>none
    else none
  | _=>none
def parseS (s : List UInt8) : Except Int Cert := if 65535 < s.length then .error 3 else match decS s with
  | .error e=>.error e
  | .ok d => if seqB d = true then (match d.kids with
    | [a, b, c] => if (seqB a && (seqB b && bitsB c)) = true then (match contentS a.kids with
      | some c=>.ok c
      | none=>.error 2) else .error 2
    | _=>.error 2) else .error 2
def hexN (c:UInt8):Option Nat:=if 48≤c.toNat∧c.toNat≤57 then some (c.toNat - 48) else if 97≤c.toNat∧c.toNat≤102 then some (c.toNat - 87) else none
def unhex : List UInt8 → Option (List UInt8)
  | []=>some []
  | a :: b :: r => match hexN a, hexN b, unhex r with
    | some x,some y,some l=>some (UInt8.ofNat (16 * x+y) :: l)
    | _,_,_=>none
  | [_]=>none
def longI (l:List UInt8):Bool:=match l with
  | a :: b :: _=>(decide (a.toNat=0)&&decide (b.toNat<128))||(decide (a.toNat=255)&&decide (128≤b.toNat))
  | _=>false
def serialS (s:List UInt8):Option (List UInt8):=if s=[]∨s.length % 2=1∨40<s.length then none else match unhex s with
  | none=>none
  | some l=>if longI l=true then none else some l
def seqD (ks:List Der):Der:=.mk 0 16 true [] ks
def datD (c t:Int) (s:List UInt8):Der:=.mk c t false s []
def oidD' (o:List UInt8):Der:=datD 0 6 (oidDat o)
def algOid:List UInt8:=[49,46,50,46,56,52,48,46,49,48,48,52,53,46,52,46,51,46,50]
def algD:Der:=seqD [oidD' algOid]
def extD (o s:List UInt8):Der:=seqD [oidD' o,datD 0 4 s]
def altD (names:List (List UInt8)):Der:=seqD (names.map fun n=>datD 2 2 n)
def basD:Der:=seqD [datD 0 1 [255]]
def altE (names:List (List UInt8)):Except Int (List Der):=if names=[] then .ok [] else match encS (altD names) with
  | .error e=>.error e
  | .ok s=>.ok [extD altOid s]
def basE (auth:Bool):Except Int (List Der):=if auth=true then (match encS basD with
  | .error e=>.error e
  | .ok s=>.ok [extD basOid s]) else .ok []
def listD (number:List UInt8) (iss sub f u:Der) (key:List UInt8):List Der:=
  [.mk 2 0 true [] [datD 0 2 [2]],datD 0 2 number,algD,iss,seqD [f,u],sub,seqD [algD,datD 0 3 (0 :: key)]]
def moreD (ext:List Der):List Der:=if ext=[] then [] else [.mk 2 3 true [] [seqD ext]]
def certD (number:List UInt8) (iss sub f u:Der) (key:List UInt8) (ext:List Der):Der:=
  seqD [seqD (listD number iss sub f u key++moreD ext),algD,datD 0 3 (0 :: (key++[0,0,0,0,0,0,0,0]).take 8)]
def timeDer (y m d r:Nat):Der:=if y<2050 then datD 0 23 (clockS y m d r) else datD 0 24 (twoS (y / 100)++clockS y m d r)
def TimeD (n:Int) (t:Der):Prop:=∃ k y m d:Nat,n=(k:Int)∧k≤253402300799∧Date (k / 86400) y m d∧t=timeDer y m d (k % 86400)
def checkE (c:Cert):Int:=
  if c.frm<0∨253402300799<c.til∨c.til<c.frm then 4 else
  if (nameOfS c.issuer).2≠0∨(nameOfS c.subject).2≠0 then 5 else
  if c.names.any (fun n=>!decide (lowS n=n))=true then 5 else
  if serialS c.serial=none then 2 else
  if 16<c.names.length∨1024<c.key.length then 3 else 0
def buildS (c:Cert) (f u:Der):Except Int (List UInt8):=if checkE c≠0 then .error (checkE c) else match altE c.names,basE c.auth with
  | .error e,_=>.error e
  | .ok _,.error e=>.error e
  | .ok a,.ok b=>encS (certD ((serialS c.serial).getD []) (nameOfS c.issuer).1 (nameOfS c.subject).1 f u c.key (a++b))
end Go.Proofs.YtcdkpkkdolmfdaaGreatDoor
namespace Go.Proofs.YtcdkpkkdolmfdaaGreatDoor
open Go.GAM Go.RowKit
theorem hexN_back {c:UInt8} {x:Nat} (h:hexN c=some x):hexD x=c∧x<16:=by
  unfold hexN at h
  have hc:UInt8.ofNat c.toNat=c:=by simp
  split at h
  · rename_i e
    cases h
    refine ⟨?_,by omega⟩
    unfold hexD
    rw [if_pos (by omega),show 48+(c.toNat - 48)=c.toNat by omega,hc]
  · split at h
    · rename_i e
      cases h
      refine ⟨?_,by omega⟩
      unfold hexD
      rw [if_neg (by omega),show 87+(c.toNat - 87)=c.toNat by omega,hc]
    · cases h
theorem unhex_back:∀ (s l:List UInt8),unhex s=some l→hexS l=s
  | [],l,h=>by unfold unhex at h; cases h; rfl
  | [_],l,h=>by unfold unhex at h; cases h
  | a :: b :: r, l, h => by
    unfold unhex at h
    split at h
    · rename_i x y l' hx hy hl
      cases h
      have ih:=unhex_back r l' hl
      obtain ⟨g1,g2⟩:=hexN_back hx
      obtain ⟨g3,g4⟩:=hexN_back hy
      have e:(UInt8.ofNat (16 * x+y)).toNat=16 * x+y:=toNat_of (by omega)
      show [hexD ((UInt8.ofNat (16 * x+y)).toNat / 16),hexD ((UInt8.ofNat (16 * x+y)).toNat % 16)]++hexS l'=_
      rw [e,show (16 * x+y) / 16=x by omega,show (16 * x+y) % 16=y by omega,g1,g3,ih] <;> rfl
    · cases h
theorem serial_back {s l : List UInt8} (h : serialS s = some l) : hexS l = s ∧ l ≠ [] := by
  unfold serialS at h
  split at h
  · cases h
  · rename_i e
    split at h
    · cases h
    · rename_i l' hl
      split at h
      · cases h
      · cases h
        have:=unhex_back s l hl
        refine ⟨this, ?_⟩
        rintro rfl
        exact e (.inl this.symm)
theorem name_back {s:List UInt8} (h:(nameOfS s).2=0):nameS (nameOfS s).1=some s:=by
  unfold nameOfS at *
  by_cases h1:512<s.length
  · rw [if_pos h1] at h; cases h
  rw [if_neg h1] at *
  by_cases h2:s=[]
  · rw [if_pos h2] at *; subst h2; rfl
  rw [if_neg h2] at *
  by_cases h3:nameS (outOf ((splitE [] s).flatMap kidsOf))=some s
  · rw [if_pos h3] at *; exact h3
  · rw [if_neg h3] at h; cases h
theorem time_back {n:Int} {t:Der} (h:TimeD n t):timeS t=(n,true):=by
  obtain ⟨k,y,m,d,rfl,hk,D,rfl⟩:=h
  obtain ⟨t,s,h1,_,h2⟩:=time_inv hk D
  unfold timeOfS leafC at h1
  unfold timeDer
  by_cases hy:y<2050
  · rw [if_pos hy] at *
    simp only [List.cons.injEq,AV.i.injEq,AV.s.injEq,true_and,and_true] at h1
    obtain ⟨rfl,rfl⟩:=h1
    exact h2
  · rw [if_neg hy] at *
    simp only [List.cons.injEq,AV.i.injEq,AV.s.injEq,true_and,and_true] at h1
    obtain ⟨rfl,rfl⟩:=h1
    exact h2
theorem alt_oid:oidS (oidD' altOid)=(altOid,true):=by kernel_rfl
theorem bas_oid:oidS (oidD' basOid)=(basOid,true):=by kernel_rfl
theorem ext_alt (s:List UInt8):extOne (extD altOid s)=some (altOid,s):=by
  show (if (true&&(true&&(oidS (oidD' altOid)).2))=true then some ((oidS (oidD' altOid)).1,s) else none)=_
  rw [alt_oid] <;> rfl
theorem ext_bas (s:List UInt8):extOne (extD basOid s)=some (basOid,s):=by
  show (if (true&&(true&&(oidS (oidD' basOid)).2))=true then some ((oidS (oidD' basOid)).1,s) else none)=_
  rw [bas_oid] <;> rfl
theorem addNames_map:∀ (ns acc:List (List UInt8)),acc.length+ns.length≤16→(∀ n∈ns,lowS n=n)→addNames acc (ns.map fun n=>datD 2 2 n)=acc++ns
  | [],acc,_,_=>by simp [addNames]
  | n :: ns, acc, h, hl => by
    simp only [List.length_cons] at h
    rw [List.map_cons]
    unfold addNames
    have e:isS 2 2 false (datD 2 2 n)=true:=rfl
    rw [e,decide_eq_true (show acc.length<16 by omega),if_pos (show (true&&true)=true from rfl)]
    show addNames (acc++[lowS n]) _=_
    rw [hl n (by simp),addNames_map ns (acc++[n]) (by simp; omega) fun x hx=>hl x (by simp [hx]),List.append_assoc] <;> rfl
theorem inner_enc {ks:List Der} {s:List UInt8} (h:encS (seqD ks) = .ok s):innerS s=some ks:=by
  unfold innerS
  rw [(dec_of_enc h).2.2.1] <;> rfl
theorem ext_back {names : List (List UInt8)} {auth : Bool} {a b : List Der} (ha : altE names = .ok a) (hb : basE auth = .ok b) (hl : ∀ n ∈ names, lowS n = n) (h16 : names.length ≤ 16) : extX (moreD (a ++ b)) = some (names, auth) := by
  have hadd:=addNames_map names [] (by simpa using h16) hl
  rw [List.nil_append] at hadd
  have hab:(altOid=basOid)=False:=eq_false (by decide)
  have hba:(basOid=altOid)=False:=eq_false (by decide)
  unfold altE at ha
  unfold basE at hb
  cases auth with
  | false =>
    rw [if_neg (by decide)] at hb
    cases hb
    split at ha
    · rename_i e; subst e; cases ha; rfl
    · split at ha
      · cases ha
      · rename_i s hs
        cases ha
        show extS [extD altOid s] false false ([],false)=_
        unfold extS
        rw [ext_alt]
        simp only
        rw [if_pos (by simp),inner_enc hs]
        simp only
        rw [hadd] <;> rfl
  | true =>
    rw [if_pos rfl] at hb
    split at hb
    · cases hb
    · rename_i t ht
      cases hb
      have hau:authB [datD 0 1 [255]]=true:=by decide
      split at ha
      · rename_i e; subst e; cases ha
        show extS [extD basOid t] false false ([],false)=_
        unfold extS
        rw [ext_bas]
        simp only
        rw [if_neg (by simp [hba]),if_pos (by simp),inner_enc (ks:=[datD 0 1 [255]]) ht]
        simp only
        rw [hau] <;> rfl
      · split at ha
        · cases ha
        · rename_i s hs
          cases ha
          show extS [extD altOid s,extD basOid t] false false ([],false)=_
          unfold extS
          rw [ext_alt]
          simp only
          rw [if_pos (by simp),inner_enc hs]
          simp only
          rw [hadd]
          unfold extS
          rw [ext_bas]
          simp only
          rw [if_neg (by simp [hba]),if_pos (by simp),inner_enc (ks:=[datD 0 1 [255]]) ht]
          simp only
          rw [hau] <;> rfl
theorem round {c : Cert} {f u : Der} {s : List UInt8} (hf : TimeD c.frm f) (hu : TimeD c.til u) (h : buildS c f u = .ok s) : parseS s = .ok c := by
  unfold buildS at h
  split at h
  · cases h
  · rename_i hc
    have hc:checkE c=0:=by simpa using hc
    unfold checkE at hc
    split at hc
    · cases hc
    · split at hc
      · cases hc
      · rename_i hn
        split at hc
        · cases hc
        · rename_i hlow
          split at hc
          · cases hc
          · rename_i hser
            split at hc
            · cases hc
            · rename_i hlen
              rw [not_or] at hn hlen
              have hi:(nameOfS c.issuer).2=0:=by simpa using hn.1
              have hs:(nameOfS c.subject).2=0:=by simpa using hn.2
              have hl:∀ n∈c.names,lowS n=n:=by simpa using hlow
              cases hx:serialS c.serial with
              | none=>exact absurd hx hser
              | some num =>
                rw [hx] at h
                obtain ⟨g1,g2⟩:=serial_back hx
                split at h
                · cases h
                · cases h
                · rename_i a b ha hb
                  obtain ⟨_,e1,e2,_⟩:=dec_of_enc h
                  unfold parseS
                  rw [if_neg (by omega),e2]
                  simp only [Option.getD_some]
                  rw [if_pos (show seqB (certD num (nameOfS c.issuer).1 (nameOfS c.subject).1 f u c.key (a++b))=true from rfl)]
                  have hk:(certD num (nameOfS c.issuer).1 (nameOfS c.subject).1 f u c.key (a++b)).kids=[seqD (listD num (nameOfS c.issuer).1 (nameOfS c.subject).1 f u c.key++moreD (a++b)),algD,datD 0 3 (0 :: (c.key++[0,0,0,0,0,0,0,0]).take 8)]:=rfl
                  rw [hk]
                  simp only
                  rw [if_pos (show (seqB (seqD (listD num (nameOfS c.issuer).1 (nameOfS c.subject).1 f u c.key++moreD (a++b)))&&(seqB algD&&bitsB (datD 0 3 (0 :: List.take 8 (c.key++[0,0,0,0,0,0,0,0])))))=true from rfl)]
                  rw [show (seqD (listD num (nameOfS c.issuer).1 (nameOfS c.subject).1 f u c.key++moreD (a++b))).kids=listD num (nameOfS c.issuer).1 (nameOfS c.subject).1 f u c.key++moreD (a++b) from rfl]
                  have ht:timesS (seqD [f,u])=some (c.frm,c.til):=by
                    show (if ((timeS f).2&&(timeS u).2)=true then some ((timeS f).1,(timeS u).1) else none)=_
                    rw [time_back hf,time_back hu] <;> rfl
                  have hcon:contentS (listD num (nameOfS c.issuer).1 (nameOfS c.subject).1 f u c.key++moreD (a++b))=some c:=by
                    unfold listD contentS
                    simp only [List.cons_append,List.nil_append]
                    rw [if_pos (by
                      show (verB _&&(isS 0 2 false (datD 0 2 num)&&(!decide (num=[])&&true)))=true
                      rw [decide_eq_false g2] <;> rfl),name_back hi,name_back hs,ht,ext_back ha hb hl (by omega)]
                    show some _=_
                    show some (Cert.mk (hexS num) c.issuer c.subject c.frm c.til c.names c.auth c.key)=_
                    rw [g1]
                  rw [hcon]
end Go.Proofs.YtcdkpkkdolmfdaaGreatDoor
namespace Go.Proofs.YtcdkpkkdolmfdaaGreatDoor
open Go.GAM Go.RowKit
theorem dec_count : ∀ f, (∀ lvl n s d r n', decV f lvl n s = .ok (d, r, n') → n' = n + d.sz) ∧ (∀ lvl n s ks n', decK f lvl n s = .ok (ks, n') → n' = n + szs ks) := by
  intro f
  induction f with
  | zero =>
    refine ⟨fun lvl n s d r n' h=>?_,fun lvl n s ks n' h=>?_⟩
    · unfold decV at h; cases h
    · unfold decK at h; cases h
  | succ f ih =>
    refine ⟨fun lvl n s d r n' h=>?_,fun lvl n s ks n' h=>?_⟩
    · unfold decV at h
      cases s with
      | nil=>cases h
      | cons c s =>
        simp only at h
        split at h
        · cases h
        split at h
        · cases h
        split at h
        · cases h
        split at h
        · cases h
        · split at h
          · cases h
          · split at h
            · cases h
              simp only [Der.sz,szs]
            · split at h
              · cases h
              · rename_i ks n2 hk
                cases h
                have:=ih.2 _ _ _ _ _ hk
                simp only [Der.sz]; omega
    · unfold decK at h
      cases s with
      | nil=>cases h; simp [szs]
      | cons c s =>
        simp only at h
        split at h
        · cases h
        · rename_i d t n1 hv
          split at h
          · cases h
          · rename_i ks' n2 hk
            cases h
            have h1:=ih.1 _ _ _ _ _ _ hv
            have h2:=ih.2 _ _ _ _ _ hk
            simp only [szs]; omega
def Fit (d:Der):Prop:=(bytesS d).length≤65535∧d.sz≤256∧wfV d
theorem Fit.of {s : List UInt8} {d : Der} (h : decS s = .ok d) : Fit d := by
  have h1:=enc_of_dec h
  have h2:=h
  unfold decS at h2
  unfold encS at h1
  split at h1
  · cases h1
  · rename_i hc
    have hc:(chkV 1 0 d).1=0:=by simpa using hc
    split at h1
    · cases h1
    · rename_i hb
      refine ⟨by omega, ?_,(chk_wf d.sz).1 d 1 0 (Nat.le_refl _) hc⟩
      split at h2
      · cases h2
      · split at h2
        · cases h2
        · rename_i d' r n hv
          split at h2
          · cases h2
            have g1:=(dec_count _).1 _ _ _ _ _ _ hv
            have g2:=(dec_short _).1 _ _ _ _ _ _ hv
            omega
          · cases h2
theorem bytes_le {c t:Int} {m:Bool} {s:List UInt8} {ks:List Der}:s.length+(bytesK ks).length≤(bytesS (.mk c t m s ks)).length:=by
  unfold bytesS
  simp only [List.length_append,List.length_cons]; omega
theorem bytesK_mem:∀ {ks:List Der} {k:Der},k∈ks→(bytesS k).length≤(bytesK ks).length
  | [],_,h=>by cases h
  | a :: r, k, h => by
    unfold bytesK
    rw [List.length_append]
    rcases List.mem_cons.1 h with rfl | h
    · omega
    · have:=bytesK_mem h; omega
theorem Fit.data {d:Der} (h:Fit d):d.data.length≤65535:=by
  obtain ⟨c,t,m,s,ks⟩:=d
  have:=bytes_le (c:=c) (t:=t) (m:=m) (s:=s) (ks:=ks)
  have:=h.1
  show s.length≤65535
  omega
theorem Fit.kid {d k:Der} (h:Fit d) (hk:k∈d.kids):Fit k:=by
  obtain ⟨c,t,m,s,ks⟩:=d
  have hk:k∈ks:=hk
  obtain ⟨h1,h2,h3⟩:=h
  have:=bytes_le (c:=c) (t:=t) (m:=m) (s:=s) (ks:=ks)
  have:=bytesK_mem hk
  have g:=szs_mem hk
  unfold wfV at h3
  refine ⟨by omega, ?_,wfK_mem h3.2.2.2 hk⟩
  simp only [Der.sz] at h2; omega
theorem Fit.few {d:Der} (h:Fit d):d.kids.length≤256:=by
  obtain ⟨c,t,m,s,ks⟩:=d
  have:=szs_len ks
  have:=h.2.1
  simp only [Der.sz] at this
  show ks.length≤256
  omega
theorem Fit.names {d:Der} (h:Fit d):shortN d:=⟨by have:=h.few; omega,fun s hs k hk x hx=>by
  have:=(((h.kid hs).kid hk).kid hx).data; omega⟩
end Go.Proofs.YtcdkpkkdolmfdaaGreatDoor
namespace Go.GAM
theorem q_gl {h:AHeap} {id n:Nat} {cs:List AV} {K:AV→Prop} (G:GlAt h id cs) (hn:n=cs.length):pLoadN n (gvar h id) h K=K (.ag cs):=by
  refine propext ⟨fun hk=>?_,fun hk=>G.loadN hn hk⟩
  rw [G.var] at hk
  obtain ⟨b,h1,rfl,h3,h4⟩:=G
  obtain ⟨b',g1,g2,g3⟩:=hk
  have g1:h[id]? = some b':=g1
  rw [h1] at g1
  cases g1
  subst hn
  simpa using g3
theorem q_gl3 {h:AHeap} {id:Nat} {a b c:AV} {K:AV→Prop} (G:GlAt h id [a,b,c]):pLoadN 3 (gvar h id) h K=K (.ag [a,b,c]):=q_gl (n:=3) G rfl
end Go.GAM
namespace Go.Proofs.YtcdkpkkdolmfdaaGreatDoor
open Go.GAM Go.RowKit
structure CG2 (h:AHeap):Prop where
  g:CG h
  bits:GlAt h 1 [.i .i64 0,.i .i64 3,.b false]
  ver:GlAt h 2 [.i .i64 2,.i .i64 0,.b true]
  int:GlAt h 3 [.i .i64 0,.i .i64 2,.b false]
  host:GlAt h 4 [.i .i64 2,.i .i64 2,.b false]
  tru:GlAt h 5 [.i .i64 0,.i .i64 1,.b false]
  ext:GlAt h 6 [.i .i64 2,.i .i64 3,.b true]
  oct:GlAt h 9 [.i .i64 0,.i .i64 4,.b false]
theorem CG2.up {h h':AHeap} (G:CG2 h) (U:Upd (fun _=>False) h h'):CG2 h':=
  ⟨G.g.ext U,G.bits.upd U fun h=>h,G.ver.upd U fun h=>h,G.int.upd U fun h=>h,G.host.upd U fun h=>h,G.tru.upd U fun h=>h,G.ext.upd U fun h=>h,G.oct.upd U fun h=>h⟩
structure KL (h:AHeap) (F:Nat→Prop) (v:AV) (ks:List Der) (rows:List (List AV)):Prop where
  dv:DVs h F ks rows
  sl:SArg 5 h v rows.flatten rows.length
  sf:∀ i,SlAt v i→F i
theorem KL.up {h h':AHeap} {F:Nat→Prop} {v:AV} {ks:List Der} {rows:List (List AV)} (L:KL h F v ks rows) (U:Upd (fun _=>False) h h'):KL h' F v ks rows:=
  ⟨L.dv.upd U fun i hF hi=>⟨fun h=>h,hF⟩,L.sl.upd U fun _ _ _ h=>h,L.sf⟩
theorem KL.rd {h:AHeap} {F:Nat→Prop} {v:AV} {ks:List Der} {rows:List (List AV)} (L:KL h F v ks rows):RdI 5 h v rows.flatten ks.length:=by
  rw [L.dv.length]; exact L.sl.i
structure KAt (hb:AHeap) (F:Nat→Prop) (v:AV) (i:Nat) (k:Der) (r:List AV):Prop where
  dv:DV hb F k r
  idx:∀ (h:AHeap),Upd (fun _=>False) hb h→∀ K:AV→Prop,pIdxAddrSl 5 v (.i .i64 (i:Int)) h K=K (ptr v 5 i 0)
  ld:∀ (h:AHeap),Upd (fun _=>False) hb h→∀ K:AV→Prop,pLoadN 5 (ptr v 5 i 0) h K=K (.ag r)
  fa:∀ (o:Nat) (K:AV→Prop),pFieldAddr o (ptr v 5 i 0) K=K (ptr v 5 i o)
  f3:∀ (h:AHeap),Upd (fun _=>False) hb h→∀ K:AV→Prop,pLoad1 (ptr v 5 i 3) h K=K (.s k.data)
  f4:∃ w rs,r[4]? = some w∧KL hb F w k.kids rs∧∀ (h:AHeap),Upd (fun _=>False) hb h→∀ K:AV→Prop,pLoad1 (ptr v 5 i 4) h K=K w
theorem KL.at {hb:AHeap} {F:Nat→Prop} {v:AV} {ks:List Der} {rows:List (List AV)} (L:KL hb F v ks rows) {i:Nat} {k:Der} (hk:ks[i]? = some k):∃ r,KAt hb F v i k r:=by
  obtain ⟨r,hr,D⟩:=L.dv.get hk
  have hi:i<ks.length:=lt_of_some hk
  have hrow:=rows_get rows i r L.dv.len5 hr
  have hl5:=D.len
  have cell:∀ (o:Nat) (c:AV),o<5→r[o]? = some c→rows.flatten[i * 5+o]? = some c:=by
    intro o c ho hc
    rw [← hrow,List.getElem?_take_of_lt ho,List.getElem?_drop] at hc
    exact hc
  have hd3:=D.dat
  obtain ⟨w,rs,g1,g2,g3,g4,g5⟩:=D.kidsLen
  refine ⟨r,D,fun h U K=>?_,fun h U K=>?_,fun o K=>?_,fun h U K=>?_,w,rs,g1,⟨g2,g3,fun i hi=>(g5 i hi).1⟩,fun h U K=>?_⟩
  · exact q_idx ((L.up U).rd) (by omega) (by omega)
  · rw [q_pldN ((L.up U).rd) hi,hrow]
  · rw [q_pfld (L.rd) hi,Nat.zero_add]
  · exact q_pld ((L.up U).rd) hi (by omega) (cell 3 _ (by omega) hd3)
  · exact q_pld ((L.up U).rd) hi (by omega) (cell 4 _ (by omega) g1)
theorem KAt.row {hb:AHeap} {F:Nat→Prop} {v:AV} {i:Nat} {k:Der} {r:List AV} (A:KAt hb F v i k r):r.length=5:=A.dv.len
section
variable {h:AHeap} {Q:AV→AHeap→Prop} {id:Nat} {cs:List AV} {bad:Bool}
theorem need_c {ok:Bool} (R:RecAt h id cs) (hl:cs.length=9) (hb:cs[8]? = some (.b bad)) (hq:∀ h',Upd (· = id) h h'→RecAt h' id (cs.set 8 (.b (bad || !ok)))→Q (.b (!(bad || !ok))) h') :
    C Y24.id [.p (some ⟨id,9,0⟩),.b ok] h Q:=by
  refine Y24.call ?_
  simp only [Y24.t,Y24.j0]
  have fin:∀ b,b=(bad || !ok)→pStore 1 (.p (some ⟨id,9,8⟩)) (.b b) h fun h7=>Y24.p0 (kRet h Q) (.p (some ⟨id,9,0⟩)) h7:=by
    intro b hb
    subst hb
    refine st_store R hl.symm (by omega) rfl rfl rfl fun h' hl' U R'=>?_
    refine Y24.i0 ?_
    simp only [Y24.t0]
    refine st_nil (st_fld (st_load (v:=.b (bad || !ok)) R' (by rw [List.length_set]; exact hl.symm) (by rw [List.getElem?_set_self (by omega)]) (st_asB (.inl (hq h' U R')))))
  refine st_nil (st_fld (st_load R hl.symm hb (st_asB (bif_both (fun e=>?_) fun e=>?_))))
  · exact st_nil (st_fld (fin _ (by rw [e] <;> rfl)))
  · exact st_nil (st_fld (fin _ (by rw [e] <;> rfl)))
def txt:Option (List UInt8)→List UInt8
  | some t=>t
  | none=>[]
theorem pname_c {d:Der} {r:List AV} {F:Nat→Prop} (G:CG h) (D:DV h F d r) (hs:shortN d) (hid:∀ i,F i→i≠id) (R:RecAt h id cs) (hl:cs.length=9) (hb:cs[8]? = some (.b bad))
    (hq:∀ h',Upd (· = id) h h'→RecAt h' id (cs.set 8 (.b (bad||(nameS d).isNone)))→Q (.s (txt (nameS d))) h') :
    C Y53.id [.p (some ⟨id,9,0⟩),.ag r] h Q:=by
  refine Y53.call ?_
  simp only [Y53.t]
  refine D.box fun h1 hl1 U1 R1 D1=>?_
  refine st_loadN R1 D1.len.symm ?_
  refine name_c (G.ext U1) D1 hs ?_
  have fin:∀ (ok:Bool) (t:List UInt8),ok = !(nameS d).isNone→t=txt (nameS d)→C Y24.id [.p (some ⟨id,9,0⟩),.b ok] h1 fun v11 h12=>asB v11 fun c13=>kRet h Q (.s t) h12:=by
    intro ok t ho ht
    refine need_c (R.upd U1 fun h=>h) hl hb fun h' U2 R2=>st_asB (.inl ?_)
    subst ht ho
    rw [Bool.not_not] at R2
    exact hq h' ((U1.mono fun _ _ h=>h.elim).trans U2 fun _ _ h=>h) R2
  cases hn:nameS d with
  | none=>exact st_ext0 (st_asS (st_ext1 (st_asI (fin _ _ (by rw [hn] <;> rfl) (by rw [hn] <;> rfl)))))
  | some t=>exact st_ext0 (st_asS (st_ext1 (st_asI (fin _ _ (by rw [hn] <;> rfl) (by rw [hn] <;> rfl)))))
end
end Go.Proofs.YtcdkpkkdolmfdaaGreatDoor
namespace Go.Proofs.YtcdkpkkdolmfdaaGreatDoor
open Go.GAM Go.RowKit
def pc (ser iss sub:List UInt8) (frm til:Int) (nv:AV) (au:Bool) (key:List UInt8) (bad:Bool):List AV:=[.s ser,.s iss,.s sub,.i .i64 frm,.i .i64 til,nv,.b au,.s key,.b bad]
abbrev sκ:List UInt8→AV:=fun x=>AV.s x
section
variable {hb:AHeap} {id mid:Nat} {ser iss sub key:List UInt8} {frm til:Int} {Q:AV→AHeap→Prop}
def EOut (hb:AHeap) (id:Nat) (ser iss sub key:List UInt8) (frm til:Int) (Q:AV→AHeap→Prop) (res:Option (List (List UInt8) × Bool)):Prop:=
  ∀ h' nv au bad,Upd (fun _=>False) hb h'→RecAt h' id (pc ser iss sub frm til nv au key bad)→bad=res.isNone→(∀ x,res=some x→au=x.2∧RdI 1 h' nv (x.1.map .s) x.1.length∧∀ i,SlAt nv i→hb.length≤i)→Q (.tu []) h'
structure ESt (hb:AHeap) (id mid:Nat) (ser iss sub key:List UInt8) (frm til:Int) (h:AHeap) (kv:List (List UInt8 × AV)) (nm bs:Bool) (ns:List (List UInt8)) (au:Bool) (nv:AV):Prop where
  r:RecAt h id (pc ser iss sub frm til nv au key false)
  m:MapAt sκ h mid kv
  sa:(lkM kv altOid).getD (.b false) = .b nm
  sb:(lkM kv basOid).getD (.b false) = .b bs
  sx:∀ t, ∃ b,(lkM kv t).getD (.b false) = .b b
  s:NewS hb h nv (ns.map .s)
  ni:∀ i,SlAt nv i→i≠id∧i≠mid
  il:hb.length≤id
  ml:hb.length≤mid
  ne:mid≠id
variable {h:AHeap} {kv:List (List UInt8 × AV)} {nm bs:Bool} {ns:List (List UInt8)} {au:Bool} {nv:AV}
theorem ESt.up {h':AHeap} (S:ESt hb id mid ser iss sub key frm til h kv nm bs ns au nv) (U:Upd (fun _=>False) h h'):ESt hb id mid ser iss sub key frm til h' kv nm bs ns au nv:=
  ⟨S.r.upd U fun h=>h,S.m.upd U fun h=>h,S.sa,S.sb,S.sx,⟨S.s.upd.trans U fun _ _ h=>h,S.s.stk.upd U fun _ _ h=>h,S.s.new⟩,S.ni,S.il,S.ml,S.ne⟩
theorem ESt.u (S:ESt hb id mid ser iss sub key frm til h kv nm bs ns au nv):Upd (fun _=>False) hb h:=S.s.upd
theorem nv_part {h:AHeap} {v:AV} {l:List AV} (S:Stk h v l):v.parts=[v]∧v.sizeOK=true∧v.cellOK=true:=by
  rcases S with ⟨rfl,_⟩ | ⟨_,_,rfl,_⟩ <;> exact ⟨rfl,rfl,rfl⟩
theorem need_e (S:ESt hb id mid ser iss sub key frm til h kv nm bs ns au nv) {ok:Bool} {K:AV→AHeap→Prop}
    (h1:ok=true→∀ h',Upd (· = id) h h'→ESt hb id mid ser iss sub key frm til h' kv nm bs ns au nv→K (.b true) h')
    (h2:ok=false→∀ h',Upd (· = id) h h'→Upd (fun _=>False) hb h'→RecAt h' id (pc ser iss sub frm til nv au key true)→K (.b false) h'):C Y24.id [.p (some ⟨id,9,0⟩),.b ok] h K:=by
  refine need_c S.r rfl rfl fun h' U R=>?_
  have U':Upd (fun _=>False) hb h':=S.u.own U S.il
  cases ok with
  | true=>exact h1 rfl h' U ⟨R,S.m.upd U S.ne,S.sa,S.sb,S.sx,⟨U',S.s.stk.upd U fun i hi e=>(S.ni i hi).1 e,S.s.new⟩,S.ni,S.il,S.ml,S.ne⟩
  | false=>exact h2 rfl h' U U' R
variable {v:AV} {l:List Der} {rows:List (List AV)} {F:Nat→Prop} (G:CG2 hb) (L:KL hb F v l rows) (hF:∀ i,F i→i<hb.length) (hfit:∀ k∈l,Fit k) (hl:l.length≤256)
theorem ext_fail {r:List Der} {d:Der} {x:List (List UInt8) × Bool} (hq:EOut hb id ser iss sub key frm til Q (extS (d :: r) nm bs x)) (hx:extOne d=none) {h':AHeap} (U:Upd (fun _=>False) hb h') (R:RecAt h' id (pc ser iss sub frm til nv au key true)):Q (.tu []) h':=by
  unfold extS at hq
  rw [hx] at hq
  exact hq h' nv au true U R rfl fun x h=>by cases h
theorem ext_failI {r:List Der} {d:Der} {t s:List UInt8} {x:List (List UInt8) × Bool} (hq:EOut hb id ser iss sub key frm til Q (extS (d :: r) nm bs x)) (hx:extOne d=some (t,s)) (ht:(t=altOid∧nm=false)∨(t=basOid∧bs=false)) (hi:innerS s=none) {h':AHeap} (U:Upd (fun _=>False) hb h') (R:RecAt h' id (pc ser iss sub frm til nv au key true)):Q (.tu []) h':=by
  unfold extS at hq
  rw [hx] at hq
  simp only at hq
  have hne:altOid≠basOid:=by decide
  rcases ht with ⟨h1,h2⟩ | ⟨h1,h2⟩
  · rw [if_pos ⟨h1, h2⟩, hi] at hq
    exact hq h' nv au true U R rfl fun x h=>by cases h
  · rw [if_neg (by rintro ⟨h3, _⟩; exact hne (h3.symm.trans h1)), if_pos ⟨h1, h2⟩, hi] at hq
    exact hq h' nv au true U R rfl fun x h=>by cases h
theorem ESt.names (S:ESt hb id mid ser iss sub key frm til h kv nm bs ns au nv) {h':AHeap} {ns':List (List UInt8)} {nv':AV} (N:NewS hb h' nv' (ns'.map .s)) (R:RecAt h' id (pc ser iss sub frm til nv' au key false)) (M:MapAt sκ h' mid kv) (ni:∀ i,SlAt nv' i→i≠id∧i≠mid) :
    ESt hb id mid ser iss sub key frm til h' kv nm bs ns' au nv':=⟨R,M,S.sa,S.sb,S.sx,N,ni,S.il,S.ml,S.ne⟩
theorem ext_p7 (G : CG2 hb) {w : AV} {ks : List Der} {rs : List (List AV)} {hc : AHeap} {lo : Nat} {F2 : Nat → Prop} (K2 : KL hc F2 w ks rs) (hF2 : ∀ i, F2 i → lo ≤ i ∧ i < hc.length) (hid : id < lo) (hmid : mid < lo) (hlo : lo ≤ hc.length) (hfk : ∀ k ∈ ks, Fit k) (hkl : ks.length ≤ 256) {n i : Nat} :
    ∀ (r : List Der) (j : Nat) (h : AHeap) (nv : AV) (ns : List (List UInt8)), ks.drop j = r → ns.length + r.length ≤ 10000 → Upd (fun a => a < lo) hc h → ESt hb id mid ser iss sub key frm til h kv nm bs ns au nv → (∀ i, SlAt nv i → i < lo ∨ hc.length ≤ i) →
      (∀ h' nv',ESt hb id mid ser iss sub key frm til h' kv nm bs (addNames ns r) au nv'→Y0.p10 Q (.p (some ⟨id,9,0⟩)) (.mp (some mid)) v n i h') →
      Y0.p7 Q (.p (some ⟨id,9,0⟩)) (.mp (some mid)) v n i w (ks.length:Nat) (j:Nat) h:=by
  intro r
  induction r with
  | nil =>
    intro j h nv ns hr hn U S hnv hq
    have:=drop_end hr
    refine Y0.i7 ?_
    simp only [Y0.t7,Y0.j10]
    exact bif_f (by simp; omega) (hq h nv S)
  | cons d r ih =>
    intro j h nv ns hr hn U S hnv hq
    have hlt:=drop_lt hr
    have hj:=at_of_drop hr
    have hfd:=hfk d (List.mem_of_getElem? hj)
    have K2':KL h F2 w ks rs:=⟨K2.dv.upd U fun a ha _=>⟨fun e=>by have:=hF2 a ha; omega,ha⟩,K2.sl.upd U fun a ha _ e=>by have:=hF2 a (K2.sf a ha); omega,K2.sf⟩
    obtain ⟨rr,A⟩:=K2'.at hj
    have nxt:∀ h' nv' ns',addNames ns' r=addNames ns (d :: r)→ns'.length≤ns.length+1→Upd (fun a=>a<lo) hc h'→ESt hb id mid ser iss sub key frm til h' kv nm bs ns' au nv'→(∀ i,SlAt nv' i→i<lo∨hc.length≤i)→Y0.p9 Q (.p (some ⟨id,9,0⟩)) (.mp (some mid)) v n i w (ks.length:Nat) (j:Nat) h':=by
      intro h' nv' ns' he hl U' S' hnv'
      refine Y0.i9 ?_
      simp only [Y0.t9,Y0.j7]
      refine inc (by omega) (ih (j+1) h' nv' ns' (drop_next hr) (by simp at hn; omega) U' S' hnv' ?_)
      rw [he]; exact hq
    refine Y0.i7 ?_
    simp only [Y0.t7,Y0.j8]
    refine bif_t (by simp; omega) ?_
    simp only [A.idx h (Upd.refl _ _),A.ld h (Upd.refl _ _)]
    refine st_alloc fun h1 hl1 U1 R1=>?_
    refine st_storeN R1 rfl A.dv.len A.dv.cells' fun h2 hl2 U2 R2=>?_
    have U02:Upd (fun _=>False) h h2:=U1.own U2 (Nat.le_refl _)
    have S2:=S.up U02
    have D2:=A.dv.ext U02
    have Uc2:Upd (fun a=>a<lo) hc h2:=U.trans (U02.mono fun _ _ h=>h.elim) fun _ _ h=>h
    simp only [q_gl3 (G.up S2.u).host]
    refine st_loadN R2 A.dv.len.symm ?_
    refine shapeIs_c D2 (st_asB ?_)
    have off:(isS 2 2 false d&&decide (ns.length<16))=false→Y0.p8 Q (.p (some ⟨id,9,0⟩)) (.mp (some mid)) (.p (some ⟨h.length,5,0⟩)) v n i w (ks.length:Nat) (j:Nat) false h2:=by
      intro e
      refine Y0.i8 ?_
      simp only [Y0.t8,Y0.j9]
      refine bif_f rfl (nxt h2 nv ns ?_ (by omega) Uc2 S2 hnv)
      conv=>rhs; unfold addNames
      rw [e] <;> rfl
    refine bif_both (fun e=>?_) fun e=>off (by rw [e] <;> rfl)
    have hnl:(ns.map AV.s).length=ns.length:=List.length_map ..
    refine st_nil (st_fld (st_fld (st_load S2.r rfl rfl ?_)))
    refine S2.s.stk.rd.len ?_
    rw [hnl]
    by_cases h16:ns.length<16
    · rw [decide_eq_true (show (ns.length : Int) < 16 by omega)]
      refine Y0.i8 ?_
      simp only [Y0.t8,Y0.j9]
      refine bif_t rfl ?_
      have hd3:=A.dv.dat
      refine st_nil (st_fld (st_fld (st_load S2.r rfl rfl ?_)))
      refine st_fld (st_load R2 A.dv.len.symm hd3 (st_asS ?_))
      refine small_c (by have:=hfd.data; omega) (st_asS ?_)
      refine st_load S2.r rfl rfl ⟨rfl, ?_⟩
      refine st_build (cs:=[.s (lowS d.data)]) (len:=1) rfl rfl fun y h3 hl3 U3 R3 F3=>?_
      have S3:=S2.up U3
      refine st_load (R2.upd U3 fun h=>h) A.dv.len.symm hd3 (st_asS ⟨rfl, ?_⟩)
      refine st_load S3.r rfl rfl ⟨rfl, ?_⟩
      refine S3.s.app1 R3 rfl (by rw [hnl]; omega) (by rw [hnl]; omega) fun nv' h4 N4 U4 F4=>?_
      have hrid:¬ SlAt nv h.length:=fun e=>by
        have:=Rd.lt S.s.stk.rd e
        omega
      refine st_load ((R2.upd U3 fun h=>h).upd U4 hrid) A.dv.len.symm hd3 (st_asS ⟨rfl, ?_⟩)
      have np:=nv_part N4.stk
      have hidnv:¬ SlAt nv id:=fun e=>(S.ni id e).1 rfl
      have hmidnv:¬ SlAt nv mid:=fun e=>(S.ni mid e).2 rfl
      have hlen3:h.length≤h3.length:=Nat.le_trans U02.1 U3.1
      have Uc3:Upd (fun a=>a<lo) hc h3:=Uc2.trans (U3.mono fun _ _ h=>h.elim) fun _ _ h=>h
      have Uc4:Upd (fun a=>a<lo) hc h4:=Uc3.trans U4 fun a ha e=>by have:=hnv a e; omega
      refine st_nil (st_fld (st_fld (st_store (S3.r.upd U4 hidnv) rfl (by show 5<9; omega) np.1 np.2.1 np.2.2 fun h5 hl5 U5 R5=>?_)))
      have hni:∀ a,SlAt nv' a→a≠id∧a≠mid:=fun a e=>by
        rcases F4 a e with h | h
        · exact S.ni a h
        · have:=U.1; omega
      refine nxt h5 nv' (ns++[lowS d.data]) ?_ (by simp) (Uc4.trans U5 fun a ha e=>by omega) (S3.names ⟨N4.upd.own U5 S.il, ?_,N4.new⟩ R5 ((S3.m.upd U4 hmidnv).upd U5 S.ne) hni) fun a e=>?_
      · conv => rhs; unfold addNames
        rw [e,decide_eq_true h16] <;> rfl
      · rw [List.map_append]
        exact N4.stk.upd U5 fun a ha e=>(hni a ha).1 e
      · rcases F4 a e with h | h
        · exact hnv a h
        · have:=U.1; omega
    · rw [decide_eq_false (show ¬ (ns.length : Int) < 16 by omega)]
      exact off (by rw [e,decide_eq_false h16] <;> rfl)
theorem addNames_len:∀ (r:List Der) (ns:List (List UInt8)),ns.length≤16→(addNames ns r).length≤16
  | [],ns,h=>by unfold addNames; exact h
  | y :: r, ns, h => by
    unfold addNames
    split
    · rename_i e
      rw [Bool.and_eq_true,decide_eq_true_eq] at e
      exact addNames_len r _ (by simp; omega)
    · exact addNames_len r ns h
theorem ext_skip {d:Der} {r:List Der} {t s:List UInt8} {x:List (List UInt8) × Bool} (hx:extOne d=some (t,s)) (h1:¬ (t=altOid∧nm=false)) (h2:¬ (t=basOid∧bs=false)):extS (d :: r) nm bs x=extS r nm bs x:=by
  conv=>lhs; unfold extS
  rw [hx]
  simp only
  rw [if_neg h1,if_neg h2]
theorem ext_alt' {d:Der} {r ks:List Der} {s:List UInt8} {x:List (List UInt8) × Bool} (hx:extOne d=some (altOid,s)) (hi:innerS s=some ks):extS (d :: r) false bs x=extS r true bs (addNames x.1 ks,x.2):=by
  conv=>lhs; unfold extS
  rw [hx]
  simp only
  rw [if_pos (by simp),hi]
theorem ext_bas' {d:Der} {r ks:List Der} {s:List UInt8} {x:List (List UInt8) × Bool} (hx:extOne d=some (basOid,s)) (hi:innerS s=some ks):extS (d :: r) nm false x=extS r nm true (x.1,authB ks):=by
  have hne:¬ basOid=altOid:=by decide
  conv=>lhs; unfold extS
  rw [hx]
  simp only
  rw [if_neg (by rintro ⟨h,_⟩; exact hne h),if_pos (by simp),hi]
def Nx (hb : AHeap) (id mid : Nat) (ser iss sub key : List UInt8) (frm til : Int) (Q : AV → AHeap → Prop) (v : AV) (n i : Nat) (r : List Der) : Prop :=
  ∀ (h' : AHeap) (kv' : List (List UInt8 × AV)) (nm' bs' : Bool) (ns' : List (List UInt8)) (au' : Bool) (nv' : AV), ESt hb id mid ser iss sub key frm til h' kv' nm' bs' ns' au' nv' → ns'.length ≤ 16 → EOut hb id ser iss sub key frm til Q (extS r nm' bs' (ns', au')) →
    Y0.p0 Q (.p (some ⟨id,9,0⟩)) (.mp (some mid)) v n (i+1:Nat) h'
section
variable {n i:Nat} {r:List Der} {d:Der} {t s:List UInt8} (nx:Nx hb id mid ser iss sub key frm til Q v n i r) (hn:n≤300) (hi:i≤300)
include nx hn hi
theorem ext_p10 (S:ESt hb id mid ser iss sub key frm til h kv nm bs ns au nv) (h16:ns.length≤16) (hq:EOut hb id ser iss sub key frm til Q (extS r nm bs (ns,au))):Y0.p10 Q (.p (some ⟨id,9,0⟩)) (.mp (some mid)) v n i h:=by
  refine Y0.i10 ?_
  simp only [Y0.t10,Y0.j0]
  exact inc (by omega) (nx h kv nm bs ns au nv S h16 hq)
theorem ext_p5b (G:CG2 hb) {F2:Nat→Prop} {d2:Der} {cs2:List AV} {rid2:Nat} (S:ESt hb id mid ser iss sub key frm til h kv nm true ns au nv) (h16:ns.length≤16) (D2:DV h F2 d2 cs2) (R2:RecAt h rid2 cs2) (hr2:rid2≠id) (hF2:∀ a,F2 a→a≠id) (hf2:Fit d2)
    (hq:EOut hb id ser iss sub key frm til Q (extS r nm true (ns,authB d2.kids))):Y0.p5 Q (.p (some ⟨id,9,0⟩)) (.mp (some mid)) basOid (.p (some ⟨rid2,5,0⟩)) v n i false h:=by
  have fin:∀ (b:Bool) (h:AHeap),b=authB d2.kids→ESt hb id mid ser iss sub key frm til h kv nm true ns au nv→pStore 1 (.p (some ⟨id,9,6⟩)) (.b b) h fun h'=>Y0.p6 Q (.p (some ⟨id,9,0⟩)) (.mp (some mid)) v n i h':=by
    intro b h hb' S
    refine st_store S.r rfl (by show 6<9; omega) rfl rfl rfl fun h' hl' U R'=>?_
    refine Y0.i6 ?_
    simp only [Y0.t6,Y0.j10]
    refine ext_p10 nx hn hi (au:=b) ⟨R',S.m.upd U S.ne,S.sa,S.sb,S.sx,⟨S.u.own U S.il,S.s.stk.upd U fun a ha e=>(S.ni a ha).1 e,S.s.new⟩,S.ni,S.il,S.ml,S.ne⟩ h16 ?_
    rw [hb']; exact hq
  obtain ⟨w,rs,g1,g2,g3,g4,g5⟩:=D2.kidsLen
  have K2:KL h F2 w d2.kids rs:=⟨g2,g3,fun i hi=>(g5 i hi).1⟩
  refine Y0.i5 ?_
  simp only [Y0.t5]
  refine bif_f rfl (withB_is (n:=true) (by decide) (bif_t rfl ?_))
  refine st_fld (st_load R2 D2.len.symm g1 ?_)
  rw [K2.rd.plen]
  cases hk:d2.kids with
  | nil =>
    refine bif_f (by simp) (st_nil (st_fld (st_fld (fin _ h (by rw [hk] <;> rfl) S))))
  | cons k kr =>
    rw [hk] at K2
    obtain ⟨rk,A⟩:=K2.at (i:=0) (k:=k) rfl
    have hfk:Fit k:=hf2.kid (by rw [hk]; simp)
    have i0:∀ (h':AHeap),Upd (fun _=>False) h h'→∀ K:AV→Prop,pIdxAddrSl 5 w (.i .i64 0) h' K=K (ptr w 5 0 0):=A.idx
    refine bif_t (by simp) ?_
    simp only [q_gl3 (G.up S.u).tru]
    refine st_fld (st_load R2 D2.len.symm g1 ?_)
    simp only [i0 h (Upd.refl _ _),A.ld h (Upd.refl _ _)]
    refine shapeIs_c A.dv (st_asB ?_)
    simp only [i0 h (Upd.refl _ _),q_same]
    refine ⟨trivial, ?_⟩
    refine st_load R2 D2.len.symm g1 ?_
    refine ⟨rfl, ?_⟩
    refine st_load R2 D2.len.symm g1 ?_
    refine ⟨rfl, ?_⟩
    refine bif_both (fun e=>?_) fun e=>st_nil (st_fld (st_fld (fin _ h (by
      rw [hk]
      show false=(truthB k&&_)
      unfold truthB
      rw [e] <;> rfl) S)))
    refine st_fld (st_load R2 D2.len.symm g1 ?_)
    simp only [i0 h (Upd.refl _ _),A.fa,A.f3 h (Upd.refl _ _),q_asS]
    refine bif_both (fun e2=>?_) fun e2=>st_nil (st_fld (st_fld (fin _ h (by
      rw [hk]
      show false=(truthB k&&_)
      unfold truthB
      have e2:=of_decide_eq_false e2
      rw [e,decide_eq_false (show ¬ k.data.length=1 by omega)] <;> rfl) S)))
    refine st_fld (st_load R2 D2.len.symm g1 ?_)
    simp only [i0 h (Upd.refl _ _),A.fa,A.f3 h (Upd.refl _ _),q_asS]
    refine st_nil (st_fld (st_fld (fin _ h (by
      rw [hk]
      show (!decide (k.data=[0]))=(truthB k && !decide (k.data=[0]))
      unfold truthB
      have e2:=of_decide_eq_true e2
      rw [e,decide_eq_true (show k.data.length=1 by omega)] <;> rfl) S)))
theorem ext_p5a (G:CG2 hb) {F2:Nat→Prop} {d2:Der} {cs2:List AV} {rid2 lo:Nat} (S:ESt hb id mid ser iss sub key frm til h kv true bs ns au nv) (h16:ns.length≤16) (D2:DV h F2 d2 cs2) (R2:RecAt h rid2 cs2) (hF2:∀ a,F2 a→lo≤a) (hid:id<lo) (hmid:mid<lo) (hlo:lo≤h.length) (hnv:∀ a,SlAt nv a→a<lo) (hf2:Fit d2)
    (hq:EOut hb id ser iss sub key frm til Q (extS r true bs (addNames ns d2.kids,au))):Y0.p5 Q (.p (some ⟨id,9,0⟩)) (.mp (some mid)) altOid (.p (some ⟨rid2,5,0⟩)) v n i false h:=by
  obtain ⟨w,rs,g1,g2,g3,g4,g5⟩:=D2.kidsLen
  refine Y0.i5 ?_
  simp only [Y0.t5,Y0.j7]
  refine bif_f rfl (withB_is (n:=false) (by decide) (bif_f rfl ?_))
  refine st_fld (st_load R2 D2.len.symm g1 ?_)
  have K2:KL h (fun a=>F2 a∧a<h.length) w d2.kids rs:=by
    refine ⟨?_,g3,fun i hi=>⟨(g5 i hi).1,(g5 i hi).2⟩⟩
    exact g2.upd (Upd.refl (fun _=>False) h) fun a ha hlt=>⟨fun h=>h,ha,hlt⟩
  rw [K2.rd.plen]
  have hkl:=hf2.few
  exact ext_p7 G K2 (lo:=lo) (fun a ha=>⟨hF2 a ha.1,ha.2⟩) hid hmid hlo (fun k hk=>hf2.kid hk) hkl d2.kids 0 h nv ns rfl (by omega) (Upd.refl _ _) S (fun a ha=>.inl (hnv a ha)) fun h' nv' S'=>ext_p10 nx hn hi S' (addNames_len _ _ h16) hq
end
end
end Go.Proofs.YtcdkpkkdolmfdaaGreatDoor
namespace Go.Proofs.YtcdkpkkdolmfdaaGreatDoor
open Go.GAM Go.RowKit
theorem key_ok (t:List UInt8):keyV prog 9 (sκ t)=true:=by
  unfold keyV; rw [show prog.underlying 9=some .string from Tryz.underlying9]
section
variable {hb:AHeap} {id mid:Nat} {ser iss sub key:List UInt8} {frm til:Int} {Q:AV→AHeap→Prop} {h:AHeap} {kv:List (List UInt8 × AV)} {nm bs:Bool} {ns:List (List UInt8)} {au:Bool} {nv:AV}
variable {v:AV} {n i:Nat} {r:List Der} {d:Der} {t s:List UInt8} (nx:Nx hb id mid ser iss sub key frm til Q v n i r) (hn:n≤300) (hi:i≤300) (G:CG2 hb)
variable {F:Nat→Prop} {w0:AV} {j:Nat} {last:Der} {rl cs:List AV} {rid:Nat}
theorem ESt.seen (S:ESt hb id mid ser iss sub key frm til h kv nm bs ns au nv) {t:List UInt8} {h':AHeap} (U:Upd (· = mid) h h') (M:MapAt sκ h' mid (upM kv t (.b true))) :
    ESt hb id mid ser iss sub key frm til h' (upM kv t (.b true)) (nm||decide (t=altOid)) (bs||decide (t=basOid)) ns au nv:=by
  have key:∀ (o:List UInt8) (b:Bool),(lkM kv o).getD (.b false) = .b b→(lkM (upM kv t (.b true)) o).getD (.b false) = .b (b||decide (t=o)):=by
    intro o b hb'
    rw [lkM_up]
    by_cases e:o=t
    · rw [if_pos e,decide_eq_true e.symm,Bool.or_true] <;> rfl
    · rw [if_neg e,decide_eq_false (fun h=>e h.symm),Bool.or_false]; exact hb'
  refine ⟨S.r.upd U fun e=>S.ne e.symm,M,key _ _ S.sa,key _ _ S.sb,fun o=>?_,⟨S.u.own U S.ml,S.s.stk.upd U fun a ha e=>(S.ni a ha).2 e,S.s.new⟩,S.ni,S.il,S.ml,S.ne⟩
  obtain ⟨b,hb'⟩:=S.sx o
  exact ⟨_,key o b hb'⟩
include nx hn hi G
theorem ext_p4 (S : ESt hb id mid ser iss sub key frm til h kv nm bs ns au nv) (h16 : ns.length ≤ 16) (A : KAt hb F w0 j last rl) (hj : j ≤ 300) (R : RecAt h rid cs) (hcl : cs.length = 5) (hw : cs[4]? = some w0) (hri : rid ≠ id) (hrm : rid ≠ mid) (hs : last.data = s) (hfl : Fit last)
    (hx:extOne d=some (t,s)) (ht:(t=altOid∧nm=false)∨(t=basOid∧bs=false)) (hq:EOut hb id ser iss sub key frm til Q (extS (d :: r) nm bs (ns,au))) :
    Y0.p4 Q (.p (some ⟨id,9,0⟩)) (.mp (some mid)) (.p (some ⟨rid,5,0⟩)) ((j+1:Nat):Int) t v n i false h:=by
  have hne:altOid≠basOid:=by decide
  refine Y0.i4 ?_
  simp only [Y0.t4,Y0.j5]
  refine bif_f rfl (st_mapset S.m keyStr (key_ok t) rfl fun h1 hl1 U1 M1=>?_)
  have S1:=S.seen U1 M1
  have R1:=R.upd U1 hrm
  refine st_fld (st_load R1 hcl.symm hw ?_)
  refine withI_is (n:=(j:Int)) (by rw [wrap_i64 (by omega) (by omega)]; omega) ?_
  simp only [A.idx h1 S1.u,A.fa,A.f3 h1 S1.u,q_asS]
  have fail:innerS s=none→∀ h' rid2,Upd (fun _=>False) hb h'→RecAt h' id (pc ser iss sub frm til nv au key true)→Y0.p5 Q (.p (some ⟨id,9,0⟩)) (.mp (some mid)) t rid2 v n i true h':=by
    intro hin h' rid2 U' R'
    refine Y0.i5 ?_
    simp only [Y0.t5]
    exact bif_t rfl (ext_failI hq hx ht hin U' R')
  rw [hs]
  refine decode_c ?_
  cases hd:decS s with
  | error e =>
    intro h2 U2
    have hin:innerS s=none:=by unfold innerS; rw [hd]
    have S2:=S1.up U2
    refine st_ext0 (st_ext1 (st_asI ?_))
    refine st_alloc fun h3 hl3 U3 R3=>?_
    refine st_storeN R3 rfl rfl rfl fun h4 hl4 U4 R4=>?_
    have U24:Upd (fun _=>False) h2 h4:=U3.own U4 (Nat.le_refl _)
    refine bif_f (decide_eq_false (decS_err hd)) ?_
    refine need_e (S2.up U24) (fun e=>by cases e) fun _ h5 V5 U5 R5=>st_asB ?_
    exact fail hin h5 _ U5 R5
  | ok d2 =>
    intro cs2 h2 U2 D2
    have hf2:=Fit.of hd
    have S2:=S1.up U2
    refine st_ext0 (st_ext1 (st_asI ?_))
    refine st_alloc fun h3 hl3 U3 R3=>?_
    refine st_storeN R3 rfl D2.len D2.cells' fun h4 hl4 U4 R4=>?_
    have U24:Upd (fun _=>False) h2 h4:=U3.own U4 (Nat.le_refl _)
    have S4:=S2.up U24
    have D4:=D2.ext U24
    refine bif_t rfl ?_
    simp only [q_gl3 (G.up S4.u).g.seq]
    refine st_loadN R4 D2.len.symm ?_
    refine shapeIs_c D4 (st_asB ?_)
    refine need_e S4 (fun e h5 U5 S5=>st_asB ?_) fun e h5 V5 U5 R5=>st_asB ?_
    · have hin : innerS s = some d2.kids := by
        unfold innerS; rw [hd]; simp only
        rw [if_pos (show seqB d2=true from e)]
      have hidlt:id<h1.length:=S1.r.lt
      have hmlt:mid<h1.length:=M1.lt
      have hl12:=U2.1
      have D5:DV h5 (fun i=>h1.length≤i) d2 cs2:=D4.upd U5 fun a ha _=>⟨by omega,ha⟩
      have R5:=R4.upd U5 (by omega)
      show Y0.p5 Q (.p (some ⟨id,9,0⟩)) (.mp (some mid)) t (.p (some ⟨h2.length,5,0⟩)) v n i false h5
      rcases ht with ⟨rfl,hnm⟩ | ⟨rfl,hbs⟩
      · subst hnm
        rw [ext_alt' hx hin] at hq
        have S5':ESt hb id mid ser iss sub key frm til h5 (upM kv altOid (.b true)) true bs ns au nv:=by
          have:=S5
          rw [decide_eq_false hne,Bool.or_false,decide_eq_true rfl] at this
          exact this
        exact ext_p5a nx hn hi G S5' h16 D5 R5 (lo:=h1.length) (fun a ha=>ha) hidlt hmlt (by have:=U24.1; have:=U5.1; omega) (fun a ha=>Rd.lt S1.s.stk.rd ha) hf2 hq
      · subst hbs
        rw [ext_bas' hx hin] at hq
        have S5':ESt hb id mid ser iss sub key frm til h5 (upM kv basOid (.b true)) nm true ns au nv:=by
          have:=S5
          rw [decide_eq_false (fun h=>hne h.symm),Bool.or_false,decide_eq_true rfl] at this
          exact this
        exact ext_p5b nx hn hi G S5' h16 D5 R5 (by omega) (fun a ha=>by omega) hf2 hq
    · have hin : innerS s = none := by
        unfold innerS; rw [hd]; simp only
        rw [if_neg (show ¬ seqB d2=true by rw [show seqB d2=false from e]; decide)]
      exact fail hin h5 _ U5 R5
theorem ext_p3 (S:ESt hb id mid ser iss sub key frm til h kv nm bs ns au nv) (h16:ns.length≤16) (A:KAt hb F w0 j last rl) (hj:j≤300) (R:RecAt h rid cs) (hcl:cs.length=5) (hw:cs[4]? = some w0) (hri:rid≠id) (hrm:rid≠mid) (hs:last.data=s) (hfl:Fit last)
    (hx:extOne d=some (t,s)) (hq:EOut hb id ser iss sub key frm til Q (extS (d :: r) nm bs (ns,au))) :
    Y0.p3 Q (.p (some ⟨id,9,0⟩)) (.mp (some mid)) (.p (some ⟨rid,5,0⟩)) ((j+1:Nat):Int) t v n i false h:=by
  have skip:¬ (t=altOid∧nm=false)→¬ (t=basOid∧bs=false)→Y0.p4 Q (.p (some ⟨id,9,0⟩)) (.mp (some mid)) (.p (some ⟨rid,5,0⟩)) ((j+1:Nat):Int) t v n i true h:=by
    intro h1 h2
    refine Y0.i4 ?_
    simp only [Y0.t4,Y0.j10]
    rw [ext_skip hx h1 h2] at hq
    exact bif_t rfl (ext_p10 nx hn hi S h16 hq)
  have go:(t=altOid∧nm=false)∨(t=basOid∧bs=false)→Y0.p4 Q (.p (some ⟨id,9,0⟩)) (.mp (some mid)) (.p (some ⟨rid,5,0⟩)) ((j+1:Nat):Int) t v n i false h:=
    fun ht=>ext_p4 nx hn hi G S h16 A hj R hcl hw hri hrm hs hfl hx ht hq
  have hne:altOid≠basOid:=by decide
  refine Y0.i3 ?_
  simp only [Y0.t3,Y0.j4]
  refine bif_f rfl (st_lookup S.m keyStr (key_ok t) (z:=.b false) (by kernel_rfl) ?_)
  obtain ⟨b,hb'⟩:=S.sx t
  rw [hb']
  refine st_asB ?_
  by_cases h1:t=altOid
  · subst h1
    obtain rfl:b=nm:=by have:=S.sa; rw [hb'] at this; injection this
    cases b with
    | true=>exact bif_t rfl (skip (by simp) fun h=>hne h.1)
    | false=>exact bif_f rfl (withB_is (n:=false) (by decide) (bif_f rfl (go (.inl ⟨rfl,rfl⟩))))
  · have e1 : (!decide (t = [50, 46, 53, 46, 50, 57, 46, 49, 55])) = true := by rw [decide_eq_false (show ¬ t = [50, 46, 53, 46, 50, 57, 46, 49, 55] from h1)] <;> rfl
    by_cases h2:t=basOid
    · subst h2
      obtain rfl:b=bs:=by have:=S.sb; rw [hb'] at this; injection this
      cases b with
      | true=>exact bif_t rfl (skip (fun h=>h1 h.1) (by simp))
      | false=>exact bif_f rfl (withB_is (n:=true) e1 (bif_t rfl (withB_is (n:=false) (by decide) (go (.inr ⟨rfl,rfl⟩)))))
    · have e2 : (!decide (t = [50, 46, 53, 46, 50, 57, 46, 49, 57])) = true := by rw [decide_eq_false (show ¬ t = [50, 46, 53, 46, 50, 57, 46, 49, 57] from h2)] <;> rfl
      cases b with
      | true=>exact bif_t rfl (skip (fun h=>h1 h.1) fun h=>h2 h.1)
      | false=>exact bif_f rfl (withB_is (n:=true) e1 (bif_t rfl (withB_is (n:=true) e2 (skip (fun h=>h1 h.1) fun h=>h2 h.1))))
theorem ext_p2 {ok crit : Bool} (S : ESt hb id mid ser iss sub key frm til h kv nm bs ns au nv) (h16 : ns.length ≤ 16) (A : KAt hb F w0 j last rl) (hj : j ≤ 300) (R : RecAt h rid cs) (hcl : cs.length = 5) (hw : cs[4]? = some w0) (hri : rid ≠ id) (hrm : rid ≠ mid) (hfl : Fit last)
    (hx:extOne d=if (crit&&(isS 0 4 false last&&ok))=true then some (t,last.data) else none) (hq:EOut hb id ser iss sub key frm til Q (extS (d :: r) nm bs (ns,au))) :
    Y0.p2 Q (.p (some ⟨id,9,0⟩)) (.mp (some mid)) (.p (some ⟨rid,5,0⟩)) ((j+1:Nat):Int) t ok crit v n i h:=by
  have fail:extOne d=none→∀ h',Upd (fun _=>False) hb h'→RecAt h' id (pc ser iss sub frm til nv au key true)→Y0.p3 Q (.p (some ⟨id,9,0⟩)) (.mp (some mid)) (.p (some ⟨rid,5,0⟩)) ((j+1:Nat):Int) t v n i true h':=by
    intro hin h' U' R'
    refine Y0.i3 ?_
    simp only [Y0.t3]
    exact bif_t rfl (ext_fail hq hin U' R')
  refine Y0.i2 ?_
  simp only [Y0.t2,Y0.j3,q_same,true_and]
  refine bif_both (fun e1=>?_) fun e1=>?_
  · refine bif_both (fun e2 => ?_) fun e2 => ?_
    · simp only [q_gl3 (G.up S.u).oct]
      refine st_fld (st_load R hcl.symm hw ?_)
      refine withI_is (n:=(j:Int)) (by rw [wrap_i64 (by omega) (by omega)]; omega) ?_
      simp only [A.idx h S.u,A.ld h S.u]
      refine shapeIs_c (A.dv.ext S.u) (st_asB ?_)
      simp only [A.idx h S.u,q_same,true_and]
      refine st_load R hcl.symm hw ⟨rfl, ?_⟩
      have fin:∀ (c:Bool) (h':AHeap),Upd (fun _=>False) hb h'→RecAt h' rid cs→Y0.p3 Q (.p (some ⟨id,9,0⟩)) (.mp (some mid)) (.p (some ⟨rid,5,0⟩)) ((j+1:Nat):Int) t v n i (!c) h' →
          pLoadN 5 (ptr w0 5 j 0) h' fun v79=>AV.ag rl=v79∧pIdxAddrSl 5 w0 (AV.i .i64 (j:Int)) h' fun v80=>ptr w0 5 j 0=v80∧pLoad1 (.p (some ⟨rid,5,0+4⟩)) h' fun v81=>w0=v81∧pLoadN 3 (gvar h' 9) h' fun v82=>AV.ag [.i .i64 0,.i .i64 4,.b false]=v82 ∧
            Y0.p3 Q (.p (some ⟨id,9,0⟩)) (.mp (some mid)) (.p (some ⟨rid,5,0⟩)) ((j+1:Nat):Int) t v n i (!c) h':=by
        intro c h' U' R' hk
        simp only [A.ld h' U',A.idx h' U',q_same,true_and]
        refine st_load R' hcl.symm hw ⟨rfl, ?_⟩
        simp only [q_gl3 (G.up U').oct,q_same,true_and]
        exact hk
      refine need_e S (fun e h5 U5 S5=>st_asB (fin true h5 S5.u (R.upd U5 hri) ?_)) fun e h5 V5 U5 R5=>st_asB (fin false h5 U5 (R.upd V5 hri) ?_)
      · refine ext_p3 nx hn hi G S5 h16 A hj (R.upd U5 hri) hcl hw hri hrm rfl hfl ?_ hq
        rw [hx,e1,e2,e] <;> rfl
      · exact fail (by rw [hx,e1,e2,e] <;> rfl) h5 U5 R5
    · refine need_e S (fun e => by cases e) fun _ h5 V5 U5 R5 => st_asB ?_
      exact fail (by rw [hx,e2] <;> rfl) h5 U5 R5
  · refine need_e S (fun e => by cases e) fun _ h5 V5 U5 R5 => st_asB ?_
    exact fail (by rw [hx,e1,Bool.and_false,Bool.and_false] <;> rfl) h5 U5 R5
theorem ext_p1 {r':List AV} (S:ESt hb id mid ser iss sub key frm til h kv nm bs ns au nv) (h16:ns.length≤16) {v1:AV} {i1:Nat} (A:KAt hb F v1 i1 d r') (R:RecAt h rid r') (hri:rid≠id) (hrm:rid≠mid) (hfd:Fit d)
    (hs:seqB d=true) (hk:d.kids.length=2∨d.kids.length=3) (hq:EOut hb id ser iss sub key frm til Q (extS (d :: r) nm bs (ns,au))) :
    Y0.p1 Q (.p (some ⟨id,9,0⟩)) (.mp (some mid)) (.p (some ⟨rid,5,0⟩)) (d.kids.length:Nat) v n i false h:=by
  obtain ⟨w,rs,g1,K,_⟩:=A.f4
  have hcl:=A.row
  have hk0:d.kids[0]? = some (d.kids[0]'(by omega)):=List.getElem?_eq_getElem _
  generalize d.kids[0]'(by omega)=k0 at hk0
  obtain ⟨r0,A0⟩:=K.at hk0
  have hf0:Fit k0:=hfd.kid (List.mem_of_getElem? hk0)
  have a0:∀ (h':AHeap),Upd (fun _=>False) hb h'→∀ K:AV→Prop,pIdxAddrSl 5 w (.i .i64 0) h' K=K (ptr w 5 0 0):=A0.idx
  refine Y0.i1 ?_
  simp only [Y0.t1,Y0.j2]
  refine bif_f rfl (st_fld (st_load R hcl.symm g1 ?_))
  simp only [a0 h S.u,A0.ld h S.u]
  refine oid_c (A0.dv.ext S.u) (by have:=hf0.data; omega) ?_
  refine st_ext0 (st_asS (st_ext1 (st_asB ?_)))
  rcases hk with hk | hk
  · have hk1 : d.kids[1]? = some (d.kids[1]'(by omega)) := List.getElem?_eq_getElem _
    generalize d.kids[1]'(by omega)=k1 at hk1
    obtain ⟨r1,A1⟩:=K.at hk1
    rw [hk]
    refine bif_t rfl (ext_p2 (j:=1) nx hn hi G S h16 A1 (by omega) R hcl g1 hri hrm (hfd.kid (List.mem_of_getElem? hk1)) ?_ hq)
    have hkk:d.kids=[k0,k1]:=by
      match hd:d.kids,hk with
      | [x,y],_=>rw [hd] at hk0 hk1; simp at hk0 hk1; rw [hk0,hk1]
    unfold extOne
    rw [hkk]
    simp only
    rw [hs,Bool.true_and]
  · have hk1 : d.kids[1]? = some (d.kids[1]'(by omega)) := List.getElem?_eq_getElem _
    generalize d.kids[1]'(by omega)=k1 at hk1
    have hk2:d.kids[2]? = some (d.kids[2]'(by omega)):=List.getElem?_eq_getElem _
    generalize d.kids[2]'(by omega)=k2 at hk2
    obtain ⟨r1,A1⟩:=K.at hk1
    obtain ⟨r2,A2⟩:=K.at hk2
    have a1:∀ (h':AHeap),Upd (fun _=>False) hb h'→∀ K:AV→Prop,pIdxAddrSl 5 w (.i .i64 1) h' K=K (ptr w 5 1 0):=A1.idx
    have hkk:d.kids=[k0,k1,k2]:=by
      match hd:d.kids,hk with
      | [x,y,z],_=>rw [hd] at hk0 hk1 hk2; simp at hk0 hk1 hk2; rw [hk0,hk1,hk2]
    have hx:∀ b,b=truthB k1→extOne d=if (b&&(isS 0 4 false k2&&(oidS k0).2))=true then some ((oidS k0).1,k2.data) else none:=by
      intro b hb'
      subst hb'
      unfold extOne
      rw [hkk]
      simp only
      rw [hs,Bool.true_and]
    have go:∀ b,b=truthB k1→Y0.p2 Q (.p (some ⟨id,9,0⟩)) (.mp (some mid)) (.p (some ⟨rid,5,0⟩)) (3:Int) (oidS k0).1 (oidS k0).2 b v n i h:=fun b hb'=>
      ext_p2 (j:=2) nx hn hi G S h16 A2 (by omega) R hcl g1 hri hrm (hfd.kid (List.mem_of_getElem? hk2)) (hx b hb') hq
    rw [hk]
    refine bif_f rfl ?_
    simp only [q_gl3 (G.up S.u).tru]
    refine st_fld (st_load R hcl.symm g1 ?_)
    simp only [a1 h S.u,A1.ld h S.u]
    refine shapeIs_c (A1.dv.ext S.u) (st_asB ?_)
    simp only [a1 h S.u,q_same,true_and]
    refine st_load R hcl.symm g1 ⟨rfl, ?_⟩
    refine bif_both (fun e=>?_) fun e=>go false (by unfold truthB; rw [e] <;> rfl)
    refine st_fld (st_load R hcl.symm g1 ?_)
    rw [a1 h S.u,A1.fa,A1.f3 h S.u,q_asS]
    refine go _ ?_
    unfold truthB
    rw [e,Bool.true_and,decide_eq_decide]; omega
end
section
variable {hb:AHeap} {id mid:Nat} {ser iss sub key:List UInt8} {frm til:Int} {Q:AV→AHeap→Prop} {v:AV} {l:List Der} {rows:List (List AV)} {F:Nat→Prop}
theorem ext_p0 (G : CG2 hb) (L : KL hb F v l rows) (hfit : ∀ k ∈ l, Fit k) (hl : l.length ≤ 256) : ∀ (r : List Der) (i : Nat) (h : AHeap) (kv : List (List UInt8 × AV)) (nm bs : Bool) (ns : List (List UInt8)) (au : Bool) (nv : AV), l.drop i = r → ESt hb id mid ser iss sub key frm til h kv nm bs ns au nv → ns.length ≤ 16 →
    EOut hb id ser iss sub key frm til Q (extS r nm bs (ns,au))→Y0.p0 Q (.p (some ⟨id,9,0⟩)) (.mp (some mid)) v (l.length:Nat) (i:Nat) h:=by
  intro r
  induction r with
  | nil =>
    intro i h kv nm bs ns au nv hr S h16 hq
    have:=drop_end hr
    refine Y0.i0 ?_
    simp only [Y0.t0]
    refine bif_f (by simp; omega) (hq h nv au false S.u S.r rfl fun x hx=>?_)
    unfold extS at hx
    cases hx
    have:=S.s.stk.rd.i
    rw [List.length_map] at this
    exact ⟨rfl,this,S.s.new⟩
  | cons d r ih =>
    intro i h kv nm bs ns au nv hr S h16 hq
    have hlt:=drop_lt hr
    have hj:=at_of_drop hr
    have hfd:=hfit d (List.mem_of_getElem? hj)
    have nx:Nx hb id mid ser iss sub key frm til Q v l.length i r:=fun h' kv' nm' bs' ns' au' nv' S' h16' hq'=>ih (i+1) h' kv' nm' bs' ns' au' nv' (drop_next hr) S' h16' hq'
    obtain ⟨r',A⟩:=L.at hj
    have hcl:=A.row
    obtain ⟨w,rs,g1,K,_⟩:=A.f4
    refine Y0.i0 ?_
    simp only [Y0.t0,Y0.j1]
    refine bif_t (by simp; omega) ?_
    simp only [A.idx h S.u,A.ld h S.u]
    refine st_alloc fun h1 hl1 U1 R1=>?_
    refine st_storeN R1 rfl hcl A.dv.cells' fun h2 hl2 U2 R2=>?_
    have U02:Upd (fun _=>False) h h2:=U1.own U2 (Nat.le_refl _)
    have S2:=S.up U02
    refine st_fld (st_load R2 hcl.symm g1 ?_)
    rw [(K.up S2.u).rd.plen]
    simp only [q_gl3 (G.up S2.u).g.seq]
    refine st_loadN R2 hcl.symm ?_
    refine shapeIs_c (A.dv.ext S2.u) (st_asB ?_)
    have hri:h.length≠id:=by have:=S.r.lt; omega
    have hrm:h.length≠mid:=by have:=S.m.lt; omega
    have fail:extOne d=none→∀ h',Upd (fun _=>False) hb h'→RecAt h' id (pc ser iss sub frm til nv au key true)→Y0.p1 Q (.p (some ⟨id,9,0⟩)) (.mp (some mid)) (.p (some ⟨h.length,5,0⟩)) (d.kids.length:Nat) v l.length i true h':=by
      intro hin h' U' R'
      refine Y0.i1 ?_
      simp only [Y0.t1]
      exact bif_t rfl (ext_fail hq hin U' R')
    have nos:seqB d=false→extOne d=none:=by
      intro e
      unfold extOne
      split
      · rw [e] <;> rfl
      · rw [e] <;> rfl
      · rfl
    refine bif_both (fun e=>?_) fun e=>?_
    · refine bif_both (fun e2 => ?_) fun e2 => ?_
      · refine need_e S2 (fun _ h3 U3 S3 => st_asB ?_) fun e => by cases e
        have e2:=of_decide_eq_true e2
        exact ext_p1 nx (by omega) (by omega) G S3 h16 A (R2.upd U3 hri) hri hrm hfd e (.inl (by omega)) hq
      · have e2 := of_decide_eq_false e2
        refine need_e S2 (fun e3 h3 U3 S3=>st_asB ?_) fun e3 h3 V3 U3 R3=>st_asB (fail ?_ h3 U3 R3)
        · have e3 := of_decide_eq_true e3
          exact ext_p1 nx (by omega) (by omega) G S3 h16 A (R2.upd U3 hri) hri hrm hfd e (.inr (by omega)) hq
        · have e3 := of_decide_eq_false e3
          unfold extOne
          split
          · rename_i hk; rw [hk] at e2; exact absurd rfl e2
          · rename_i hk; rw [hk] at e3; exact absurd rfl e3
          · rfl
    · refine need_e S2 (fun e=>by cases e) fun _ h3 V3 U3 R3=>st_asB (fail (nos e) h3 U3 R3)
theorem extensions_c {h:AHeap} (G:CG2 hb) (L:KL hb F v l rows) (hfit:∀ k∈l,Fit k) (hl:l.length≤256) (U:Upd (fun _=>False) hb h) (hid:hb.length≤id) (R:RecAt h id (pc ser iss sub frm til (.sl none 0 none) false key false))
    (hq:EOut hb id ser iss sub key frm til Q (extS l false false ([],false))):C Y0.id [.p (some ⟨id,9,0⟩),v] h Q:=by
  refine Y0.call ?_
  simp only [Y0.t,Y0.j0]
  refine st_makeMap sκ fun h1 hl1 U1 M1=>?_
  have U01:=U.trans U1 fun _ _ h=>h
  rw [(L.up U01).rd.plen]
  have hlt:=R.lt
  have hq':EOut hb id ser iss sub key frm til (kRet h Q) (extS l false false ([],false)):=fun h' nv au bad a b c d=>.inl (hq h' nv au bad a b c d)
  have S:ESt hb id h.length ser iss sub key frm til h1 [] false false [] false (.sl none 0 none):=
    ⟨R.upd U1 fun h=>h,M1,rfl,rfl,fun t=>⟨false,rfl⟩,⟨U01,.inl ⟨rfl,rfl⟩,fun i hi=>hi.elim⟩,fun i hi=>hi.elim,hid,U.1,by omega⟩
  exact ext_p0 G L hfit hl l 0 h1 [] false false [] false _ rfl S (by simp) hq'
end
end Go.Proofs.YtcdkpkkdolmfdaaGreatDoor
namespace Go.GAM
theorem st_subsU {l:List UInt8} {k:IntKind} {lo hi:Nat} {K:List UInt8→Prop} (h:lo≤hi) (h2:hi≤l.length) (hk:K ((l.take hi).drop lo)):pSliceStr (.s l) (some (.i k lo)) (some (.i k hi)) K:=by
  refine ⟨by omega,by omega,by simpa using h,by simpa using h2, ?_⟩
  simpa using hk
end Go.GAM
namespace Go.Proofs.YtcdkpkkdolmfdaaGreatDoor
open Go.GAM Go.RowKit
abbrev hexDig:List UInt8:=[48,49,50,51,52,53,54,55,56,57,97,98,99,100,101,102]
theorem hexDig_at:∀ x,x<16→(hexDig.take (x+1)).drop x=[hexD x]:=by decide
theorem and15' (c:UInt8):bitsOp .and .u8 (c.toNat:Int) 15=((c.toNat % 16:Nat):Int):=by
  have:=bits_and8 (x:=c.toNat) (y:=15) c.toNat_lt (by omega)
  rw [show ((15:Nat):Int)=15 from rfl] at this
  rw [this,show 15=2 ^ 4 - 1 from rfl,Nat.and_two_pow_sub_one_eq_mod]
theorem hexS_len (l:List UInt8):(hexS l).length=2 * l.length:=by
  induction l with
  | nil=>rfl
  | cons c l ih=>show (_++hexS l).length=_; rw [List.length_append,ih]; simp; omega
theorem hexS_snoc (l:List UInt8) (c:UInt8):hexS (l++[c])=hexS l++([hexD (c.toNat / 16)]++[hexD (c.toNat % 16)]):=by simp [hexS]
theorem HasPrefix_c {l p:List UInt8} {h:AHeap} {Q:AV→AHeap→Prop} (hk:Q (.b (hasPre l p)) h):C Y71.id [.s l,.s p] h Q:=by
  refine Y71.call ?_
  simp only [Y71.t]
  exact hasPrefix_c (st_asB (.inl hk))
def COut (hb : AHeap) (id : Nat) (Q : AV → AHeap → Prop) (res : Option Cert) : Prop :=
  ∀ h' ser iss sub frm til nv au key bad, Upd (fun _ => False) hb h' → RecAt h' id (pc ser iss sub frm til nv au key bad) → bad = res.isNone →
    (∀ c,res=some c→c.serial=ser∧c.issuer=iss∧c.subject=sub∧c.frm=frm∧c.til=til∧c.auth=au∧c.key=key∧RdI 1 h' nv (c.names.map .s) c.names.length∧∀ i,SlAt nv i→hb.length≤i)→Q (.tu []) h'
section
variable {hb h:AHeap} {id:Nat} {ser iss sub key:List UInt8} {frm til:Int} {nv:AV} {au bad:Bool} {Q:AV→AHeap→Prop}
theorem COut.fail (hq:COut hb id Q none) (U:Upd (fun _=>False) hb h) (R:RecAt h id (pc ser iss sub frm til nv au key true)):Q (.tu []) h:=
  hq h _ _ _ _ _ _ _ _ true U R rfl fun c h=>by cases h
theorem need_r {ok:Bool} {K:AV→AHeap→Prop} (U:Upd (fun _=>False) hb h) (hid:hb.length≤id) (R:RecAt h id (pc ser iss sub frm til nv au key bad))
    (hk:∀ h',Upd (fun _=>False) hb h'→RecAt h' id (pc ser iss sub frm til nv au key (bad || !ok))→K (.b (!(bad || !ok))) h'):C Y24.id [.p (some ⟨id,9,0⟩),.b ok] h K:=
  need_c R rfl rfl fun h' U' R'=>hk h' (U.own U' hid) R'
variable {F:Nat→Prop} (hF:∀ i,F i→i<hb.length) (hid:hb.length≤id) (G:CG2 hb)
include hid G in
theorem content_p3 {w:AV} {k:Der} {r:List AV} (A:KAt hb F w 0 k r) (hk:Fit k) (U:Upd (fun _=>False) hb h) (R:RecAt h id (pc ser iss sub frm til (.sl none 0 none) false key false))
    (hq:COut hb id Q ((extS k.kids false false ([],false)).map fun n=>⟨ser,iss,sub,frm,til,n.1,n.2,key⟩)):Y7.p3 Q (.p (some ⟨id,9,0⟩)) w true h:=by
  obtain ⟨w2,rs,_,K2,ld⟩:=A.f4
  have a0:∀ (h':AHeap),Upd (fun _=>False) hb h'→∀ K:AV→Prop,pIdxAddrSl 5 w (.i .i64 0) h' K=K (ptr w 5 0 0):=A.idx
  refine Y7.i3 ?_
  simp only [Y7.t3]
  refine bif_t rfl ?_
  simp only [a0 h U,A.fa,ld h U]
  refine extensions_c G K2 (fun x hx=>hk.kid hx) hk.few U hid R fun h' nv au bad U' R' hb' hx=>?_
  refine hq h' ser iss sub frm til nv au key bad U' R' (by rw [hb']; simp) fun c hc=>?_
  cases he:extS k.kids false false ([],false) with
  | none=>rw [he] at hc; cases hc
  | some n =>
    rw [he] at hc
    cases hc
    obtain ⟨h1,h2,h3⟩:=hx n he
    exact ⟨rfl,rfl,rfl,rfl,rfl,h1.symm,rfl,h2,h3⟩
variable {a b c d e f g:Der} {xs:List Der} {v:AV} {rows:List (List AV)}
include hid G in
theorem content_p2 (L : KL hb F v (a :: b :: c :: d :: e :: f :: g :: xs) rows) (hxs : xs.length ≤ 1) (hfx : ∀ x ∈ xs, Fit x) {w : AV} {q : Der} {r : List AV} (Aq : KAt hb F w 1 q r) (hkey : q.data = 0 :: key) (U : Upd (fun _ => False) hb h) (R : RecAt h id (pc ser iss sub frm til (.sl none 0 none) false [] false))
    (hq:COut hb id Q ((extX xs).map fun n=>⟨ser,iss,sub,frm,til,n.1,n.2,key⟩)):Y7.p2 Q (.p (some ⟨id,9,0⟩)) v w false h:=by
  have a1:∀ (h':AHeap),Upd (fun _=>False) hb h'→∀ K:AV→Prop,pIdxAddrSl 5 w (.i .i64 1) h' K=K (ptr w 5 1 0):=Aq.idx
  refine Y7.i2 ?_
  simp only [Y7.t2,Y7.j3]
  refine bif_f rfl ?_
  simp only [a1 h U,Aq.fa,Aq.f3 h U,q_asS]
  rw [hkey]
  refine st_subs (lo:=1) (by simp) (st_nil (st_fld (st_fld (st_store R rfl (by show 7<9; omega) rfl rfl rfl fun h1 hl1 U1 R1=>?_))))
  have V1:=U.own U1 hid
  rw [(L.up V1).rd.plen]
  match xs,hxs,L,hfx,hq with
  | [], _, L, hfx, hq =>
    refine bif_f (by simp) (hq h1 ser iss sub frm til _ false key false V1 R1 rfl fun c hc=>?_)
    cases hc
    exact ⟨rfl,rfl,rfl,rfl,rfl,rfl,rfl,(Rd.i (.inl ⟨rfl,rfl,rfl⟩)),fun i hi=>hi.elim⟩
  | [x], _, L, hfx, hq =>
    obtain ⟨rx,Ax⟩:=L.at (i:=7) (k:=x) rfl
    have a7:∀ (h':AHeap),Upd (fun _=>False) hb h'→∀ K:AV→Prop,pIdxAddrSl 5 v (.i .i64 7) h' K=K (ptr v 5 7 0):=Ax.idx
    have hfit:=hfx x (by simp)
    obtain ⟨wx,rsx,gx,Kx,ldx⟩:=Ax.f4
    refine bif_t (by simp) ?_
    simp only [q_gl3 (G.up V1).ext,a7 h1 V1,Ax.ld h1 V1]
    refine list_c (Ax.dv.ext V1) gx fun h2 U2=>?_
    have V2:=V1.trans U2 fun _ _ h=>h
    have R2:=R1.upd U2 fun h=>h
    simp only [a7 h2 V2,q_same,true_and]
    refine st_ext0 (st_ext1 (st_asB ?_))
    refine bif_both (fun e=>?_) fun e=>?_
    · rw [Bool.and_eq_true, Bool.or_eq_true, decide_eq_true_eq, decide_eq_true_eq] at e
      obtain ⟨e1,e2⟩:=e
      have e2:x.kids.length=1:=by omega
      obtain ⟨k,hk⟩:∃ k,x.kids=[k]:=by
        match x.kids,e2 with
        | [k],_=>exact ⟨k,rfl⟩
      obtain ⟨rk,Ak⟩:=Kx.at (i:=0) (k:=k) (by rw [hk] <;> rfl)
      have a0:∀ (h':AHeap),Upd (fun _=>False) hb h'→∀ K:AV→Prop,pIdxAddrSl 5 wx (.i .i64 0) h' K=K (ptr wx 5 0 0):=Ak.idx
      simp only [q_gl3 (G.up V2).g.seq,a0 h2 V2,Ak.ld h2 V2]
      refine shapeIs_c (Ak.dv.ext V2) (st_asB ?_)
      simp only [a0 h2 V2,q_same,true_and]
      refine need_r V2 hid R2 fun h3 V3 R3=>st_asB ?_
      simp only [q_gl3 (G.up V3).g.seq,a0 h3 V3,Ak.ld h3 V3,q_same,true_and,Y7.j3]
      have hx:extX [x]=if seqB k=true then extS k.kids false false ([],false) else none:=by
        unfold extX
        simp only [hk,e1,if_true]
      rw [hx] at hq
      cases hs:isS 0 16 true k with
      | true =>
        rw [hs] at R3
        rw [if_pos (show seqB k=true from hs)] at hq
        exact content_p3 hid G Ak (hfit.kid (by rw [hk]; simp)) V3 R3 hq
      | false =>
        rw [hs] at R3
        rw [if_neg (show ¬ seqB k=true by show ¬ isS 0 16 true k=true; rw [hs]; simp)] at hq
        refine Y7.i3 ?_
        simp only [Y7.t3]
        exact bif_f rfl (COut.fail hq V3 R3)
    · refine need_r V2 hid R2 fun h3 V3 R3 => st_asB ?_
      have hx:extX [x]=none:=by
        unfold extX
        by_cases e1:isS 2 3 true x=true
        · rw [e1] at e
          simp only [e1,if_true]
          split
          · rename_i k hk
            rw [hk] at e
            simp at e
          · rfl
        · simp only [e1,if_false]; rfl
      rw [hx] at hq
      refine Y7.i3 ?_
      simp only [Y7.t3]
      exact bif_f rfl (COut.fail hq V3 R3)
end
end Go.Proofs.YtcdkpkkdolmfdaaGreatDoor
namespace Go.Proofs.YtcdkpkkdolmfdaaGreatDoor
open Go.GAM Go.RowKit
theorem st_subsE {l r:List UInt8} {k:IntKind} {lo hi:Nat} {K:List UInt8→Prop} (h:lo≤hi) (h2:hi≤l.length) (he:(l.take hi).drop lo=r) (hk:K r):pSliceStr (.s l) (some (.i k lo)) (some (.i k hi)) K:=
  st_subsU h h2 (by rw [he]; exact hk)
def headB (a b c:Der):Bool:=verB a&&(isS 0 2 false b&&(!decide (b.data=[])&&seqB c))
section
variable {a b c d e f g:Der} {xs:List Der}
theorem cS_def:contentS (a :: b :: c :: d :: e :: f :: g :: xs)=(if headB a b c=true then (match nameS d,nameS f,timesS e,keyS g,extX xs with
    | some i,some s,some t,some k,some n=>some (⟨hexS b.data,i,s,t.1,t.2,n.1,n.2,k⟩:Cert)
    | _,_,_,_,_=>none) else none):=rfl
theorem cS_1 (h:headB a b c=false):contentS (a :: b :: c :: d :: e :: f :: g :: xs)=none:=by
  rw [cS_def,if_neg (by rw [h]; simp)]
theorem cS_2 (h:nameS d=none):contentS (a :: b :: c :: d :: e :: f :: g :: xs)=none:=by
  rw [cS_def,h]
  by_cases hh:headB a b c=true
  · rw [if_pos hh]
  · rw [if_neg hh]
theorem cS_3 (h:nameS f=none):contentS (a :: b :: c :: d :: e :: f :: g :: xs)=none:=by
  rw [cS_def,h]
  by_cases hh:headB a b c=true
  · rw [if_pos hh]; cases nameS d <;> rfl
  · rw [if_neg hh]
theorem cS_4 (h:timesS e=none):contentS (a :: b :: c :: d :: e :: f :: g :: xs)=none:=by
  rw [cS_def,h]
  by_cases hh:headB a b c=true
  · rw [if_pos hh]; cases nameS d <;> cases nameS f <;> rfl
  · rw [if_neg hh]
theorem cS_5 (h:keyS g=none):contentS (a :: b :: c :: d :: e :: f :: g :: xs)=none:=by
  rw [cS_def,h]
  by_cases hh:headB a b c=true
  · rw [if_pos hh]; cases nameS d <;> cases nameS f <;> cases timesS e <;> rfl
  · rw [if_neg hh]
theorem cS_ok {i s k:List UInt8} {t:Int × Int} (h:headB a b c=true) (h2:nameS d=some i) (h3:nameS f=some s) (h4:timesS e=some t) (h5:keyS g=some k) :
    contentS (a :: b :: c :: d :: e :: f :: g :: xs)=(extX xs).map fun n=>⟨hexS b.data,i,s,t.1,t.2,n.1,n.2,k⟩:=by
  rw [cS_def,if_pos h,h2,h3,h4,h5]
  cases extX xs <;> rfl
theorem kids2 {e:Der} (h:e.kids.length=2):∃ p q,e.kids=[p,q]:=by
  match e.kids,h with
  | [p,q],_=>exact ⟨p,q,rfl⟩
theorem times_no {e:Der} (h:(isS 0 16 true e&&(decide ((2:Int)<0)||decide ((e.kids.length:Int)=2)))=false):timesS e=none:=by
  unfold timesS
  split
  · rename_i h1
    split
    · rename_i p q hk
      rw [show isS 0 16 true e=true from h1,hk] at h
      simp at h
    · rfl
  · rfl
theorem key_no {g:Der} (h:(isS 0 16 true g&&(decide ((2:Int)<0)||decide ((g.kids.length:Int)=2)))=false):keyS g=none:=by
  unfold keyS
  split
  · rename_i h1
    split
    · rename_i p q hk
      rw [show isS 0 16 true g=true from h1,hk] at h
      simp at h
    · rfl
  · rfl
theorem seq2_of {e:Der} (h:(isS 0 16 true e&&(decide ((2:Int)<0)||decide ((e.kids.length:Int)=2)))=true):seqB e=true∧e.kids.length=2:=by
  rw [Bool.and_eq_true,Bool.or_eq_true,decide_eq_true_eq,decide_eq_true_eq] at h
  exact ⟨h.1,by omega⟩
end
section
variable {hb h:AHeap} {id:Nat} {Q:AV→AHeap→Prop} {F:Nat→Prop} (hF:∀ i,F i→i<hb.length) (hid:hb.length≤id) (G:CG2 hb)
variable {a b c d e f g:Der} {xs:List Der} {v:AV} {rows:List (List AV)} (L:KL hb F v (a :: b :: c :: d :: e :: f :: g :: xs) rows) (hfit:∀ k∈a :: b :: c :: d :: e :: f :: g :: xs,Fit k) (hxs:xs.length≤1)
  (hq:COut hb id Q (contentS (a :: b :: c :: d :: e :: f :: g :: xs)))
include hid hq in
theorem content_f2 {w:AV} {ser iss sub key:List UInt8} {frm til:Int} {nv:AV} {au:Bool} (U:Upd (fun _=>False) hb h) (R:RecAt h id (pc ser iss sub frm til nv au key true)) (hc:contentS (a :: b :: c :: d :: e :: f :: g :: xs)=none) :
    Y7.p2 Q (.p (some ⟨id,9,0⟩)) v w true h:=by
  rw [hc] at hq
  refine Y7.i2 ?_
  simp only [Y7.t2]
  exact bif_t rfl (COut.fail hq U R)
include hF hid G L hfit hxs hq in
theorem content_end {bad : Bool} (hbad : bad = !headB a b c) (U : Upd (fun _ => False) hb h) (R : RecAt h id (pc (hexS b.data) [] [] 0 0 (.sl none 0 none) false [] bad)) :
    Y7.p1 Q (.p (some ⟨id,9,0⟩)) v (b.data.length:Nat) (b.data.length:Nat) h:=by
  obtain ⟨r3,A3⟩:=L.at (i:=3) (k:=d) rfl
  obtain ⟨r4,A4⟩:=L.at (i:=4) (k:=e) rfl
  obtain ⟨r5,A5⟩:=L.at (i:=5) (k:=f) rfl
  obtain ⟨r6,A6⟩:=L.at (i:=6) (k:=g) rfl
  have a3:∀ (h':AHeap),Upd (fun _=>False) hb h'→∀ K:AV→Prop,pIdxAddrSl 5 v (.i .i64 3) h' K=K (ptr v 5 3 0):=A3.idx
  have a4:∀ (h':AHeap),Upd (fun _=>False) hb h'→∀ K:AV→Prop,pIdxAddrSl 5 v (.i .i64 4) h' K=K (ptr v 5 4 0):=A4.idx
  have a5:∀ (h':AHeap),Upd (fun _=>False) hb h'→∀ K:AV→Prop,pIdxAddrSl 5 v (.i .i64 5) h' K=K (ptr v 5 5 0):=A5.idx
  have a6:∀ (h':AHeap),Upd (fun _=>False) hb h'→∀ K:AV→Prop,pIdxAddrSl 5 v (.i .i64 6) h' K=K (ptr v 5 6 0):=A6.idx
  obtain ⟨w4,rs4,g4,K4,ld4⟩:=A4.f4
  obtain ⟨w6,rs6,g6,K6,ld6⟩:=A6.f4
  have fd:Fit d:=hfit d (by simp)
  have fe:Fit e:=hfit e (by simp)
  have ff:Fit f:=hfit f (by simp)
  have fg:Fit g:=hfit g (by simp)
  have hne:∀ i,F i→i≠id:=fun i hi=>by have:=hF i hi; omega
  refine Y7.i1 ?_
  simp only [Y7.t1,Y7.j2]
  refine bif_f (by simp) ?_
  simp only [a3 h U,A3.ld h U,a5 h U,A5.ld h U]
  refine pname_c (G.up U).g (A3.dv.ext U) fd.names hne R rfl rfl fun h1 U1 R1=>?_
  have V1:=U.own U1 hid
  simp only [q_asS,A5.ld h1 V1,a5 h1 V1,a3 h1 V1,q_same,true_and]
  refine pname_c (G.up V1).g (A5.dv.ext V1) ff.names hne R1 rfl rfl fun h2 U2 R2=>?_
  have V2:=V1.own U2 hid
  simp only [q_asS,a5 h2 V2,A3.ld h2 V2,a3 h2 V2,q_same,true_and]
  refine st_nil (st_fld (st_fld (st_store R2 rfl (by show 1<9; omega) rfl rfl rfl fun h3 hl3 U3 R3=>?_)))
  have V3:=V2.own U3 hid
  simp only [a5 h3 V3,q_same,true_and]
  refine st_nil (st_fld (st_fld (st_store R3 rfl (by show 2<9; omega) rfl rfl rfl fun h4 hl4 U4 R4=>?_)))
  have V4:=V3.own U4 hid
  have R4:RecAt h4 id (pc (hexS b.data) (txt (nameS d)) (txt (nameS f)) 0 0 (.sl none 0 none) false [] ((bad||(nameS d).isNone)||(nameS f).isNone)):=R4
  simp only [q_gl3 (G.up V4).g.seq,a4 h4 V4,A4.ld h4 V4]
  refine list_c (A4.dv.ext V4) g4 fun h5 U5=>?_
  have V5:=V4.trans U5 fun _ _ h=>h
  have R5:=R4.upd U5 fun h=>h
  simp only [a4 h5 V5,q_same,true_and]
  refine st_ext0 (st_ext1 (st_asB ?_))
  refine need_r V5 hid R5 fun h6 V6 R6=>st_asB ?_
  cases hB:(((bad||(nameS d).isNone)||(nameS f).isNone) || !(isS 0 16 true e&&(decide ((2:Int)<0)||decide ((e.kids.length:Int)=2)))) with
  | true =>
    rw [hB] at R6
    refine bif_t rfl (COut.fail ?_ V6 R6)
    rw [Bool.or_eq_true,Bool.or_eq_true,Bool.or_eq_true] at hB
    rcases hB with ((h1 | h1) | h1) | h1
    · rw [cS_1 (by rw [hbad] at h1; simpa using h1)] at hq; exact hq
    · rw [cS_2 (by simpa using h1)] at hq; exact hq
    · rw [cS_3 (by simpa using h1)] at hq; exact hq
    · rw [cS_4 (times_no (by rw [← Bool.not_eq_true']; exact h1))] at hq; exact hq
  | false =>
    rw [hB] at R6
    rw [Bool.or_eq_false_iff,Bool.or_eq_false_iff,Bool.or_eq_false_iff] at hB
    obtain ⟨⟨⟨hb0,hb1⟩,hb2⟩,hb3⟩:=hB
    have hb3:(isS 0 16 true e&&(decide ((2:Int)<0)||decide ((e.kids.length:Int)=2)))=true:=by simpa using hb3
    have hhead:headB a b c=true:=by rw [hbad] at hb0; simpa using hb0
    obtain ⟨i,hi⟩:∃ i,nameS d=some i:=by cases hn:nameS d with
      | none=>rw [hn] at hb1; cases hb1
      | some i=>exact ⟨i,rfl⟩
    obtain ⟨s,hs⟩:∃ s,nameS f=some s:=by cases hn:nameS f with
      | none=>rw [hn] at hb2; cases hb2
      | some i=>exact ⟨i,rfl⟩
    rw [hi,hs] at R6
    obtain ⟨he1,he2⟩:=seq2_of hb3
    obtain ⟨p,q,hpq⟩:=kids2 he2
    obtain ⟨rp,Ap⟩:=K4.at (i:=0) (k:=p) (by rw [hpq] <;> rfl)
    obtain ⟨rq,Aq⟩:=K4.at (i:=1) (k:=q) (by rw [hpq] <;> rfl)
    have b0:∀ (h':AHeap),Upd (fun _=>False) hb h'→∀ K:AV→Prop,pIdxAddrSl 5 w4 (.i .i64 0) h' K=K (ptr w4 5 0 0):=Ap.idx
    have b1:∀ (h':AHeap),Upd (fun _=>False) hb h'→∀ K:AV→Prop,pIdxAddrSl 5 w4 (.i .i64 1) h' K=K (ptr w4 5 1 0):=Aq.idx
    have fp:Fit p:=fe.kid (by rw [hpq]; simp)
    have fq:Fit q:=fe.kid (by rw [hpq]; simp)
    have htimes:timesS e=if ((timeS p).2&&(timeS q).2)=true then some ((timeS p).1,(timeS q).1) else none:=by
      unfold timesS; rw [if_pos he1,hpq]
    refine bif_f rfl ?_
    simp only [b0 h6 V6,Ap.ld h6 V6]
    refine time_c (Ap.dv.ext V6) (by have:=fp.data; omega) ?_
    refine st_ext0 (st_asI (st_ext1 (st_asB ?_)))
    simp only [b1 h6 V6,Aq.ld h6 V6]
    refine time_c (Aq.dv.ext V6) (by have:=fq.data; omega) ?_
    refine st_ext0 (st_asI (st_ext1 (st_asB ?_)))
    refine st_nil (st_fld (st_fld (st_store R6 rfl (by show 3<9; omega) rfl rfl rfl fun h7 hl7 U7 R7=>?_)))
    have V7:=V6.own U7 hid
    refine st_nil (st_fld (st_fld (st_store R7 rfl (by show 4<9; omega) rfl rfl rfl fun h8 hl8 U8 R8=>?_)))
    have V8:=V7.own U8 hid
    have R8:RecAt h8 id (pc (hexS b.data) i s (timeS p).1 (timeS q).1 (.sl none 0 none) false [] false):=R8
    simp only [q_gl3 (G.up V8).g.seq,a6 h8 V8,A6.ld h8 V8]
    refine list_c (A6.dv.ext V8) g6 fun h9 U9=>?_
    have V9:=V8.trans U9 fun _ _ h=>h
    have R9:=R8.upd U9 fun h=>h
    simp only [a6 h9 V9,q_same,true_and]
    refine st_ext0 (st_ext1 (st_asB ?_))
    have bad9:contentS (a :: b :: c :: d :: e :: f :: g :: xs)=none→C Y24.id [.p (some ⟨id,9,0⟩),.b false] h9 fun x h'=>asB x fun y=>Y7.p2 Q (.p (some ⟨id,9,0⟩)) v w6 (!y) h':=fun hc=>
      need_r V9 hid R9 fun h' V' R'=>st_asB (content_f2 hid hq V' R' hc)
    have notimes:((timeS p).2&&(timeS q).2)=false→contentS (a :: b :: c :: d :: e :: f :: g :: xs)=none:=fun hh=>cS_4 (by rw [htimes,hh] <;> rfl)
    refine bif_both (fun e1=>?_) fun e1=>bad9 (notimes (by rw [e1] <;> rfl))
    refine bif_both (fun e2=>?_) fun e2=>bad9 (notimes (by rw [e1,e2] <;> rfl))
    have htimes:timesS e=some ((timeS p).1,(timeS q).1):=by rw [htimes,e1,e2] <;> rfl
    refine bif_both (fun e3=>?_) fun e3=>bad9 (cS_5 (key_no e3))
    obtain ⟨hg1,hg2⟩:=seq2_of e3
    obtain ⟨p',q',hpq'⟩:=kids2 hg2
    obtain ⟨rp',Ap'⟩:=K6.at (i:=0) (k:=p') (by rw [hpq'] <;> rfl)
    obtain ⟨rq',Aq'⟩:=K6.at (i:=1) (k:=q') (by rw [hpq'] <;> rfl)
    have d0:∀ (h':AHeap),Upd (fun _=>False) hb h'→∀ K:AV→Prop,pIdxAddrSl 5 w6 (.i .i64 0) h' K=K (ptr w6 5 0 0):=Ap'.idx
    have d1:∀ (h':AHeap),Upd (fun _=>False) hb h'→∀ K:AV→Prop,pIdxAddrSl 5 w6 (.i .i64 1) h' K=K (ptr w6 5 1 0):=Aq'.idx
    have fq':Fit q':=fg.kid (by rw [hpq']; simp)
    have hkey:keyS g=if (seqB p'&&bitsB q')=true then (match q'.data with
        | c :: r=>if c=0 then some r else none
        | []=>none) else none:=by unfold keyS; rw [if_pos hg1,hpq'] <;> rfl
    simp only [q_gl3 (G.up V9).g.seq,d0 h9 V9,Ap'.ld h9 V9]
    refine shapeIs_c (Ap'.dv.ext V9) (st_asB ?_)
    simp only [d0 h9 V9,q_same,true_and]
    refine bif_both (fun e4=>?_) fun e4=>?_
    · simp only [q_gl3 (G.up V9).bits, d1 h9 V9, Aq'.ld h9 V9]
      refine shapeIs_c (Aq'.dv.ext V9) (st_asB ?_)
      simp only [d1 h9 V9,d0 h9 V9,Ap'.ld h9 V9,q_gl3 (G.up V9).g.seq,q_same,true_and]
      refine bif_both (fun e5=>?_) fun e5=>?_
      · simp only [d1 h9 V9, Aq'.fa, Aq'.f3 h9 V9, q_asS]
        refine HasPrefix_c (st_asB ?_)
        simp only [d1 h9 V9,Aq'.ld h9 V9,d0 h9 V9,Ap'.ld h9 V9,q_gl3 (G.up V9).g.seq,q_gl3 (G.up V9).bits,q_same,true_and]
        refine need_r V9 hid R9 fun h10 V10 R10=>st_asB ?_
        simp only [Aq'.f3 h10 V10,q_asS,d1 h10 V10,Aq'.ld h10 V10,d0 h10 V10,Ap'.ld h10 V10,q_gl3 (G.up V10).g.seq,q_gl3 (G.up V10).bits,q_same,true_and]
        rw [show (seqB p'&&bitsB q')=true by show (isS 0 16 true p'&&isS 0 3 false q')=true; rw [e4,e5] <;> rfl,if_pos rfl] at hkey
        cases hp:hasPre q'.data [0] with
        | true =>
          rw [hp] at R10
          obtain ⟨key,hk⟩:∃ key,q'.data=0 :: key:=by
            unfold hasPre at hp
            have hp:=of_decide_eq_true hp
            cases hd:q'.data with
            | nil=>rw [hd] at hp; cases hp
            | cons x r =>
              rw [hd] at hp
              simp at hp
              exact ⟨r,by rw [hp]⟩
          rw [hk] at hkey
          simp only [if_true] at hkey
          refine content_p2 hid G L hxs (fun x hx=>hfit x (by simp [hx])) Aq' hk V10 R10 ?_
          rw [cS_ok hhead hi hs htimes hkey] at hq
          exact hq
        | false =>
          rw [hp] at R10
          refine content_f2 hid hq V10 R10 (cS_5 ?_)
          rw [hkey]
          split
          · rename_i x r hd
            split
            · rename_i hx
              subst hx
              unfold hasPre at hp
              rw [hd] at hp
              simp at hp
            · rfl
          · rfl
      · refine need_r V9 hid R9 fun h10 V10 R10 => st_asB ?_
        simp only [q_same,true_and,d1 h10 V10,Aq'.ld h10 V10,d0 h10 V10,Ap'.ld h10 V10,q_gl3 (G.up V10).g.seq,q_gl3 (G.up V10).bits]
        refine content_f2 hid hq V10 R10 (cS_5 ?_)
        rw [hkey,if_neg (by show ¬ (isS 0 16 true p'&&isS 0 3 false q')=true; rw [e5]; simp)]
    · refine need_r V9 hid R9 fun h10 V10 R10 => st_asB ?_
      simp only [q_same,true_and,d0 h10 V10,Ap'.ld h10 V10,q_gl3 (G.up V10).g.seq]
      refine content_f2 hid hq V10 R10 (cS_5 ?_)
      rw [hkey,if_neg (by show ¬ (isS 0 16 true p'&&isS 0 3 false q')=true; rw [e4]; simp)]
end
end Go.Proofs.YtcdkpkkdolmfdaaGreatDoor
namespace Go.Proofs.YtcdkpkkdolmfdaaGreatDoor
open Go.GAM Go.RowKit
section
variable {hb h:AHeap} {id:Nat} {Q:AV→AHeap→Prop} {F:Nat→Prop} (hF:∀ i,F i→i<hb.length) (hid:hb.length≤id) (G:CG2 hb)
variable {a b c d e f g:Der} {xs:List Der} {v:AV} {rows:List (List AV)} (L:KL hb F v (a :: b :: c :: d :: e :: f :: g :: xs) rows) (hfit:∀ k∈a :: b :: c :: d :: e :: f :: g :: xs,Fit k) (hxs:xs.length≤1)
  (hq:COut hb id Q (contentS (a :: b :: c :: d :: e :: f :: g :: xs)))
include hF hid G L hfit hxs hq in
theorem content_p1 {bad:Bool} (hbad:bad = !headB a b c):∀ (k i:Nat) (h:AHeap),i+k=b.data.length→Upd (fun _=>False) hb h→RecAt h id (pc (hexS (b.data.take i)) [] [] 0 0 (.sl none 0 none) false [] bad) →
    Y7.p1 Q (.p (some ⟨id,9,0⟩)) v (b.data.length:Nat) i h:=by
  intro k
  induction k with
  | zero =>
    intro i h hi U R
    obtain rfl:i=b.data.length:=by omega
    rw [List.take_length] at R
    exact content_end hF hid G L hfit hxs hq hbad U R
  | succ k ih =>
    intro i h hi U R
    have hlt:i<b.data.length:=by omega
    obtain ⟨r1,A1⟩:=L.at (i:=1) (k:=b) rfl
    have a1:∀ (h':AHeap),Upd (fun _=>False) hb h'→∀ K:AV→Prop,pIdxAddrSl 5 v (.i .i64 1) h' K=K (ptr v 5 1 0):=A1.idx
    have fb:Fit b:=hfit b (by simp)
    have hlen:=fb.data
    have hhl:=hexS_len (b.data.take i)
    rw [List.length_take,Nat.min_eq_left (by omega)] at hhl
    refine Y7.i1 ?_
    simp only [Y7.t1,Y7.j1]
    refine bif_t (by simp; omega) ?_
    simp only [a1 h U,A1.fa,A1.f3 h U,q_asS]
    have hc:=(b.data[i]).toNat_lt
    refine st_at (i:=i) (List.drop_eq_getElem_cons hlt) ?_
    refine st_nil (st_fld (st_fld (st_load R rfl rfl (st_asS ?_))))
    refine st_shr (b:=4) (by decide) (st_shr (b:=4) (by decide) ?_)
    have e16:(b.data[i]).toNat / 2 ^ 4=(b.data[i]).toNat / 16:=rfl
    rw [e16]
    refine withI_is (n:=(((b.data[i]).toNat / 16+1:Nat):Int)) (by rw [wrap_u8 (by omega) (by omega)]; omega) ?_
    refine st_subsE (lo:=(b.data[i]).toNat / 16) (hi:=(b.data[i]).toNat / 16+1) (by omega) (by show _≤16; omega) (hexDig_at _ (by omega)) ?_
    rw [and15']
    refine withI_is (n:=(((b.data[i]).toNat % 16+1:Nat):Int)) (by rw [wrap_u8 (by omega) (by omega)]; omega) ?_
    refine st_subsE (lo:=(b.data[i]).toNat % 16) (hi:=(b.data[i]).toNat % 16+1) (by omega) (by show _≤16; omega) (hexDig_at _ (by omega)) ?_
    refine ⟨by simp,⟨by rw [hhl]; simp; omega, ?_⟩⟩
    refine st_nil (st_fld (st_fld (st_store R rfl (by show 0<9; omega) rfl rfl rfl fun h1 hl1 U1 R1=>?_)))
    have R1:RecAt h1 id (pc (hexS (b.data.take i)++([hexD ((b.data[i]).toNat / 16)]++[hexD ((b.data[i]).toNat % 16)])) [] [] 0 0 (.sl none 0 none) false [] bad):=R1
    rw [← hexS_snoc, ← List.take_succ_eq_append_getElem hlt] at R1
    exact inc (by omega) (ih (i+1) h1 (by omega) (U.own U1 hid) R1)
include hF hid G L hfit hxs hq in
theorem content_p0 {bad:Bool} (hbad:bad = !headB a b c) (U:Upd (fun _=>False) hb h) (R:RecAt h id (pc [] [] [] 0 0 (.sl none 0 none) false [] bad)):Y7.p0 Q (.p (some ⟨id,9,0⟩)) v h:=by
  obtain ⟨r1,A1⟩:=L.at (i:=1) (k:=b) rfl
  have a1:∀ (h':AHeap),Upd (fun _=>False) hb h'→∀ K:AV→Prop,pIdxAddrSl 5 v (.i .i64 1) h' K=K (ptr v 5 1 0):=A1.idx
  refine Y7.i0 ?_
  simp only [Y7.t0,Y7.j1]
  simp only [a1 h U,A1.fa,A1.f3 h U,q_asS]
  exact content_p1 hF hid G L hfit hxs hq hbad b.data.length 0 h (by omega) U R
include hF hid G L hfit hxs hq in
theorem content_c (U : Upd (fun _ => False) hb h) (R : RecAt h id (pc [] [] [] 0 0 (.sl none 0 none) false [] false)) : C Y7.id [.p (some ⟨id, 9, 0⟩), v] h Q := by
  have hq:COut hb id (kRet h Q) (contentS (a :: b :: c :: d :: e :: f :: g :: xs)):=fun h' ser iss sub frm til nv au key bad x1 x2 x3 x4=>.inl (hq h' ser iss sub frm til nv au key bad x1 x2 x3 x4)
  obtain ⟨r0,A0⟩:=L.at (i:=0) (k:=a) rfl
  obtain ⟨r1,A1⟩:=L.at (i:=1) (k:=b) rfl
  obtain ⟨r2,A2⟩:=L.at (i:=2) (k:=c) rfl
  have a0:∀ (h':AHeap),Upd (fun _=>False) hb h'→∀ K:AV→Prop,pIdxAddrSl 5 v (.i .i64 0) h' K=K (ptr v 5 0 0):=A0.idx
  have a1:∀ (h':AHeap),Upd (fun _=>False) hb h'→∀ K:AV→Prop,pIdxAddrSl 5 v (.i .i64 1) h' K=K (ptr v 5 1 0):=A1.idx
  have a2:∀ (h':AHeap),Upd (fun _=>False) hb h'→∀ K:AV→Prop,pIdxAddrSl 5 v (.i .i64 2) h' K=K (ptr v 5 2 0):=A2.idx
  obtain ⟨w0,rs0,g0,K0,ld0⟩:=A0.f4
  have fa':Fit a:=hfit a (by simp)
  refine Y7.call ?_
  simp only [Y7.t,Y7.j0]
  simp only [q_gl3 (G.up U).ver,a0 h U,A0.ld h U]
  refine list_c (A0.dv.ext U) g0 fun h1 U1=>?_
  have V1:=U.trans U1 fun _ _ h=>h
  have R1:=R.upd U1 fun h=>h
  simp only [a0 h1 V1,q_same,true_and]
  refine st_ext0 (st_ext1 (st_asB ?_))
  refine need_r V1 hid R1 fun h2 V2 R2=>st_asB ?_
  cases hB:(isS 2 0 true a&&(decide ((1:Int)<0)||decide ((a.kids.length:Int)=1))) with
  | false =>
    rw [hB] at R2
    refine bif_t rfl (COut.fail ?_ V2 R2)
    rw [cS_1 (by
      unfold headB verB
      cases e1:isS 2 0 true a with
      | false=>rfl
      | true =>
        rw [e1] at hB
        split
        · rename_i x hx; rw [hx] at hB; simp at hB
        · rfl)] at hq
    exact hq
  | true =>
    rw [hB] at R2
    rw [Bool.and_eq_true,Bool.or_eq_true,decide_eq_true_eq,decide_eq_true_eq] at hB
    obtain ⟨hB1,hB2⟩:=hB
    obtain ⟨x,hx⟩:∃ x,a.kids=[x]:=by
      match a.kids,(show a.kids.length=1 by omega) with
      | [x],_=>exact ⟨x,rfl⟩
    obtain ⟨rx,Ax⟩:=K0.at (i:=0) (k:=x) (by rw [hx] <;> rfl)
    have x0:∀ (h':AHeap),Upd (fun _=>False) hb h'→∀ K:AV→Prop,pIdxAddrSl 5 w0 (.i .i64 0) h' K=K (ptr w0 5 0 0):=Ax.idx
    have fx:Fit x:=fa'.kid (by rw [hx]; simp)
    have hv:verB a=((intS x).2&&decide ((intS x).1=2)):=by unfold verB; rw [hB1,hx] <;> rfl
    refine bif_f rfl ?_
    simp only [x0 h2 V2,Ax.ld h2 V2]
    refine int_c (Ax.dv.ext V2) (by have:=fx.data; omega) ?_
    refine st_ext0 (st_asI (st_ext1 (st_asB ?_)))
    have bad3:∀ {hh:AHeap},Upd (fun _=>False) hb hh→RecAt hh id (pc [] [] [] 0 0 (.sl none 0 none) false [] (false || !true))→headB a b c=false→∀ (K:AHeap→Prop),(∀ h',Upd (fun _=>False) hb h'→RecAt h' id (pc [] [] [] 0 0 (.sl none 0 none) false [] true)→Y7.p0 (kRet h Q) (.p (some ⟨id,9,0⟩)) v h'→K h')→C Y24.id [.p (some ⟨id,9,0⟩),.b false] hh fun y h'=>asB y fun _=>K h':=fun VV RR hh K hK=>
      need_r VV hid RR fun h' V' R'=>st_asB (hK h' V' R' (content_p0 hF hid G L hfit hxs hq (by rw [hh] <;> rfl) V' R'))
    refine bif_both (fun e1=>?_) fun e1=>?_
    · refine bif_both (fun e2 => ?_) fun e2 => ?_
      · simp only [q_gl3 (G.up V2).int, a1 h2 V2, A1.ld h2 V2]
        refine shapeIs_c (A1.dv.ext V2) (st_asB ?_)
        simp only [a1 h2 V2,q_same,true_and]
        refine bif_both (fun e3=>?_) fun e3=>?_
        · simp only [a1 h2 V2, A1.fa, A1.f3 h2 V2, q_asS]
          refine bif_both (fun e4=>?_) fun e4=>?_
          · simp only [q_gl3 (G.up V2).g.seq, a2 h2 V2, A2.ld h2 V2]
            refine shapeIs_c (A2.dv.ext V2) (st_asB ?_)
            simp only [a2 h2 V2,A1.f3 h2 V2,q_asS,a1 h2 V2,A1.ld h2 V2,q_gl3 (G.up V2).int,q_same,true_and]
            refine need_r V2 hid R2 fun h3 V3 R3=>st_asB ?_
            simp only [a2 h3 V3,A2.ld h3 V3,A1.f3 h3 V3,q_asS,a1 h3 V3,A1.ld h3 V3,q_gl3 (G.up V3).int,q_gl3 (G.up V3).g.seq,q_same,true_and]
            refine content_p0 hF hid G L hfit hxs hq ?_ V3 R3
            unfold headB
            rw [hv,e1,e2,show isS 0 2 false b=true from e3,e4]
            first | done | rfl
          · refine bad3 V2 R2 (by unfold headB; rw [e4]; simp) _ fun h3 V3 R3 hp => ?_
            simp only [A1.f3 h3 V3,q_asS,a1 h3 V3,A1.ld h3 V3,q_gl3 (G.up V3).int,q_same,true_and]
            exact hp
        · refine bad3 V2 R2 (by unfold headB; rw [show isS 0 2 false b = false from e3]; simp) _ fun h3 V3 R3 hp => ?_
          simp only [a1 h3 V3,A1.ld h3 V3,q_gl3 (G.up V3).int,q_same,true_and]
          exact hp
      · refine bad3 V2 R2 (by unfold headB; rw [hv, e2]; simp) _ fun h3 V3 R3 hp => ?_
        exact hp
    · refine bad3 V2 R2 (by unfold headB; rw [hv, e1]; simp) _ fun h3 V3 R3 hp => ?_
      exact hp
end
end Go.Proofs.YtcdkpkkdolmfdaaGreatDoor
namespace Go.Proofs.YtcdkpkkdolmfdaaGreatDoor
open Go.GAM Go.RowKit
def certZ:List AV:=[.s [],.s [],.s [],.i .i64 0,.i .i64 0,.sl none 0 none,.b false,.s []]
def POut (h:AHeap) (Q:AV→AHeap→Prop):Except Int Cert→Prop
  | .error e=>∀ h',Upd (fun _=>False) h h'→Q (.tu [.ag certZ,.i .i64 e]) h'
  | .ok c=>∀ cs h',Upd (fun _=>False) h h'→CV h' c cs→Q (.tu [.ag cs,.i .i64 0]) h'
section
variable {h h0:AHeap} {id:Nat} {Q:AV→AHeap→Prop} {s:List UInt8}
theorem parse_err {e:Int} {cs:List AV} (hq:POut h0 Q (.error e)) (U:Upd (fun _=>False) h0 h) (hid:h0.length≤id) (R:RecAt h id cs) (hl:cs.length=8) {K:AV→AHeap→Prop} (hK:∀ h',Q (.tu [.ag certZ,.i .i64 e]) h'→K (.ag certZ) h') :
    pStore 8 (.p (some ⟨id,8,0⟩)) (.ag certZ) h fun h4=>pLoadN 8 (.p (some ⟨id,8,0⟩)) h4 fun v=>K v h4:=by
  refine st_storeN R hl.symm rfl rfl fun h1 hl1 U1 R1=>st_loadN R1 rfl (hK h1 (hq h1 (U.own U1 hid)))
theorem parse_p0t {v:AV} {cs:List AV} (hq:POut h0 Q (.error 2)) (U:Upd (fun _=>False) h0 h) (hid:h0.length≤id) (R:RecAt h id cs) (hl:cs.length=8):Y30.p0 (kRet h0 Q) (.p (some ⟨id,8,0⟩)) v true h:=by
  refine Y30.i0 ?_
  simp only [Y30.t0]
  exact bif_t rfl (parse_err hq U hid R hl fun h' hx=>.inl hx)
theorem kids7 {l:List Der} (h1:7≤l.length):∃ a b c d e f g xs,l=a :: b :: c :: d :: e :: f :: g :: xs:=by
  match l,h1 with
  | a :: b :: c :: d :: e :: f :: g :: xs,_=>exact ⟨a,b,c,d,e,f,g,xs,rfl⟩
def resS (o:Option Cert):Except Int Cert:=match o with
  | some c=>.ok c
  | none=>.error 2
theorem parse_p0f {F:Nat→Prop} {v:AV} {x:Der} {rx cs:List AV} (G:CG2 h) (A:KAt h F v 0 x rx) (hF:∀ i,F i→i<h.length) (fx:Fit x) (h7:7≤x.kids.length) (h8:x.kids.length≤8) (hq:POut h0 Q (resS (contentS x.kids))) (U:Upd (fun _=>False) h0 h) (hid:h0.length≤id) (R:RecAt h id cs) (hl:cs.length=8) :
    Y30.p0 (kRet h0 Q) (.p (some ⟨id,8,0⟩)) v false h:=by
  have hidl:=R.lt
  obtain ⟨w,rs,g,K,ld⟩:=A.f4
  have a0:∀ (h':AHeap),Upd (fun _=>False) h h'→∀ K:AV→Prop,pIdxAddrSl 5 v (.i .i64 0) h' K=K (ptr v 5 0 0):=A.idx
  obtain ⟨a,b,c,d,e,f,g',xs,hks⟩:=kids7 h7
  rw [hks] at K hq h8
  refine Y30.i0 ?_
  simp only [Y30.t0]
  refine bif_f rfl (st_box rfl fun h1 hl1 U1 R1=>?_)
  rw [a0 h1 U1,A.fa,ld h1 U1]
  refine content_c (hb:=h) (id:=h.length) hF (Nat.le_refl _) G K (fun k hk=>fx.kid (by rw [hks]; exact hk)) (by simp at h8; omega) (fun h2 ser iss sub frm til nv au key bad U2 R2 hb' hc=>?_) U1 R1
  have hU2:Upd (fun _=>False) h0 h2:=U.trans U2 fun _ _ h=>h
  have Rr:RecAt h2 id cs:=R.upd U2 fun h=>h
  refine st_nil (st_fld (st_load R2 rfl rfl (st_asB ?_)))
  cases hs:contentS (a :: b :: c :: d :: e :: f :: g' :: xs) with
  | none =>
    rw [hs] at hb' hq
    subst hb'
    exact bif_t rfl (parse_err hq hU2 hid Rr hl fun h' hx=>.inl hx)
  | some y =>
    rw [hs] at hb' hq
    subst hb'
    obtain ⟨e1,e2,e3,e4,e5,e6,e7,e8,e9⟩:=hc y hs
    subst e1 e2 e3 e4 e5 e6 e7
    refine bif_f rfl (st_nil (st_fld ?_))
    obtain ⟨bl,g1,g2,g3,g4⟩:=R2
    refine ⟨bl,g1,⟨g3,by rw [g2]; exact Nat.le_refl _,by show 0+0+8≤9; omega⟩, ?_⟩
    rw [g2]
    show pStore 8 _ (.ag (certC y nv)) h2 _
    have V:CV h2 y (certC y nv):=⟨nv,rfl,e8⟩
    refine st_storeN Rr hl.symm V.len V.ok fun h3 hl3 U3 R3=>st_loadN R3 V.len.symm (.inl (hq _ h3 (hU2.own U3 hid) ?_))
    refine ⟨nv,rfl,e8.upd U3 fun i hi e=>?_⟩
    have:=e9 i hi
    omega
end
end Go.Proofs.YtcdkpkkdolmfdaaGreatDoor
namespace Go.Proofs.YtcdkpkkdolmfdaaGreatDoor
open Go.GAM Go.RowKit
def parse2 (d:Der):Except Int Cert:=if seqB d=true then (match d.kids with
  | [a,b,c]=>if (seqB a&&(seqB b&&bitsB c))=true then resS (contentS a.kids) else .error 2
  | _=>.error 2) else .error 2
theorem parseS_is (s:List UInt8):parseS s=if 65535<s.length then .error 3 else match decS s with
  | .error e=>.error e
  | .ok d=>parse2 d:=by
  unfold parseS parse2 resS
  rfl
theorem content_few {l:List Der} (h:l.length<7):contentS l=none:=by
  unfold contentS
  split
  · simp at h; omega
  · rfl
theorem content_many {l:List Der} (h:8<l.length):contentS l=none:=by
  unfold contentS
  split
  · rename_i a b c d e f g x
    have hx:extX x=none:=by
      match x,h with
      | [],h=>simp at h
      | [_],h=>simp at h
      | _ :: _ :: _,_=>rfl
    rw [hx]
    split
    · split
      · rename_i h5; cases h5
      · rfl
    · rfl
  · rfl
theorem parse_c {s : List UInt8} {h : AHeap} {Q : AV → AHeap → Prop} (G : CG2 h) (hq : POut h Q (parseS s)) : C Y30.id [.s s] h Q := by
  refine Y30.call ?_
  simp only [Y30.t,Y30.j0]
  refine st_alloc fun h1 hl1 U1 R1=>?_
  rw [parseS_is] at hq
  refine bif_both (fun e=>?_) fun e=>?_
  · have e := of_decide_eq_true e
    rw [if_pos (by omega)] at hq
    exact parse_err hq U1 (Nat.le_refl _) R1 rfl fun h' hx=>.inl hx
  · have e := of_decide_eq_false e
    rw [if_neg (by omega)] at hq
    refine decode_c ?_
    cases hd:decS s with
    | error e =>
      rw [hd] at hq
      intro h2 U2
      refine st_ext0 (st_ext1 (st_asI (st_alloc fun h3 hl3 U3 R3=>st_storeN R3 rfl rfl rfl fun h4 hl4 U4 R4=>?_)))
      have V4:Upd (fun _=>False) h1 h4:=(U2.then U3).own U4 (by have:=U2.1; omega)
      refine bif_t (by simp [decS_err hd]) ?_
      exact parse_err hq (U1.then V4) (Nat.le_refl _) (R1.upd V4 fun h=>h) rfl fun h' hx=>.inl hx
    | ok d =>
      rw [hd] at hq
      intro cs h2 U2 D2
      have fd:=Fit.of hd
      refine st_ext0 (st_ext1 (st_asI (st_alloc fun h3 hl3 U3 R3=>st_storeN R3 rfl D2.len D2.cells' fun h4 hl4 U4 R4=>?_)))
      have U24:Upd (fun _=>False) h2 h4:=U3.own U4 (Nat.le_refl _)
      have V4:Upd (fun _=>False) h1 h4:=(U2.then U3).own U4 (by have:=U2.1; omega)
      have D4:=D2.ext U24
      have G4:CG2 h4:=G.up (U1.then V4)
      have R14:=R1.upd V4 fun h=>h
      refine bif_f rfl ?_
      simp only [q_gl3 G4.g.seq]
      refine st_loadN R4 D2.len.symm ?_
      obtain ⟨w,rs,g1,g2,g3,g4,g5⟩:=D4.kidsLen
      refine list_c D4 g1 fun h5 U5=>?_
      have U05:Upd (fun _=>False) h h5:=(U1.then V4).then U5
      have V5:Upd (fun _=>False) h1 h5:=V4.then U5
      have K:KL h5 (fun i=>h1.length≤i∧i<h4.length) w d.kids rs:=⟨(D4.upd U5 (F':=fun i=>h1.length≤i∧i<h4.length) fun i hi hl=>⟨fun h=>h,hi,hl⟩) |> fun D5=>by
        exact (g2.upd U5 fun i hi hl=>⟨fun h=>h,hi,hl⟩),g3.upd U5 fun _ _ _ h=>h,fun i hi=>⟨(g5 i hi).1,(g5 i hi).2⟩⟩
      have R15:=R14.upd U5 fun h=>h
      have G5:=G4.up U5
      refine st_ext0 (st_ext1 (st_asB ?_))
      have hq:POut h Q (parse2 d):=hq
      have hF:∀ i,(h1.length≤i∧i<h4.length)→i<h5.length:=fun i hi=>Nat.lt_of_lt_of_le hi.2 U5.1
      have fail:parse2 d = .error 2→Y30.p0 (kRet h Q) (.p (some ⟨h.length,8,0⟩)) w true h5:=by
        intro hp
        rw [hp] at hq
        exact parse_p0t hq U05 (Nat.le_refl _) R15 rfl
      cases hs:(isS 0 16 true d&&(decide ((3:Int)<0)||decide ((d.kids.length:Int)=3))) with
      | false =>
        refine bif_t rfl (fail ?_)
        unfold parse2
        split
        · rename_i h1
          rw [show isS 0 16 true d=true from h1] at hs
          split
          · rename_i hk; rw [hk] at hs; simp at hs
          · rfl
        · rfl
      | true =>
        rw [Bool.and_eq_true,Bool.or_eq_true,decide_eq_true_eq,decide_eq_true_eq] at hs
        obtain ⟨hs1,hs2⟩:=hs
        obtain ⟨a,b,c,hk⟩:∃ a b c,d.kids=[a,b,c]:=by
          match d.kids,(show d.kids.length=3 by omega) with
          | [a,b,c],_=>exact ⟨a,b,c,rfl⟩
        have hp:parse2 d=if (seqB a&&(seqB b&&bitsB c))=true then resS (contentS a.kids) else .error 2:=by
          unfold parse2
          rw [if_pos (show seqB d=true from hs1),hk]
        obtain ⟨ra,A0⟩:=K.at (i:=0) (k:=a) (by rw [hk] <;> rfl)
        obtain ⟨rb,A1⟩:=K.at (i:=1) (k:=b) (by rw [hk] <;> rfl)
        obtain ⟨rc,A2⟩:=K.at (i:=2) (k:=c) (by rw [hk] <;> rfl)
        have u:=Upd.refl (fun _=>False) h5
        have a0:∀ K:AV→Prop,pIdxAddrSl 5 w (.i .i64 0) h5 K=K (ptr w 5 0 0):=A0.idx h5 u
        have a1:∀ K:AV→Prop,pIdxAddrSl 5 w (.i .i64 1) h5 K=K (ptr w 5 1 0):=A1.idx h5 u
        have a2:∀ K:AV→Prop,pIdxAddrSl 5 w (.i .i64 2) h5 K=K (ptr w 5 2 0):=A2.idx h5 u
        obtain ⟨w',rs',e1,K',ld⟩:=A0.f4
        have fa:Fit a:=fd.kid (by rw [hk]; simp)
        refine bif_f rfl ?_
        simp only [q_gl3 G5.g.seq,q_gl3 G5.bits,a0,a1,a2,A0.ld h5 u,A1.ld h5 u,A2.ld h5 u,A0.fa,ld h5 u,K'.rd.plen,q_same,true_and]
        refine shapeIs_c A0.dv (st_asB ?_)
        simp only [q_gl3 G5.g.seq,q_gl3 G5.bits,a0,a1,a2,A0.ld h5 u,A1.ld h5 u,A2.ld h5 u,A0.fa,ld h5 u,K'.rd.plen,q_same,true_and]
        refine bif_both (fun e=>?_) fun e=>?_
        · have e : isS 0 16 true a = false := by simpa using e
          exact fail (by rw [hp,show seqB a=false from e] <;> rfl)
        have ea:seqB a=true:=show isS 0 16 true a=true by simpa using e
        refine shapeIs_c A1.dv (st_asB ?_)
        simp only [q_gl3 G5.g.seq,q_gl3 G5.bits,a0,a1,a2,A0.ld h5 u,A1.ld h5 u,A2.ld h5 u,A0.fa,ld h5 u,K'.rd.plen,q_same,true_and]
        refine bif_both (fun e=>?_) fun e=>?_
        · have e : isS 0 16 true b = false := by simpa using e
          exact fail (by rw [hp,show seqB b=false from e,ea] <;> rfl)
        have eb:seqB b=true:=show isS 0 16 true b=true by simpa using e
        refine shapeIs_c A2.dv (st_asB ?_)
        simp only [q_gl3 G5.g.seq,q_gl3 G5.bits,a0,a1,a2,A0.ld h5 u,A1.ld h5 u,A2.ld h5 u,A0.fa,ld h5 u,K'.rd.plen,q_same,true_and]
        refine bif_both (fun e=>?_) fun e=>?_
        · have e : isS 0 3 false c = false := by simpa using e
          exact fail (by rw [hp,show bitsB c=false from e,ea,eb] <;> rfl)
        have ec:bitsB c=true:=show isS 0 3 false c=true by simpa using e
        have hp:parse2 d=resS (contentS a.kids):=by rw [hp,ea,eb,ec] <;> rfl
        rw [hp] at hq fail
        refine bif_both (fun e=>?_) fun e=>?_
        · have e := of_decide_eq_true e
          exact fail (by rw [content_few (by omega)] <;> rfl)
        have e:=of_decide_eq_false e
        by_cases e8:8<a.kids.length
        · rw [decide_eq_true (by omega)]
          exact fail (by rw [content_many e8] <;> rfl)
        rw [decide_eq_false (by omega)]
        exact parse_p0f G5 A0 hF fa (by omega) (by omega) hq U05 (Nat.le_refl _) R15 rfl
end Go.Proofs.YtcdkpkkdolmfdaaGreatDoor
namespace Go.GAM
theorem st_allocN {ty:Option TypeId} {n:Nat} {cells:List AV} {h:AHeap} {K:AV→AHeap→Prop} (hn:cells.length=n) (hk:∀ h',h'.length=h.length+1→Upd (fun _=>False) h h'→RecAt h' h.length cells→K (.p (some ⟨h.length,n,0⟩)) h'):pAlloc ty cells h K:=by
  subst hn; exact st_alloc hk
theorem st_boxN {ty:Option TypeId} {n:Nat} {x:AV} {h:AHeap} {K:AV→AHeap→Prop} (hn:x.parts.length=n) (hs:x.sizeOK=true:=by rfl) (hk:∀ h',h'.length=h.length+1→Upd (fun _=>False) h h'→RecAt h' h.length x.parts→K (.p (some ⟨h.length,n,0⟩)) h'):pBox ty x h K:=by
  subst hn; exact st_box hs hk
end Go.GAM
namespace Go.Proofs.YtcdkpkkdolmfdaaGreatDoor
open Go.GAM Go.RowKit
section
variable {h:AHeap} {Q:AV→AHeap→Prop}
end
end Go.Proofs.YtcdkpkkdolmfdaaGreatDoor
namespace Go.Proofs.YtcdkpkkdolmfdaaGreatDoor
open Go.GAM Go.RowKit
section
variable {h0 hb:AHeap} {Q:AV→AHeap→Prop} {x1:AV} {v:List UInt8} {i:Nat}
end
section
variable {h0 hb:AHeap} {Q:AV→AHeap→Prop}
end
end Go.Proofs.YtcdkpkkdolmfdaaGreatDoor
namespace Go.Proofs.YtcdkpkkdolmfdaaGreatDoor
open Go.GAM Go.RowKit
section
variable {s:List UInt8} {h0:AHeap} {Q:AV→AHeap→Prop}
end
section
variable {h:AHeap} {Q:AV→AHeap→Prop}
end
end Go.Proofs.YtcdkpkkdolmfdaaGreatDoor
namespace Go.Proofs.YtcdkpkkdolmfdaaGreatDoor
open Go.GAM Go.RowKit
def cc (ser iss sub:List UInt8) (frm til:Int) (nv:AV) (au:Bool) (key:List UInt8):List AV:=[.s ser,.s iss,.s sub,.i .i64 frm,.i .i64 til,nv,.b au,.s key]
def ROut (hb:AHeap) (ser iss sub key:List UInt8) (frm til:Int) (Q:AV→AHeap→Prop):Option (List (List UInt8) × Bool)→Prop
  | none=>∀ nv au h',Upd (fun _=>False) hb h'→(∃ a n c,nv = .sl a n c)→Q (.tu [.ag (cc ser iss sub frm til nv au key),.b false]) h'
  | some x=>∀ nv h',Upd (fun _=>False) hb h'→RdI 1 h' nv (x.1.map .s) x.1.length→(∀ i,SlAt nv i→hb.length≤i)→Q (.tu [.ag (cc ser iss sub frm til nv x.2 key),.b true]) h'
structure RSt (hb:AHeap) (id idr:Nat) (ser iss sub key:List UInt8) (frm til:Int) (h:AHeap) (ns:List (List UInt8)) (au:Bool) (nv:AV):Prop where
  r:RecAt h id (cc ser iss sub frm til nv au key)
  q:∃ cs,RecAt h idr cs∧cs.length=8
  s:NewS hb h nv (ns.map .s)
  ni:∀ i,SlAt nv i→i≠id∧i≠idr
  il:hb.length≤id
  ml:hb.length≤idr
  ne:idr≠id
section
variable {hb:AHeap} {id idr:Nat} {ser iss sub key:List UInt8} {frm til:Int} {h:AHeap} {ns:List (List UInt8)} {au nm bs:Bool} {nv:AV} {Q:AV→AHeap→Prop}
def RNx (hb:AHeap) (id idr:Nat) (ser iss sub key:List UInt8) (frm til:Int) (Q:AV→AHeap→Prop) (v:AV) (i:Nat) (r:List Der):Prop:=
  ∀ h nm bs ns au nv,RSt hb id idr ser iss sub key frm til h ns au nv→ns.length≤16→ROut hb ser iss sub key frm til Q (extS r nm bs (ns,au))→Y81.p0 Q v (.p (some ⟨id,8,0⟩)) (.p (some ⟨idr,8,0⟩)) nm bs (i+1:Nat) h
variable {v:AV} {i:Nat} {r:List Der} (nx:RNx hb id idr ser iss sub key frm til Q v i r) (hi:i≤300)
include nx hi
end
section
variable {hb:AHeap} {id idr:Nat} {ser iss sub key:List UInt8} {frm til:Int} {au:Bool} {Q:AV→AHeap→Prop} {v:AV}
variable {h:AHeap} {ns:List (List UInt8)} {nm bs:Bool} {nv:AV} {i:Nat} {r:List Der} (nx:RNx hb id idr ser iss sub key frm til Q v i r) (hi:i≤300)
include nx hi
end
section
variable {hb:AHeap} {id idr:Nat} {ser iss sub key:List UInt8} {frm til:Int} {Q:AV→AHeap→Prop} {v:AV} {l:List Der} {rows:List (List AV)} {F:Nat→Prop}
end
end Go.Proofs.YtcdkpkkdolmfdaaGreatDoor
namespace Go.Proofs.YtcdkpkkdolmfdaaGreatDoor
open Go.GAM Go.RowKit
def RCOut (hb:AHeap) (Q:AV→AHeap→Prop):Option Cert→Prop
  | none=>∀ cs h',Upd (fun _=>False) hb h'→cs.length=8→cs.all AV.cellOK=true→Q (.tu [.ag cs,.b false]) h'
  | some c=>∀ nv h',Upd (fun _=>False) hb h'→RdI 1 h' nv (c.names.map .s) c.names.length→(∀ i,SlAt nv i→hb.length≤i)→Q (.tu [.ag (certC c nv),.b true]) h'
section
variable {hb h:AHeap} {id2 id4:Nat} {cs:List AV} {Q:AV→AHeap→Prop}
end
section
variable {hb h:AHeap} {id2 id4:Nat} {Q:AV→AHeap→Prop} {F:Nat→Prop} {w:AV} {rows:List (List AV)} {a b c d e f g:Der} {xs:List Der}
  (L:KL hb F w (a :: b :: c :: d :: e :: f :: g :: xs) rows) (hfit:∀ k∈a :: b :: c :: d :: e :: f :: g :: xs,Fit k) (hxs:xs.length≤1)
  (hq:RCOut hb Q (contentS (a :: b :: c :: d :: e :: f :: g :: xs)))
end
end Go.Proofs.YtcdkpkkdolmfdaaGreatDoor
namespace Go.Proofs.YtcdkpkkdolmfdaaGreatDoor
open Go.GAM Go.RowKit
section
variable {hb h:AHeap} {id2 id4:Nat} {Q:AV→AHeap→Prop} {F:Nat→Prop} {w:AV} {rows:List (List AV)} {a b c d e f g:Der} {xs:List Der}
  (L:KL hb F w (a :: b :: c :: d :: e :: f :: g :: xs) rows) (hfit:∀ k∈a :: b :: c :: d :: e :: f :: g :: xs,Fit k) (hxs:xs.length≤1)
  (hq:RCOut hb Q (contentS (a :: b :: c :: d :: e :: f :: g :: xs)))
end
section
variable {h:AHeap} {Q:AV→AHeap→Prop} {F:Nat→Prop}
theorem Rsame_c {c:Cert} {r1 r2:List AV} (V1:CV h c r1) (V2:CV h c r2) (hn:c.names.length≤1000000) (hq:Q (.b true) h):C Y22.id [.ag r1,.ag r2] h Q:=by
  obtain ⟨v,rfl,S1⟩:=V1
  obtain ⟨w,rfl,S2⟩:=V2
  refine Y22.call ?_
  simp only [Y22.t,Y22.j0]
  refine st_boxN (n:=8) rfl rfl fun h1 hl1 U1 R1=>st_boxN (n:=8) rfl rfl fun h2 hl2 U2 R2=>?_
  have R1:RecAt h2 h.length (certC c v):=R1.upd U2 fun h=>h
  have R2:RecAt h2 h1.length (certC c w):=R2
  have U:=U1.then U2
  have l1:∀ (o:Nat) (x:AV),(certC c v)[o]? = some x→∀ K:AV→Prop,pLoad1 (.p (some ⟨h.length,8,o⟩)) h2 K=K x:=fun o x hx K=>q_ld R1 rfl hx
  have l2:∀ (o:Nat) (x:AV),(certC c w)[o]? = some x→∀ K:AV→Prop,pLoad1 (.p (some ⟨h1.length,8,o⟩)) h2 K=K x:=fun o x hx K=>q_ld R2 rfl hx
  have loop:∀ (r:List (List UInt8)) (i:Nat),c.names.drop i=r→Y22.p1 (kRet h Q) (.p (some ⟨h.length,8,0⟩)) (.p (some ⟨h1.length,8,0⟩)) i h2:=by
    intro r
    induction r with
    | nil =>
      intro i hr
      have:=drop_end hr
      refine Y22.i1 ?_
      simp only [Y22.t1,Y22.j1]
      simp only [q_fld,Nat.zero_add,l1 5 v rfl,(S1.ext U).plen]
      exact bif_f (by simp; omega) (kRet_pure rfl U.ext hq)
    | cons x r ih =>
      intro i hr
      have hlt:=drop_lt hr
      have hx:=at_of_drop hr
      refine Y22.i1 ?_
      simp only [Y22.t1,Y22.j1]
      simp only [q_fld,Nat.zero_add,l1 5 v rfl,l2 5 w rfl,(S1.ext U).plen]
      refine bif_t (by simp; omega) (S1.str U hx (S2.str U hx (bif_f (by simp) (inc (by omega) (ih (i+1) (drop_next hr))))))
  simp only [q_fld,Nat.zero_add,l1 0 _ rfl,l2 0 _ rfl,q_asS]
  refine bif_f (by simp) ?_
  simp only [l1 1 _ rfl,l2 1 _ rfl,q_asS]
  refine bif_f (by simp) ?_
  simp only [l1 2 _ rfl,l2 2 _ rfl,q_asS]
  refine bif_f (by simp) ?_
  simp only [l1 3 _ rfl,l2 3 _ rfl,q_asI]
  refine bif_f (by simp) ?_
  simp only [l1 4 _ rfl,l2 4 _ rfl,q_asI]
  refine bif_f (by simp) ?_
  simp only [l1 6 _ rfl,l2 6 _ rfl,q_asB]
  refine bif_f (by simp) ?_
  simp only [l1 7 _ rfl,l2 7 _ rfl,q_asS]
  refine bif_f (by simp) ?_
  simp only [l1 5 _ rfl,l2 5 _ rfl,(S1.ext U).plen,(S2.ext U).plen]
  refine Y22.i0 ?_
  simp only [Y22.t0,Y22.j1]
  exact bif_f (by simp) (loop c.names 0 rfl)
end
end Go.Proofs.YtcdkpkkdolmfdaaGreatDoor
namespace Go.Proofs.YtcdkpkkdolmfdaaGreatDoor
open Go.GAM Go.RowKit
def hexI:Option Nat→Int
  | some x=>(x:Int)
  | none=>-1
theorem hexN_lt {c:UInt8} {x:Nat} (h:hexN c=some x):x<16:=(hexN_back h).2
theorem ix_hex (c:UInt8):Lib.indexByte hexDig c=hexI (hexN c):=by
  have:∀ n:Fin 256,Lib.indexByte hexDig (UInt8.ofNat n.1)=hexI (hexN (UInt8.ofNat n.1)):=by decide +kernel
  have h:=this ⟨c.toNat,c.toNat_lt⟩
  simpa using h
def hexR (c:UInt8):Option Nat:=if 48≤c.toNat∧c.toNat≤57 then some (c.toNat - 48) else if 97≤c.toNat∧c.toNat≤102 then some (c.toNat - 87) else if 65≤c.toNat∧c.toNat≤70 then some (c.toNat - 55) else none
def unhexF (f : UInt8 → Option Nat) : List UInt8 → Option (List UInt8)
  | []=>some []
  | a :: b :: r => match f a, f b, unhexF f r with
    | some x,some y,some l=>some (UInt8.ofNat (16 * x+y) :: l)
    | _,_,_=>none
  | [_]=>none
def serialR (s:List UInt8):Option (List UInt8):=if s.length<2∨40<s.length∨s.length % 2≠0 then none else match unhexF hexR s with
  | none=>none
  | some l=>if hexS l≠s then none else if longI l=true then none else some l
section
variable {h:AHeap} {Q:AV→AHeap→Prop} {s:List UInt8}
theorem strIx_c {l:List UInt8} {c:UInt8} {h:AHeap} (hk:Q (.i .i64 (Lib.indexByte l c)) h):C Y52.id [.s l,.i .u8 (c.toNat:Int)] h Q:=by
  refine Y52.call ?_
  simp only [Y52.t]
  exact sindexByte_c (st_asI (.inl hk))
def serT (o:Option (List UInt8)):AV:=.tu [.s (txt o),.b o.isSome]
def serE (l:List UInt8):Option (List UInt8):=if longI l=true then none else some l
theorem or4 {x y:Nat} (hx:x<16) (hy:y<16):bitsOp .or .i64 ((x * 16:Nat):Int) (y:Int)=((16 * x+y:Nat):Int):=by
  have:∀ a:Fin 16, ∀ b:Fin 16,bitsOp .or .i64 ((a.1 * 16:Nat):Int) (b.1:Int)=((16 * a.1+b.1:Nat):Int):=by decide +kernel
  exact this ⟨x,hx⟩ ⟨y,hy⟩
theorem long_cases (a b:UInt8) (r:List UInt8):longI (a :: b :: r)=((decide (a.toNat=0)&&decide (b.toNat<128))||(decide (a.toNat=255)&&decide (128≤b.toNat))):=rfl
theorem serial_p3 {h0 h:AHeap} {v:AV} {l:List UInt8} (T:Tx h0 h v l) (hq:Q (serT (serE l)) h0):Y10.p3 (kRet h0 Q) v (longI l) h:=by
  refine Y10.i3 ?_
  simp only [Y10.t3]
  unfold serE at hq
  cases hl:longI l with
  | true=>rw [hl] at hq; exact bif_t rfl (kRet_pure rfl T.upd.ext hq)
  | false=>rw [hl] at hq; exact bif_f rfl (T.str (kRet_pure rfl T.upd.ext hq))
theorem serial_p1 {h0 : AHeap} (hs : s.length ≤ 40) : ∀ (n : Nat) (r : List UInt8) (i : Nat) (v : AV) (l : List UInt8) (h : AHeap), s.drop i = r → r.length = 2 * n → l.length ≤ i → Tx h0 h v l →
    Q (serT (match unhex r with
      | none=>none
      | some m=>serE (l++m))) h0→Y10.p1 (kRet h0 Q) s v i h:=by
  intro n
  induction n with
  | zero =>
    intro r i v l h hr hn hl T hq
    have:r=[]:=List.eq_nil_of_length_eq_zero (by omega)
    subst this
    have hi:=drop_end hr
    have hq:Q (serT (serE (l++[]))) h0:=hq
    rw [List.append_nil] at hq
    have fin:∀ b,b=longI l→Y10.p3 (kRet h0 Q) v b h:=fun b hb=>by rw [hb]; exact serial_p3 T hq
    refine Y10.i1 ?_
    simp only [Y10.t1,Y10.j2,Y10.j3]
    refine bif_f (by simp; omega) (T.arr.rd.len ?_)
    match l,T,fin with
    | [],T,fin=>exact bif_f rfl (fin _ rfl)
    | [a],T,fin=>exact bif_f rfl (fin _ rfl)
    | a :: b :: l', T, fin =>
      rw [long_cases] at fin
      have ha:=a.toNat_lt
      have hb:=b.toNat_lt
      have la:∀ {K:Int→Prop},K (a.toNat:Int)→pIdxAddrSl 1 v (.i .i64 0) h fun x=>pLoad1 x h fun y=>asI .u8 y K:=fun hk=>T.load (i:=0) (c:=a) rfl (st_asI hk)
      have lb:∀ {K:Int→Prop},K (b.toNat:Int)→pIdxAddrSl 1 v (.i .i64 1) h fun x=>pLoad1 x h fun y=>asI .u8 y K:=fun hk=>T.load (i:=1) (c:=b) rfl (st_asI hk)
      refine bif_t (by simp; omega) (la ?_)
      by_cases h0':a.toNat=0
      · refine bif_t (decide_eq_true (by omega)) (lb ?_)
        by_cases h1:b.toNat<128
        · exact bif_t (decide_eq_true (by omega)) (fin _ (by simp [h0',h1]))
        · refine bif_f (decide_eq_false (by omega)) (la (bif_f (decide_eq_false (by omega)) (fin _ (by simp [h0',h1]))))
      · refine bif_f (decide_eq_false (by omega)) (la ?_)
        by_cases h2:a.toNat=255
        · refine bif_t (decide_eq_true (by omega)) (lb (fin _ ?_))
          simp [h0',h2]; omega
        · exact bif_f (decide_eq_false (by omega)) (fin _ (by simp [h0',h2]))
  | succ n ih =>
    intro r i v l h hr hn hl T hq
    match r,hr,hn,hq with
    | a :: b :: r', hr, hn, hq =>
      have hlt:=drop_lt hr
      have hr1:=drop_next hr
      have hlt1:=drop_lt hr1
      have hr2:=drop_next hr1
      have hb : ∀ b', b' = !((hexN a).isSome && (hexN b).isSome) → Y10.p2 (kRet h0 Q) s v i (hexI (hexN a)) (hexI (hexN b)) b' h := by
        intro b' hb'
        refine Y10.i2 ?_
        simp only [Y10.t2,Y10.j1]
        cases hx:hexN a with
        | none =>
          rw [hx] at hb'
          subst hb'
          refine bif_t rfl (kRet_pure rfl T.upd.ext ?_)
          have:unhex (a :: b :: r')=none:=by unfold unhex; rw [hx]
          rw [this] at hq; exact hq
        | some x =>
          cases hy:hexN b with
          | none =>
            rw [hx,hy] at hb'
            subst hb'
            refine bif_t rfl (kRet_pure rfl T.upd.ext ?_)
            have:unhex (a :: b :: r')=none:=by unfold unhex; rw [hx,hy]
            rw [this] at hq; exact hq
          | some y =>
            rw [hx,hy] at hb'
            subst hb'
            have lx:=hexN_lt hx
            have ly:=hexN_lt hy
            refine bif_f rfl (st_shlI (b:=4) (n:=((x * 16:Nat):Int)) (by omega) ?_ (by omega) (by omega) ?_)
            · show ((x : Nat) : Int) * 2 ^ 4 = _
              omega
            have e:bitsOp .or .i64 ((x * 16:Nat):Int) (hexI (some y))=((16 * x+y:Nat):Int):=or4 lx ly
            rw [e]
            refine withI_is (n:=(((UInt8.ofNat (16 * x+y)).toNat:Nat):Int)) ?_ ?_
            · rw [wrap_u8 (by omega) (by omega),toNat_of (by omega)]
            refine T.push (by omega) fun v' h' T'=>?_
            refine inc2 (by omega) (ih r' (i+2) v' (l++[UInt8.ofNat (16 * x+y)]) h' hr2 (by simp at hn; omega) (by simp; omega) T' ?_)
            have:unhex (a :: b :: r')=(match unhex r' with
                | some m=>some (UInt8.ofNat (16 * x+y) :: m)
                | none=>none):=by
              conv=>lhs; unfold unhex
              rw [hx,hy]
              cases unhex r' <;> rfl
            rw [this] at hq
            cases hu:unhex r' with
            | none=>rw [hu] at hq; exact hq
            | some m=>rw [hu] at hq; simpa using hq
      refine Y10.i1 ?_
      simp only [Y10.t1,Y10.j2,Y10.j3]
      refine bif_t (by simp; omega) (st_at hr (inc (by omega) (st_at hr1 ?_)))
      refine strIx_c (st_asI (strIx_c (st_asI ?_)))
      rw [show ([48,49,50,51,52,53,54,55,56,57,97,98,99,100,101,102]:List UInt8)=hexDig from rfl,ix_hex,ix_hex]
      have neg:∀ o:Option Nat,decide (hexI o<0) = !o.isSome:=by
        intro o; cases o with
        | none=>rfl
        | some x=>exact decide_eq_false (by show ¬ ((x:Nat):Int)<0; omega)
      rw [neg,neg]
      refine bif_both (fun e=>hb _ ?_) fun e=>hb _ ?_
      · have e : (hexN a).isSome = false := by simpa using e
        rw [e] <;> rfl
      · have e : (hexN a).isSome = true := by simpa using e
        rw [e] <;> rfl
theorem serial_c (hq:Q (serT (serialS s)) h):C Y10.id [.s s] h Q:=by
  refine Y10.call ?_
  simp only [Y10.t,Y10.j0]
  unfold serialS at hq
  have p0:∀ b,b=decide (s=[]∨s.length % 2=1∨40<s.length)→Y10.p0 (kRet h Q) s b h:=by
    intro b hb
    subst hb
    refine Y10.i0 ?_
    simp only [Y10.t0,Y10.j1]
    by_cases hc:s=[]∨s.length % 2=1∨40<s.length
    · rw [if_pos hc] at hq
      exact bif_t (decide_eq_true hc) (.inl hq)
    · rw [if_neg hc] at hq
      refine bif_f (decide_eq_false hc) (serial_p1 (by omega) (s.length / 2) s 0 _ [] h rfl (by omega) (by simp) (Tx.start h) ?_)
      cases hu:unhex s with
      | none=>rw [hu] at hq; exact hq
      | some m=>rw [hu] at hq; exact hq
  by_cases h1:s=[]
  · exact bif_t (decide_eq_true h1) (p0 _ (by symm; exact decide_eq_true (.inl h1)))
  refine bif_f (decide_eq_false h1) (rem_n (b:=2) (by omega) ?_)
  by_cases h2:s.length % 2=1
  · exact bif_t (decide_eq_true (by omega)) (p0 _ (by symm; exact decide_eq_true (.inr (.inl h2))))
  refine bif_f (decide_eq_false (by omega)) (p0 _ ?_)
  rw [decide_eq_decide]
  constructor
  · intro h; exact .inr (.inr (by omega))
  · rintro (h | h | h)
    · exact absurd h h1
    · exact absurd h h2
    · omega
end
end Go.Proofs.YtcdkpkkdolmfdaaGreatDoor
namespace Go.Proofs.YtcdkpkkdolmfdaaGreatDoor
open Go.GAM Go.RowKit
section
variable {h:AHeap} {Q:AV→AHeap→Prop} {s:List UInt8}
end
end Go.Proofs.YtcdkpkkdolmfdaaGreatDoor
namespace Go.GAM
theorem ren1_low {n:Nat} {v:AV} (h:ok1 n [] v=true):ren1 n [] v=v:=by
  have key:∀ a:AA,okId n [] a.id=true→renA n [] a=a:=by
    intro a ha
    unfold okId at ha
    have:a.id<n:=by simpa using ha
    unfold renA renId
    rw [if_pos this]
  unfold ok1 at h
  split at h
  · rename_i a; show AV.p (some (renA n [] a))=_; rw [key a h]
  · rename_i a l c; show AV.sl (some (renA n [] a)) l c=_; rw [key a h]
  all_goals first | rfl | cases h
theorem ren_low {n:Nat} {v:AV} (h:okR n [] v=true):ren n [] v=v:=by
  have hl:∀ cs:List AV,cs.all (ok1 n [])=true→cs.map (ren1 n [])=cs:=by
    intro cs
    induction cs with
    | nil=>exact fun _=>rfl
    | cons c cs ih =>
      intro hc
      simp only [List.all_cons,Bool.and_eq_true] at hc
      rw [List.map_cons,ren1_low hc.1,ih hc.2]
  cases v with
  | ag cs=>show AV.ag (cs.map (ren1 n []))=_; rw [hl cs h]
  | tu cs=>show AV.tu (cs.map (ren1 n []))=_; rw [hl cs h]
  | p a=>exact ren1_low (v:=.p a) h
  | sl a l c=>exact ren1_low (v:=.sl a l c) h
  | _=>rfl
theorem kRet_low {h0 h:AHeap} {K:AV→AHeap→Prop} {r:AV} (hp:okR h0.length [] r=true) (hE:Ext h0 h) (hk:K r h0):kRet h0 K r h:=by
  refine .inr ⟨[],List.nodup_nil,hp,by simp,fun id hi=>.inl (hE.2 id hi),hE.1, ?_⟩
  rw [ren_low hp,hE.take]
  simpa using hk
def lowV (n:Nat) (v:AV):Prop:=∃ a l c,v = .sl a l c∧∀ x,a=some x→x.id<n
theorem lowV.ok {n:Nat} {v:AV} (h:lowV n v):ok1 n [] v=true:=by
  obtain ⟨a,l,c,rfl,hx⟩:=h
  cases a with
  | none=>rfl
  | some x=>show okId n [] x.id=true; unfold okId; simp [hx x rfl]
theorem lowV.sl {n:Nat} {v:AV} (h:lowV n v):∃ a l c,v = .sl a l c:=by
  obtain ⟨a,l,c,rfl,hx⟩:=h; exact ⟨_,_,_,rfl⟩
theorem Rd.low {sz:Nat} {h:AHeap} {v:AV} {cs:List AV} {n:Nat} (R:Rd sz h v cs n):lowV h.length v:=by
  rcases R with ⟨rfl,_⟩ | ⟨id,ver,off,cap,b,rfl,h2,_⟩
  · exact ⟨_,_,_,rfl,fun x hx=>by cases hx⟩
  · exact ⟨_,_,_,rfl,fun x hx=>by cases hx; exact lt_of_some h2⟩
theorem Arr.low {sz:Nat} {h:AHeap} {v:AV} {cs:List AV} {n:Nat} (R:Arr sz h v cs n):lowV h.length v:=R.rd.low
end Go.GAM
namespace Go.Proofs.YtcdkpkkdolmfdaaGreatDoor
open Go.GAM Go.RowKit
section
variable {h:AHeap} {Q:AV→AHeap→Prop}
theorem shapeOf_l {c t:Int} {m:Bool} {v:AV} (hv:lowV h.length v) (hq:Q (.ag [.i .i64 c,.i .i64 t,.b true,.s [],v]) h):C Y44.id [shp c t m,v] h Q:=by
  have hok:=hv.ok
  obtain ⟨a,n,cap,rfl⟩:=hv.sl
  refine Y44.call ?_
  simp only [Y44.t]
  refine st_box rfl fun h1 hl1 U1 R1=>?_
  refine st_alloc fun h2 hl2 U2 R2=>?_
  have R1':=R1.upd U2 fun h=>h
  refine st_fld (st_load R1' rfl rfl (st_asI (st_fld (st_load R1' rfl rfl (st_asI ?_)))))
  refine st_pbA (cs:=[.i .i64 c,.i .i64 t,.b true,.s [],.sl a n cap]) rfl ?_
  refine st_storeN R2 rfl rfl rfl fun h3 hl3 U3 R3=>st_loadN R3 rfl ?_
  refine kRet_low ?_ ((U1.then U2).own U3 (by omega)).ext hq
  show (true&&(true&&(true&&(true&&(ok1 h.length [] (.sl a n cap)&&true)))))=true
  rw [hok] <;> rfl
theorem DV.row {F:Nat→Prop} {d:Der} {r:List AV} (D:DV h F d r):∃ c t m s a n cap,r=[.i .i64 c,.i .i64 t,.b m,.s s,.sl a n cap]:=by
  cases D with
  | @mk c t m s ks v rows Dk sv fv ov =>
    rcases sv with sv | ⟨_,_,a,c',rfl⟩
    · rcases sv with ⟨rfl,_⟩ | ⟨id,ver,off,cap,b,rfl,_⟩ <;> exact ⟨_,_,_,_,_,_,_,rfl⟩
    · exact ⟨_,_,_,_,_,_,_,rfl⟩
theorem DV.of {F:Nat→Prop} {c t:Int} {m:Bool} {s:List UInt8} {ks:List Der} {v:AV} {rows:List (List AV)} {cs:List AV} {n:Nat} (R:Rd 5 h v cs n) (D:DVs h F ks rows) (hc:cs=rows.flatten) (hn:n=rows.length) (hF:∀ i,SlAt v i→F i):DV h F (.mk c t m s ks) [.i .i64 c,.i .i64 t,.b m,.s s,v]:=by
  subst hc hn
  obtain ⟨a,l,k,e,_⟩:=R.low
  exact .mk D (.inl R) (fun i hi=>⟨hF i hi,R.lt hi⟩) (by rw [e] <;> rfl)
theorem DVs.one {F:Nat→Prop} {d:Der} {r:List AV} (D:DV h F d r):DVs h F [d] [r]:=.cons D .nil
theorem DVs.two {F:Nat→Prop} {d e:Der} {r q:List AV} (D:DV h F d r) (E:DV h F e q):DVs h F [d,e] [r,q]:=.cons D (.cons E .nil)
def idenS (t:List UInt8):List UInt8:=if t=[67,78] then [50,46,53,46,52,46,51] else if t=[79] then [50,46,53,46,52,46,49,48] else if t=[79,85] then [50,46,53,46,52,46,49,49] else if t=[67] then [50,46,53,46,52,46,54] else []
theorem idenS_is {t:List UInt8} (h:attB t=true):idenS t=oidNm t∧oidOfS (oidNm t) = .ok (oidDat (oidNm t))∧(oidDat (oidNm t)).length≤10:=by
  rcases attB_cases h with rfl | rfl | rfl | rfl
  · exact ⟨rfl,attr_oid _ (att_mem h)⟩
  · exact ⟨rfl,attr_oid _ (att_mem h)⟩
  · exact ⟨rfl,attr_oid _ (att_mem h)⟩
  · exact ⟨rfl,attr_oid _ (att_mem h)⟩
def setA (a:Att):Der:=.mk 0 17 true [] [.mk 0 16 true [] [.mk 0 6 false (oidDat (oidNm a.1)) [],.mk 0 12 false a.2 []]]
theorem kidOf_set (a:Att):kidOf (oidNm a.1) (escS sps a.2)=setA a:=by unfold kidOf setA; rw [plainE_esc]
theorem nameOf_att {s : List UInt8} (hne : s ≠ []) (hl : s.length ≤ 512) {l : List Att} (h : scanA (s.length + 1) s = some l) : nameOfS s = (outOf (l.map setA), 0) := by
  rcases names_are hne hl with ⟨l',e1,e2,e3,e4,e5⟩ | ⟨e1,_⟩
  · rw [e1] at h
    cases h
    unfold nameOfS at e5 ⊢
    rw [if_neg (by omega),if_neg hne] at e5 ⊢
    have hk:(splitE [] s).flatMap kidsOf=l.map setA:=by
      conv=>lhs; rw [e2]
      rw [splitE_rend l e3 e4]
      clear e1 e2 e4 e5
      induction l with
      | nil=>rfl
      | cons a l ih =>
        rw [List.map_cons,List.flatMap_cons,kids_rend (e3 a (by simp)).1,kidOf_set,ih fun x hx=>e3 x (by simp [hx])] <;> rfl
    rw [hk] at e5 ⊢
    by_cases hn:nameS (outOf (l.map setA))=some s
    · rw [if_pos hn]
    · rw [if_neg hn] at e5; cases e5
  · rw [e1] at h; cases h
end
end Go.Proofs.YtcdkpkkdolmfdaaGreatDoor
namespace Go.GAM
theorem st_buildA {sz len:Nat} {zeros cs:List AV} {parts:List (Nat × Nat × AV)} {h:AHeap} {K:AV→AHeap→Prop} (hf:fillA zeros parts=some cs) (hl:cs.length=len * sz)
    (hk:∀ v h',h'.length=h.length+1→Upd (fun _=>False) h h'→Arr sz h' v cs len→(∀ id,SlAt v id→id=h.length)→K v h'):pBuildSl sz len zeros parts h K:=by
  unfold pBuildSl
  rw [hf]
  refine ⟨hl,hk _ _ (by simp) (Upd.app _ _) (.inr ⟨h.length,newBlk cs sz true,rfl,by simp,rfl,hl,rfl,Nat.le_refl _,rfl,rfl⟩) fun id hi=>by cases hi; rfl⟩
theorem Upd.extM {M:Nat→Prop} {h h':AHeap} (U:Upd M h h') {hb:AHeap} (E:Ext hb h) (hM:∀ i,M i→hb.length≤i):Ext hb h':=
  ⟨Nat.le_trans E.1 U.1,fun i hi=>(U.2 i (Nat.lt_of_lt_of_le hi E.1) fun hm=>by have:=hM i hm; omega).trans (E.2 i hi)⟩
theorem Ext.u {hb h:AHeap} (E:Ext hb h):Upd (fun _=>False) hb h:=⟨E.1,fun i hi _=>E.2 i hi⟩
end Go.GAM
namespace Go.Proofs.YtcdkpkkdolmfdaaGreatDoor
open Go.GAM Go.RowKit
structure LSt (F0:Nat→Prop) (hb h:AHeap) (v:AV) (ks:List Der):Prop where
  ext:Ext hb h
  arr:∃ rows,Arr 5 h v rows.flatten rows.length∧DVs h (fun i=>F0 i∧¬ SlAt v i) ks rows
  new:∀ i,SlAt v i→hb.length≤i∧F0 i
section
variable {F0:Nat→Prop} {hb h:AHeap} {v:AV} {ks:List Der}
theorem LSt.nil (E:Ext hb h):LSt F0 hb h (.sl none 0 none) []:=⟨E,⟨[],Arr.nil _ _,.nil⟩,fun i hi=>hi.elim⟩
theorem LSt.up {h':AHeap} (S:LSt F0 hb h v ks) (U:Upd (fun _=>False) h h'):LSt F0 hb h' v ks:=by
  obtain ⟨rows,A,D⟩:=S.arr
  exact ⟨S.ext.trans U.ext,⟨rows,A.upd U fun _ _ h=>h,D.upd U fun i hi _=>⟨fun h=>h,hi⟩⟩,S.new⟩
theorem LSt.lt (S:LSt F0 hb h v ks) {i:Nat} (hi:SlAt v i):i<h.length:=by
  obtain ⟨rows,A,D⟩:=S.arr
  exact A.rd.lt hi
theorem LSt.low (S:LSt F0 hb h v ks):lowV h.length v:=by
  obtain ⟨rows,A,D⟩:=S.arr
  exact A.low
theorem LSt.val (S:LSt F0 hb h v ks) (c t:Int) (m:Bool) (s:List UInt8):DV h F0 (.mk c t m s ks) [.i .i64 c,.i .i64 t,.b m,.s s,v]:=by
  obtain ⟨rows,A,D⟩:=S.arr
  exact DV.of A.rd (D.upd (Upd.refl (fun _=>False) h) fun i hi _=>⟨fun h=>h,hi.1⟩) rfl rfl fun i hi=>(S.new i hi).2
theorem LSt.len (S:LSt F0 hb h v ks) {K:Int→Prop} (hk:K (ks.length:Int)):pLenSl v K:=by
  obtain ⟨rows,A,D⟩:=S.arr
  refine A.rd.len ?_
  rw [← D.length]; exact hk
theorem LSt.push {ty:Option TypeId} {y:AV} {r:List AV} {k:Der} (S:LSt F0 hb h v ks) (hn:ks.length≤4000) (R:Rd 5 h y r 1) (D:DV h (fun i=>F0 i∧¬ SlAt v i) k r) (hF:∀ i,h.length≤i→F0 i) {K:AV→AHeap→Prop}
    (hk:∀ v' h',Upd (SlAt v) h h'→LSt F0 hb h' v' (ks++[k])→K v' h'):pAppend ty 5 64 v y h K:=by
  obtain ⟨rows,A,Ds⟩:=S.arr
  have hrows:=Ds.length
  refine A.append (by decide) (ns:=r) (k:=1) (fun K hK=>R.news hK) (by rw [D.len]) D.cells' (by omega) (by omega) fun v' h' U A' F=>hk v' h' U ?_
  have e1:(rows++[r]).flatten=rows.flatten++r:=by simp
  have e2:(rows++[r]).length=rows.length+1:=by simp
  refine ⟨U.extM S.ext fun i hi=>(S.new i hi).1,⟨rows++[r],by rw [e1,e2]; exact A',(Ds.app D).upd U fun i hi hl=>⟨hi.2,hi.1,fun hs=>?_⟩⟩,fun i hi=>?_⟩
  · rcases F i hs with h | h
    · exact hi.2 h
    · omega
  · rcases F i hi with h | h
    · exact S.new i h
    · exact ⟨Nat.le_trans S.ext.1 h,hF i h⟩
end
section
variable {h0 hb:AHeap} {Q:AV→AHeap→Prop}
theorem attrs_okA {s : List UInt8} {l : List Att} (hl : s.length ≤ 512) (h : attrsS s = some l) : nameOfS s = (outOf (l.map setA), 0) ∧ (∀ a ∈ l, attB a.1 = true) ∧ l.length ≤ 600 := by
  unfold attrsS at h
  by_cases hn:s=[]
  · subst hn
    rw [if_pos rfl] at h
    cases h
    exact ⟨rfl,(fun a ha=>by cases ha),by simp⟩
  · rw [if_neg hn] at h
    refine ⟨nameOf_att hn hl h,fun a ha=>((scanA_is _ _ _ h).2.1 a ha).1, ?_⟩
    obtain ⟨e,_⟩:=scanA_is _ _ _ h
    have:∀ l:List Att,l.length≤(rendJ l).length+1:=by
      intro l
      induction l with
      | nil=>simp
      | cons a l ih =>
        cases l with
        | nil=>simp
        | cons b l =>
          rw [rendJ_cons,List.length_append,List.length_cons,List.length_cons]
          simp only [List.length_cons] at ih ⊢
          omega
    have:=this l
    rw [← e] at this
    omega
theorem attrs_bad {s:List UInt8} (hl:s.length≤512) (h:attrsS s=none):nameOfS s=(.zero,5):=by
  unfold attrsS at h
  by_cases hn:s=[]
  · subst hn; rw [if_pos rfl] at h; cases h
  · rw [if_neg hn] at h
    rcases names_are hn hl with ⟨l',e1,_⟩ | ⟨_,e5⟩
    · rw [e1] at h; cases h
    · unfold nameOfS at e5 ⊢
      rw [if_neg (by omega),if_neg hn] at e5 ⊢
      split at e5
      · cases e5
      · rename_i hx; rw [if_neg hx]
end
end Go.Proofs.YtcdkpkkdolmfdaaGreatDoor
namespace Go.Proofs.YtcdkpkkdolmfdaaGreatDoor
open Go.GAM Go.RowKit
structure CBd (c:Cert):Prop where
  n:c.names.length≤1000000
  s:∀ x∈c.names,x.length≤140737488351232
  i:c.issuer.length≤9223372036854775807
  j:c.subject.length≤9223372036854775807
def rangeB (c:Cert):Bool:=decide (c.frm<0∨253402300799<c.til∨c.til<c.frm)
def nameB (c:Cert):Bool:=decide ((nameOfS c.issuer).2≠0∨(nameOfS c.subject).2≠0)
def lowB (l:List (List UInt8)):Bool:=l.any fun n=>!decide (lowS n=n)
def longB (c:Cert):Bool:=decide (16<c.names.length∨1024<c.key.length)
theorem checkE_is (c:Cert):checkE c=if rangeB c=true then 4 else if nameB c=true then 5 else if lowB c.names=true then 5 else if serialS c.serial=none then 2 else if longB c=true then 3 else 0:=by
  unfold checkE rangeB nameB lowB longB
  simp only [decide_eq_true_eq]
section
variable {h:AHeap} {Q:AV→AHeap→Prop} {c:Cert} {cs:List AV}
theorem check_c (G : CG h) (V : CV h c cs) (B : CBd c) (hq : Q (.i .i64 (checkE c)) h) : C Y12.id [.ag cs] h Q := by
  obtain ⟨nv,rfl,S⟩:=V
  rw [checkE_is] at hq
  refine Y12.call ?_
  simp only [Y12.t,Y12.j0]
  refine st_boxN (n:=8) rfl rfl fun h1 hl1 U1 R1=>?_
  have R1:RecAt h1 h.length (certC c nv):=R1
  have ld:∀ (h':AHeap),Upd (fun _=>False) h1 h'→∀ (o:Nat) (x:AV),(certC c nv)[o]? = some x→∀ K:AV→Prop,pLoad1 (.p (some ⟨h.length,8,o⟩)) h' K=K x:=fun h' U o x hx K=>q_ld (R1.upd U fun h=>h) rfl hx
  have u1:=Upd.refl (fun _=>False) h1
  have p3:∀ h':AHeap,Upd (fun _=>False) h1 h'→Q (.i .i64 (if longB c=true then 3 else 0)) h→Y12.p3 (kRet h Q) (longB c) h':=by
    intro h' U hk
    refine Y12.i3 ?_
    simp only [Y12.t3]
    cases hb:longB c with
    | true=>rw [hb] at hk; exact bif_t rfl (kRet_pure rfl (U1.then U).ext hk)
    | false=>rw [hb] at hk; exact bif_f rfl (kRet_pure rfl (U1.then U).ext hk)
  have p2 : ∀ h' : AHeap, Upd (fun _ => False) h1 h' → ∀ (r : List (List UInt8)) (i : Nat), c.names.drop i = r → Q (.i .i64 (if lowB r = true then 5 else if serialS c.serial = none then 2 else if longB c = true then 3 else 0)) h →
      Y12.p2 (kRet h Q) (.p (some ⟨h.length,8,0⟩)) nv (c.names.length:Nat) i h':=by
    intro h' U r
    have E:=(U1.then U).ext
    induction r with
    | nil =>
      intro i hr hk
      have hi:=drop_end hr
      rw [if_neg (by unfold lowB; simp)] at hk
      refine Y12.i2 ?_
      simp only [Y12.t2,Y12.j2,Y12.j3]
      refine bif_f (by simp; omega) ?_
      simp only [q_fld,Nat.zero_add,ld h' U 0 _ rfl,q_asS]
      refine serial_c ?_
      cases hs:serialS c.serial with
      | none =>
        rw [hs,if_pos rfl] at hk
        exact st_ext0 (st_asS (st_ext1 (st_asB (bif_t rfl (kRet_pure rfl E hk)))))
      | some l =>
        rw [hs,if_neg (by simp)] at hk
        refine st_ext0 (st_asS (st_ext1 (st_asB (bif_f rfl ?_))))
        simp only [ld h' U 5 _ rfl,(S.ext (U1.then U)).plen,ld h' U 7 _ rfl,q_asS]
        by_cases h16:16<c.names.length
        · refine bif_t (decide_eq_true (by omega)) ?_
          have hb:longB c=true:=by unfold longB; exact decide_eq_true (.inl h16)
          rw [← hb]; exact p3 h' U hk
        · refine bif_f (decide_eq_false (by omega)) ?_
          have hb:(decide ((1024:Int)<(c.key.length:Int)))=longB c:=by
            unfold longB; rw [decide_eq_decide]; omega
          rw [hb]; exact p3 h' U hk
    | cons x r ih =>
      intro i hr hk
      have hlt:=drop_lt hr
      have hx:=at_of_drop hr
      have hn:=B.n
      refine Y12.i2 ?_
      simp only [Y12.t2,Y12.j2,Y12.j3]
      refine bif_t (by simp; omega) ((S.ext U1).str U hx ?_)
      refine small_c (by have:=B.s x (List.mem_of_getElem? hx); omega) (st_asS ?_)
      have e:lowB (x :: r)=(!decide (lowS x=x)||lowB r):=rfl
      rw [e] at hk
      cases hl:decide (lowS x=x) with
      | false=>rw [hl] at hk; exact bif_t rfl (kRet_pure rfl E hk)
      | true =>
        rw [hl] at hk
        refine bif_f rfl (inc (by omega) (ih (i+1) (drop_next hr) hk))
  have p1:∀ h':AHeap,Upd (fun _=>False) h1 h'→Q (.i .i64 (if nameB c=true then 5 else if lowB c.names=true then 5 else if serialS c.serial=none then 2 else if longB c=true then 3 else 0)) h→Y12.p1 (kRet h Q) (.p (some ⟨h.length,8,0⟩)) (nameB c) h':=by
    intro h' U hk
    refine Y12.i1 ?_
    simp only [Y12.t1,Y12.j2]
    cases hb:nameB c with
    | true=>rw [hb] at hk; exact bif_t rfl (kRet_pure rfl (U1.then U).ext hk)
    | false =>
      rw [hb,if_neg (by decide)] at hk
      refine bif_f rfl ?_
      simp only [q_fld,Nat.zero_add,ld h' U 5 _ rfl,(S.ext (U1.then U)).plen]
      exact p2 h' U c.names 0 rfl hk
  have p0:Y12.p0 (kRet h Q) (.p (some ⟨h.length,8,0⟩)) (rangeB c) h1:=by
    refine Y12.i0 ?_
    simp only [Y12.t0,Y12.j1]
    cases hb:rangeB c with
    | true=>rw [hb] at hq; exact bif_t rfl (kRet_pure rfl U1.ext hq)
    | false =>
      rw [hb,if_neg (by decide)] at hq
      refine bif_f rfl ?_
      simp only [q_fld,Nat.zero_add,ld h1 u1 1 _ rfl,q_asS]
      refine nameOf_c (G.ext U1) B.i fun h2 cs2 U2 D2=>?_
      refine st_ext0 (st_ext1 (st_asI (st_allocN (n:=5) rfl fun h3 hl3 U3 R3=>st_storeN R3 rfl D2.len D2.cells' fun h4 hl4 U4 R4=>?_)))
      have V4:Upd (fun _=>False) h1 h4:=(U2.then U3).own U4 U2.1
      simp only [q_fld,Nat.zero_add,ld h4 V4 2 _ rfl,q_asS]
      refine nameOf_c (G.ext (U1.then V4)) B.j fun h5 cs5 U5 D5=>?_
      refine st_ext0 (st_ext1 (st_asI (st_allocN (n:=5) rfl fun h6 hl6 U6 R6=>st_storeN R6 rfl D5.len D5.cells' fun h7 hl7 U7 R7=>?_)))
      have V7:Upd (fun _=>False) h1 h7:=V4.then ((U5.then U6).own U7 U5.1)
      by_cases e1:(nameOfS c.issuer).2=0
      · refine bif_f (by rw [e1] <;> rfl) ?_
        have hb:(!decide ((nameOfS c.subject).2=0))=nameB c:=by unfold nameB; simp [e1]
        rw [hb]; exact p1 h7 V7 hq
      · refine bif_t (by simp [e1]) ?_
        have hb:true=nameB c:=by unfold nameB; simp [e1]
        rw [hb]; exact p1 h7 V7 hq
  have fin:∀ b,b=rangeB c→Y12.p0 (kRet h Q) (.p (some ⟨h.length,8,0⟩)) b h1:=fun b hb=>by rw [hb]; exact p0
  simp only [q_fld,Nat.zero_add,ld h1 u1 3 _ rfl,ld h1 u1 4 _ rfl,q_asI]
  refine bif_both (fun e=>fin _ ?_) fun e=>bif_both (fun e2=>fin _ ?_) fun e2=>fin _ ?_
  · have e := of_decide_eq_true e
    unfold rangeB; symm; exact decide_eq_true (.inl e)
  · have e2 := of_decide_eq_true e2
    unfold rangeB; symm; exact decide_eq_true (.inr (.inl e2))
  · have e := of_decide_eq_false e
    have e2:=of_decide_eq_false e2
    unfold rangeB; rw [decide_eq_decide]; omega
def EOut' (h:AHeap) (Q:AV→AHeap→Prop) (o:List UInt8):Except Int (List UInt8)→Prop
  | .ok s=>∀ h' r,Upd (fun _=>False) h h'→DV h' (fun i=>h.length≤i) (extD o s) r→Q (.tu [.ag r,.i .i64 0]) h'
  | .error e=>∀ h' r,Upd (fun _=>False) h h'→DV h' (fun i=>h.length≤i) (extD o []) r→Q (.tu [.ag r,.i .i64 e]) h'
theorem extended_c {o : List UInt8} (ho : oidOfS o = .ok (oidDat o)) (G : CG2 h) {F : Nat → Prop} {d : Der} (D : DV h F d cs) (hF : ∀ i, F i → i < h.length) (hsz : d.sz ≤ 100000) (hs : dsum d ≤ 60000) (hq : EOut' h Q o (encS d)) : C Y49.id [.s o, .ag cs] h Q := by
  refine Y49.call ?_
  simp only [Y49.t]
  refine D.box fun h1 hl1 U1 R1 D1=>st_allocN (n:=5) rfl fun h2 hl2 U2 R2=>?_
  refine oidOf_c fun h3 U3=>?_
  rw [ho]
  refine st_ext0 (st_ext1 (st_asI (st_allocN (n:=5) rfl fun h4 hl4 U4 R4=>st_storeN R4 rfl rfl rfl fun h5 hl5 U5 R5=>?_)))
  have U35:Upd (fun _=>False) h3 h5:=U4.own U5 (Nat.le_refl _)
  have U15:Upd (fun _=>False) h1 h5:=(U2.then U3).then U35
  have G5:CG2 h5:=G.up (U1.then U15)
  refine st_loadN (R1.upd U15 fun h=>h) D1.len.symm ?_
  have D5:=D1.ext U15
  refine encode_c hsz hs D5 (fun i hi=>by have:=hF i hi; have:=U1.1; have:=U15.1; omega) ?_
  have l5:∀ h':AHeap,Upd (fun _=>False) h5 h'→∀ K:AV→Prop,pLoadN 5 (.p (some ⟨h3.length,5,0⟩)) h' K=K (.ag (leafC 0 6 false (oidDat o))):=fun h' U K=>q_ldN (k:=5) (R5.upd U fun h=>h) rfl (by show 0+5≤5; omega)
  have u5:=Upd.refl (fun _=>False) h5
  have rest:∀ (s:List UInt8) (e:Int),(∀ h' r,Upd (fun _=>False) h h'→DV h' (fun i=>h.length≤i) (extD o s) r→Q (.tu [.ag r,.i .i64 e]) h') →
      C Y46.id [shp 0 4 false, .s s] h5 fun v25 h26 => pLoadN 5 (.p (some ⟨h3.length, 5, 0⟩)) h26 fun v27 => AV.ag (leafC 0 6 false (oidDat o)) = v27 ∧ pLoadN 3 (gvar h26 0) h26 fun v28 => AV.ag [.i .i64 0, .i .i64 16, .b true] = v28 ∧
        pBuildSl 5 2 [.i .i64 0,.i .i64 0,.b false,.s [],.sl none 0 none,.i .i64 0,.i .i64 0,.b false,.s [],.sl none 0 none] [(0,5,.ag (leafC 0 6 false (oidDat o))),(5,5,v25)] h26 fun v29 h30=>pLoadN 3 (gvar h30 9) h30 fun v31=>AV.ag [.i .i64 0,.i .i64 4,.b false]=v31 ∧
        pLoadN 3 (gvar h30 0) h30 fun v32=>AV.ag [.i .i64 0,.i .i64 16,.b true]=v32∧C Y44.id [.ag [.i .i64 0,.i .i64 16,.b true],v29] h30 fun v33 h34=>pLoadN 3 (gvar h34 9) h34 fun v35=>AV.ag [.i .i64 0,.i .i64 4,.b false]=v35 ∧
        pLoadN 5 (.p (some ⟨h3.length,5,0⟩)) h34 fun v36=>AV.ag (leafC 0 6 false (oidDat o))=v36∧pStore 5 (.p (some ⟨h1.length,5,0⟩)) v33 h34 fun h37=>pLoadN 5 (.p (some ⟨h1.length,5,0⟩)) h37 fun v39=>kRet h Q (.tu [v39,.i .i64 e]) h37:=by
    intro s e hk
    refine shapeVal_c ?_
    simp only [l5 h5 u5,q_gl3 G5.g.seq,q_same,true_and]
    refine st_buildA (cs:=leafC 0 6 false (oidDat o)++leafC 0 4 false s) (len:=2) rfl rfl fun w h6 hl6 U6 A6 N6=>?_
    have G6:=G5.up U6
    simp only [q_gl3 G6.g.seq,q_gl3 G6.oct,q_same,true_and]
    refine shapeOf_l (c:=0) (t:=16) (m:=true) A6.low ?_
    simp only [q_gl3 G6.oct,l5 h6 U6,q_same,true_and]
    have Dv:DV h6 (fun i=>h.length≤i∧i≠h1.length) (extD o s) [.i .i64 0,.i .i64 16,.b true,.s [],w]:=
      DV.of A6.rd (DVs.two (DV.leaf _ _ _ _ _ _) (DV.leaf _ _ _ _ _ _)) rfl rfl fun i hi=>by have:=N6 i hi; have:=U15.1; have:=U1.1; have:=U2.1; have:=U3.1; have:=U35.1; exact ⟨by omega,by omega⟩
    have V6:=U15.then U6
    refine st_storeN (R2.upd ((U3.then U35).then U6) fun h=>h) rfl Dv.len Dv.cells' fun h7 hl7 U7 R7=>st_loadN R7 Dv.len.symm (.inl (hk h7 _ ?_ ?_))
    · exact (U1.then V6).own U7 (by have:=U1.1; omega)
    · exact Dv.upd U7 fun i hi hl=>⟨hi.2,hi.1⟩
  cases he:encS d with
  | error e =>
    rw [he] at hq
    refine st_ext0 (st_asS (st_ext1 (st_asI ?_)))
    simp only [q_gl3 G5.g.seq,q_gl3 G5.oct,l5 h5 u5]
    exact rest [] e hq
  | ok s =>
    rw [he] at hq
    refine st_ext0 (st_asS (st_ext1 (st_asI ?_)))
    simp only [q_gl3 G5.g.seq,q_gl3 G5.oct,l5 h5 u5]
    exact rest s 0 hq
end
end Go.Proofs.YtcdkpkkdolmfdaaGreatDoor
namespace Go.Proofs.YtcdkpkkdolmfdaaGreatDoor
open Go.GAM Go.RowKit
theorem LSt.mono {F0 F1:Nat→Prop} {hb h:AHeap} {v:AV} {ks:List Der} (S:LSt F0 hb h v ks) (hF:∀ i,F0 i→F1 i):LSt F1 hb h v ks:=by
  obtain ⟨rows,A,D⟩:=S.arr
  exact ⟨S.ext,⟨rows,A,D.upd (Upd.refl (fun _=>False) h) fun i hi _=>⟨fun h=>h,hF i hi.1,hi.2⟩⟩,fun i hi=>⟨(S.new i hi).1,hF i (S.new i hi).2⟩⟩
theorem LSt.upM {F0 M:Nat→Prop} {hb h h':AHeap} {v:AV} {ks:List Der} (S:LSt F0 hb h v ks) (U:Upd M h h') (hM:∀ i,F0 i→¬ M i) (hMb:∀ i,M i→hb.length≤i):LSt F0 hb h' v ks:=by
  obtain ⟨rows,A,D⟩:=S.arr
  exact ⟨U.extM S.ext hMb,⟨rows,A.upd U fun i hi=>hM i (S.new i hi).2,D.upd U fun i hi _=>⟨hM i hi.1,hi⟩⟩,S.new⟩
theorem LSt.row1 {F0:Nat→Prop} {hb h:AHeap} {v:AV} {ks:List Der} (S:LSt F0 hb h v ks):∃ a l c,v = .sl a l c:=S.low.sl
def z8b:List UInt8:=[0,0,0,0,0,0,0,0]
def algR (wk:AV):List AV:=[.i .i64 0,.i .i64 16,.b true,.s [],wk]
structure BCtx (hb:AHeap) (c:Cert) (nv wk:AV) (id0 idk:Nat):Prop where
  g:CG2 hb
  r0:RecAt hb id0 (certC c nv)
  rk:RecAt hb idk (algR wk)
  ak:Rd 5 hb wk (leafC 0 6 false (oidDat algOid)) 1
  s:RdI 1 hb nv (c.names.map .s) c.names.length
section
variable {h0 hb h:AHeap} {Q:AV→AHeap→Prop} {c:Cert} {nv wk:AV} {id0 idk:Nat} (B:BCtx hb c nv wk id0 idk) (E0:Ext h0 hb)
theorem BCtx.alg {F:Nat→Prop} (B:BCtx hb c nv wk id0 idk) (E:Ext hb h) (hF:∀ i,SlAt wk i→F i):DV h F algD (algR wk):=
  DV.of (B.ak.upd E.u fun _ _ h=>h) (DVs.one (DV.leaf _ _ _ _ _ _)) rfl rfl hF
include B E0 in
theorem cbuild_p4 {x14:AV} {ks:List Der} (S:LSt (fun _=>True) hb h x14 ks) (hk:c.key.length≤100000) (hsz:(seqD [seqD ks,algD,datD 0 3 (0 :: (c.key++z8b).take 8)]).sz≤100000) (hds:dsum (seqD [seqD ks,algD,datD 0 3 (0 :: (c.key++z8b).take 8)])≤60000)
    (hq:Q (encR (encS (seqD [seqD ks,algD,datD 0 3 (0 :: (c.key++z8b).take 8)]))) h0):Y4.p4 (kRet h0 Q) (.p (some ⟨id0,8,0⟩)) (.p (some ⟨idk,5,0⟩)) x14 h:=by
  have E:=S.ext
  have lk:∀ h':AHeap,Ext hb h'→∀ K:AV→Prop,pLoadN 5 (.p (some ⟨idk,5,0⟩)) h' K=K (.ag (algR wk)):=fun h' E K=>q_ldN (k:=5) (B.rk.upd E.u fun h=>h) rfl (by show 0+5≤5; omega)
  have G:∀ h':AHeap,Ext hb h'→CG2 h':=fun h' E=>B.g.up E.u
  obtain ⟨xk,nk,kk,hwk,_⟩:=B.ak.low
  refine Y4.i4 ?_
  simp only [Y4.t4]
  have ld7:∀ K:AV→Prop,pLoad1 (.p (some ⟨id0,8,7⟩)) h K=K (.s c.key):=fun K=>q_ld (B.r0.upd E.u fun h=>h) rfl rfl
  simp only [q_fld,Nat.zero_add,ld7,q_asS]
  refine ⟨by simp <;> omega,st_subs1 (hi:=8) (by simp) ?_⟩
  simp only [q_gl3 (G h E).g.seq,q_gl3 (G h E).bits,lk h E]
  refine ⟨by simp <;> omega, ?_⟩
  refine shapeOf_l (c:=0) (t:=16) (m:=true) S.low ?_
  simp only [q_gl3 (G h E).g.seq,q_gl3 (G h E).bits,lk h E,q_same,true_and]
  refine shapeVal_c (c:=0) (t:=3) (m:=false) ?_
  simp only [q_gl3 (G h E).g.seq,q_gl3 (G h E).bits,lk h E,q_same,true_and]
  have D1:=S.val 0 16 true []
  obtain ⟨xa,na,ka,hx⟩:=S.row1
  refine st_buildA (cs:=[.i .i64 0,.i .i64 16,.b true,.s [],x14]++algR wk++leafC 0 3 false (0 :: (c.key++z8b).take 8)) (len:=3) (by rw [hx]; unfold algR; rw [hwk] <;> rfl) rfl fun w h1 hl1 U1 A1 N1=>?_
  have E1:=E.trans U1.ext
  simp only [q_gl3 (G h1 E1).g.seq,q_gl3 (G h1 E1).bits,lk h1 E1,q_same,true_and]
  refine shapeOf_l (c:=0) (t:=16) (m:=true) A1.low ?_
  simp only [q_gl3 (G h1 E1).g.seq,q_gl3 (G h1 E1).bits,lk h1 E1,q_same,true_and]
  have D:DV h1 (fun i=>i<h1.length) (seqD [seqD ks,algD,datD 0 3 (0 :: (c.key++z8b).take 8)]) [.i .i64 0,.i .i64 16,.b true,.s [],w]:=
    DV.of A1.rd (.cons ((D1.upd U1 fun i _ hi=>⟨fun h=>h,by have:=U1.1; omega⟩:DV h1 (fun i=>i<h1.length) _ _)) (.cons (B.alg E1 fun i hi=>by have:=B.ak.lt hi; have:=E1.1; omega) (.cons (DV.leaf _ _ _ _ _ _) .nil))) rfl rfl fun i hi=>by have:=N1 i hi; omega
  refine encode_c hsz hds D (fun i hi=>hi) ?_
  simp only [q_gl3 (G h1 E1).g.seq,q_gl3 (G h1 E1).bits,lk h1 E1,q_same,true_and]
  cases he:encS (seqD [seqD ks,algD,datD 0 3 (0 :: (c.key++z8b).take 8)]) with
  | error e=>rw [he] at hq; exact st_ext0 (st_asS (st_ext1 (st_asI (kRet_pure rfl (E0.trans E1) hq))))
  | ok l=>rw [he] at hq; exact st_ext0 (st_asS (st_ext1 (st_asI (kRet_pure rfl (E0.trans E1) hq))))
structure BSz (c:Cert) (ks:List Der):Prop where
  k:c.key.length≤100000
  s:(seqD [seqD ks,algD,datD 0 3 (0 :: (c.key++z8b).take 8)]).sz≤100000
  d:dsum (seqD [seqD ks,algD,datD 0 3 (0 :: (c.key++z8b).take 8)])≤60000
def endS (c:Cert) (ks:List Der):Except Int (List UInt8):=encS (seqD [seqD ks,algD,datD 0 3 (0 :: (c.key++z8b).take 8)])
variable {n4:Nat} {x14 x15:AV} {ks ext:List Der}
include B E0 in
theorem cbuild_p3 (S14:LSt (fun i=>i<n4) hb h x14 ks) (S15:LSt (fun i=>n4≤i) hb h x15 ext) (hn4:n4≤h.length) (hkl:ks.length≤4000) (hz:BSz c (ks++moreD ext)) (hq:Q (encR (endS c (ks++moreD ext))) h0) :
    Y4.p3 (kRet h0 Q) (.p (some ⟨id0,8,0⟩)) (.p (some ⟨idk,5,0⟩)) x14 x15 h:=by
  have E:=S14.ext
  have G:∀ h':AHeap,Ext hb h'→CG2 h':=fun h' E=>B.g.up E.u
  refine Y4.i3 ?_
  simp only [Y4.t3,Y4.j4]
  refine S15.len ?_
  unfold moreD at hz hq
  by_cases he:ext=[]
  · subst he
    rw [if_pos rfl,List.append_nil] at hz hq
    exact bif_f rfl (cbuild_p4 B E0 (S14.mono fun _ _=>trivial) hz.k hz.s hz.d hq)
  rw [if_neg he] at hz hq
  refine bif_t (decide_eq_true (by have:=List.length_pos_iff.2 he; omega)) ?_
  simp only [q_gl3 (G h E).g.seq,q_gl3 (G h E).ext]
  refine shapeOf_l (c:=0) (t:=16) (m:=true) S15.low ?_
  simp only [q_gl3 (G h E).g.seq,q_gl3 (G h E).ext,q_same,true_and]
  obtain ⟨xa,na,ka,hx⟩:=S15.row1
  refine st_buildA (cs:=[.i .i64 0,.i .i64 16,.b true,.s [],x15]) (len:=1) (by rw [hx] <;> rfl) rfl fun w h1 hl1 U1 A1 N1=>?_
  have E1:=E.trans U1.ext
  simp only [q_gl3 (G h1 E1).g.seq,q_gl3 (G h1 E1).ext,q_same,true_and]
  refine shapeOf_l (c:=2) (t:=3) (m:=true) A1.low ?_
  simp only [q_gl3 (G h1 E1).g.seq,q_gl3 (G h1 E1).ext,q_same,true_and]
  obtain ⟨xw,nw,kw,hw,_⟩:=A1.low
  refine st_buildA (cs:=[.i .i64 2,.i .i64 3,.b true,.s [],w]) (len:=1) (by rw [hw] <;> rfl) rfl fun y h2 hl2 U2 A2 N2=>?_
  have E2:=E1.trans U2.ext
  simp only [q_gl3 (G h2 E2).g.seq,q_gl3 (G h2 E2).ext,q_same,true_and]
  have S14':=(S14.mono (F1:=fun _=>True) fun _ _=>trivial).up (U1.then U2)
  have D1:=S15.val 0 16 true []
  have hno:∀ i,n4≤i→¬ SlAt x14 i:=fun i hi hs=>by have:=(S14.new i hs).2; omega
  have Dy:DV h2 (fun i=>True∧¬ SlAt x14 i) (.mk 2 3 true [] [seqD ext]) [.i .i64 2,.i .i64 3,.b true,.s [],w]:=
    (DV.of A1.rd (DVs.one (D1.upd U1 fun i hi _=>⟨fun h=>h,trivial,hno i hi⟩)) (by simp) rfl fun i hi=>⟨trivial,hno i (by have:=N1 i hi; omega)⟩:DV h1 _ _ _).ext U2
  refine S14'.push hkl A2.rd Dy (fun _ _=>trivial) fun v' h3 U3 S3=>?_
  have E3:=S3.ext
  simp only [q_gl3 (G h3 E3).g.seq,q_gl3 (G h3 E3).ext,q_same,true_and]
  exact cbuild_p4 B E0 S3 hz.k hz.s hz.d hq
include B E0 in
theorem cbuild_p2 {id21:Nat} {r:List AV} {s:List UInt8} (S14:LSt (fun i=>i<n4) hb h x14 ks) (S15:LSt (fun i=>n4≤i) hb h x15 ext) (hn4:n4≤h.length) (hkl:ks.length≤4000) (hel:ext.length≤4000) (R:RecAt h id21 r) (D:DV h (fun i=>n4≤i∧¬ SlAt x15 i) (extD basOid s) r) (hz:BSz c (ks++moreD (ext++[extD basOid s])))
    (hb0:hb.length≤n4) (hq:Q (encR (endS c (ks++moreD (ext++[extD basOid s])))) h0):Y4.p2 (kRet h0 Q) (.p (some ⟨id0,8,0⟩)) (.p (some ⟨idk,5,0⟩)) x14 x15 (.p (some ⟨id21,5,0⟩)) 0 h:=by
  refine Y4.i2 ?_
  simp only [Y4.t2,Y4.j3]
  refine bif_f rfl (st_loadN R D.len.symm ?_)
  have hr:fillA z5 [(0,5,.ag r)]=some r:=by
    obtain ⟨c',t,m,s',a,n,cap,rfl⟩:=D.row; rfl
  refine st_buildA (cs:=r) (len:=1) hr (by rw [D.len]) fun y h1 hl1 U1 A1 N1=>?_
  refine (S15.up U1).push hel A1.rd (D.ext U1) (fun i hi=>by omega) fun v' h2 U2 S2=>?_
  have S14':=(S14.up U1).upM U2 (fun i hi hs=>by have:=(S15.new i hs).2; omega) fun i hi=>(S15.new i hi).1
  exact cbuild_p3 B E0 S14' S2 (by have:=U1.1; have:=U2.1; omega) hkl hz hq
include B E0 in
theorem cbuild_p2e {id21:Nat} {e:Int} (he:e≠0) (E:Ext hb h) (hq:Q (.tu [.s [],.i .i64 e]) h0):Y4.p2 (kRet h0 Q) (.p (some ⟨id0,8,0⟩)) (.p (some ⟨idk,5,0⟩)) x14 x15 (.p (some ⟨id21,5,0⟩)) e h:=by
  refine Y4.i2 ?_
  simp only [Y4.t2,Y4.j3]
  exact bif_t (by simp [he]) (kRet_pure rfl (E0.trans E) hq)
def authS (c:Cert) (ks ext:List Der):Except Int (List UInt8):=match basE c.auth with
  | .error e=>.error e
  | .ok b=>endS c (ks++moreD (ext++b))
theorem enc_err {d:Der} {e:Int} (h:encS d = .error e):e≠0:=by
  unfold encS at h
  split at h
  · cases h; assumption
  · split at h
    · cases h; decide
    · cases h
theorem LSt.lim {F0:Nat→Prop} {hb h:AHeap} {v:AV} {ks:List Der} (S:LSt F0 hb h v ks):LSt (fun i=>F0 i∧i<h.length) hb h v ks:=by
  obtain ⟨rows,A,D⟩:=S.arr
  exact ⟨S.ext,⟨rows,A,D.upd (Upd.refl (fun _=>False) h) fun i hi hl=>⟨fun h=>h,⟨hi.1,hl⟩,hi.2⟩⟩,fun i hi=>⟨(S.new i hi).1,(S.new i hi).2,S.lt hi⟩⟩
include B E0 in
theorem cbuild_st {id21 m:Nat} (ha:c.auth=true) {r:List AV} {h':AHeap} {s:List UInt8} (S14:LSt (fun i=>i<n4) hb h' x14 ks) (S15:LSt (fun i=>n4≤i∧i<m) hb h' x15 ext) (hm:n4≤m) (hid:m≤id21) (hkl:ks.length≤4000) (hel:ext.length≤4000)
    (R:RecAt h' id21 z5) (D:DV h' (fun i=>m≤i∧i≠id21) (extD basOid s) r) (hb0:hb.length≤n4)
    (hz:∀ b,basE c.auth = .ok b→BSz c (ks++moreD (ext++b))) (hq:Q (encR (authS c ks ext)) h0) {n:Int} (hn:(encS basD = .ok s∧n=0)∨encS basD = .error n):pStore 5 (.p (some ⟨id21,5,0⟩)) (.ag r) h' fun h''=>Y4.p2 (kRet h0 Q) (.p (some ⟨id0,8,0⟩)) (.p (some ⟨idk,5,0⟩)) x14 x15 (.p (some ⟨id21,5,0⟩)) n h'':=by
  have hlt:=R.lt
  refine st_storeN R rfl D.len D.cells' fun h2 hl2 U2 R2=>?_
  have S14':=S14.upM U2 (fun i hi e=>by omega) fun i hi=>by omega
  have S15':=(S15.upM U2 (fun i hi e=>by omega) fun i hi=>by omega).mono (F1:=fun i=>n4≤i) fun i hi=>hi.1
  unfold authS at hq
  rw [ha] at hq hz
  unfold basE at hq hz
  rw [if_pos rfl] at hq hz
  rcases hn with ⟨he,rfl⟩ | he
  · rw [he] at hq hz
    refine cbuild_p2 B E0 (s:=s) S14' S15' (by omega) hkl hel R2 (D.upd U2 fun i hi _=>⟨hi.2,by omega,fun hs=>?_⟩) (hz _ rfl) hb0 hq
    have:=(S15.new i hs).2
    omega
  · rw [he] at hq
    exact cbuild_p2e B E0 (enc_err he) S14'.ext hq
theorem bas_ok:oidOfS basOid = .ok (oidDat basOid):=by kernel_rfl
theorem alt_ok:oidOfS altOid = .ok (oidDat altOid):=by kernel_rfl
include B E0 in
theorem cbuild_p1 (S14 : LSt (fun i => i < n4) hb h x14 ks) (S15 : LSt (fun i => n4 ≤ i) hb h x15 ext) (hn4 : n4 ≤ h.length) (hkl : ks.length ≤ 4000) (hel : ext.length ≤ 4000) (hb0 : hb.length ≤ n4)
    (hz:∀ b,basE c.auth = .ok b→BSz c (ks++moreD (ext++b))) (hq:Q (encR (authS c ks ext)) h0):Y4.p1 (kRet h0 Q) (.p (some ⟨id0,8,0⟩)) (.p (some ⟨idk,5,0⟩)) x14 x15 h:=by
  have E:=S14.ext
  have G:∀ h':AHeap,Ext hb h'→CG2 h':=fun h' E=>B.g.up E.u
  refine Y4.i1 ?_
  simp only [Y4.t1,Y4.j2,Y4.j3]
  have ld6:∀ K:AV→Prop,pLoad1 (.p (some ⟨id0,8,6⟩)) h K=K (.b c.auth):=fun K=>q_ld (B.r0.upd E.u fun h=>h) rfl rfl
  simp only [q_fld,Nat.zero_add,ld6,q_asB]
  refine bif_both (fun ha=>?_) fun ha=>?_
  ·
    have S15m:=S15.lim
    have U0:=Upd.refl (fun _=>False) h
    have ext_tail:∀ (h1:AHeap) (w:AV),Upd (fun _=>False) h h1→Rd 5 h1 w (leafC 0 1 false [255]) 1→∀ K:AV→AHeap→Prop,(∀ h2 r e s,Upd (fun _=>False) h1 h2→DV h2 (fun i=>h1.length≤i) (extD basOid s) r→((encS basD = .ok s∧e=0)∨encS basD = .error e)→K (.tu [.ag r,.i .i64 e]) h2) →
        C Y49.id [.s basOid,.ag [.i .i64 0,.i .i64 16,.b true,.s [],w]] h1 K:=by
      intro h1 w U1 R1 K hk
      have D:DV h1 (fun i=>i<h1.length) basD [.i .i64 0,.i .i64 16,.b true,.s [],w]:=DV.of R1 (DVs.one (DV.leaf _ _ _ _ _ _)) rfl rfl fun i hi=>R1.lt hi
      refine extended_c bas_ok (G h1 (E.trans U1.ext)) D (fun i hi=>hi) (by decide) (by decide) ?_
      cases he:encS basD with
      | error e=>exact fun h2 r U2 D2=>hk h2 r e [] U2 D2 (.inr he)
      | ok s=>exact fun h2 r U2 D2=>hk h2 r 0 s U2 D2 (.inl ⟨he,rfl⟩)
    have fin:∀ (h2:AHeap) (id21:Nat) (r:List AV) (e:Int) (s:List UInt8),Upd (fun _=>False) h h2→RecAt h2 id21 z5→h.length≤id21→DV h2 (fun i=>h.length≤i∧i≠id21) (extD basOid s) r→((encS basD = .ok s∧e=0)∨encS basD = .error e) →
        pStore 5 (.p (some ⟨id21,5,0⟩)) (.ag r) h2 fun h''=>Y4.p2 (kRet h0 Q) (.p (some ⟨id0,8,0⟩)) (.p (some ⟨idk,5,0⟩)) x14 x15 (.p (some ⟨id21,5,0⟩)) e h'':=fun h2 id21 r e s U R hi D hn=>
      cbuild_st B E0 ha (S14.up U) (S15m.up U) hn4 hi hkl hel R D hb0 hz hq hn
    simp only [q_gl3 (G h E).g.seq,q_gl3 (G h E).tru]
    have sv:∀ {K:AV→AHeap→Prop} {hx:AHeap},K (.ag (leafC 0 1 false [255])) hx→C Y46.id [.ag [.i .i64 0,.i .i64 1,.b false],.s [255]] hx K:=fun hk=>shapeVal_c (c:=0) (t:=1) (m:=false) hk
    refine ⟨?_, ?_⟩
    · refine sv ?_
      simp only [q_gl3 (G h E).g.seq,q_gl3 (G h E).tru,q_same,true_and]
      refine ⟨?_, ?_⟩
      · refine st_buildA (cs := leafC 0 1 false [255]) (len := 1) rfl rfl fun w h1 hl1 U1 A1 N1 => ?_
        have E1:=E.trans U1.ext
        simp only [q_gl3 (G h1 E1).g.seq,q_gl3 (G h1 E1).tru,q_same,true_and]
        refine ⟨?_, ?_⟩
        · refine shapeOf_l (c := 0) (t := 16) (m := true) A1.low ?_
          simp only [q_gl3 (G h1 E1).g.seq,q_gl3 (G h1 E1).tru,q_same,true_and]
          refine ⟨?_, ?_⟩
          · refine ext_tail h1 w U1 A1.rd _ fun h2 r e s U2 D2 hn => ?_
            have E2:=E1.trans U2.ext
            simp only [q_gl3 (G h2 E2).g.seq,q_gl3 (G h2 E2).tru,q_same,true_and]
            refine st_ext0 (st_ext1 (st_asI (st_allocN (n:=5) rfl fun h3 hl3 U3 R3=>?_)))
            have E3:=E2.trans U3.ext
            simp only [q_gl3 (G h3 E3).g.seq,q_gl3 (G h3 E3).tru,q_same,true_and]
            exact fin h3 h2.length r e s ((U1.then U2).then U3) R3 (by have:=U1.1; have:=U2.1; omega) (D2.upd U3 fun i hi hl=>⟨fun h=>h,by have:=U1.1; omega,by omega⟩) hn
          · refine st_allocN (n := 5) rfl fun h2 hl2 U2 R2 => ?_
            have E2:=E1.trans U2.ext
            simp only [q_gl3 (G h2 E2).g.seq,q_gl3 (G h2 E2).tru,q_same,true_and]
            refine ext_tail h2 w (U1.then U2) (A1.rd.upd U2 fun _ _ h=>h) _ fun h3 r e s U3 D3 hn=>?_
            have E3:=E2.trans U3.ext
            simp only [q_gl3 (G h3 E3).g.seq,q_gl3 (G h3 E3).tru,q_same,true_and]
            refine st_ext0 (st_ext1 (st_asI ?_))
            exact fin h3 h1.length r e s ((U1.then U2).then U3) (R2.upd U3 fun h=>h) (by have:=U1.1; omega) (D3.upd (Upd.refl (fun _=>False) h3) fun i hi hl=>⟨fun h=>h,by have:=U1.1; omega,by omega⟩) hn
        · refine st_allocN (n := 5) rfl fun h2 hl2 U2 R2 => ?_
          have E2:=E1.trans U2.ext
          simp only [q_gl3 (G h2 E2).g.seq,q_gl3 (G h2 E2).tru,q_same,true_and]
          have A2:=A1.rd.upd U2 fun _ _ h=>h
          refine shapeOf_l (c:=0) (t:=16) (m:=true) A2.low ?_
          simp only [q_gl3 (G h2 E2).g.seq,q_gl3 (G h2 E2).tru,q_same,true_and]
          refine ext_tail h2 w (U1.then U2) A2 _ fun h3 r e s U3 D3 hn=>?_
          have E3:=E2.trans U3.ext
          simp only [q_gl3 (G h3 E3).g.seq,q_gl3 (G h3 E3).tru,q_same,true_and]
          refine st_ext0 (st_ext1 (st_asI ?_))
          exact fin h3 h1.length r e s ((U1.then U2).then U3) (R2.upd U3 fun h=>h) (by have:=U1.1; omega) (D3.upd (Upd.refl (fun _=>False) h3) fun i hi hl=>⟨fun h=>h,by have:=U1.1; omega,by omega⟩) hn
      · refine st_allocN (n := 5) rfl fun h1 hl1 U1 R1 => ?_
        have E1:=E.trans U1.ext
        simp only [q_gl3 (G h1 E1).g.seq,q_gl3 (G h1 E1).tru,q_same,true_and]
        refine st_buildA (cs:=leafC 0 1 false [255]) (len:=1) rfl rfl fun w h2 hl2 U2 A2 N2=>?_
        have E2:=E1.trans U2.ext
        simp only [q_gl3 (G h2 E2).g.seq,q_gl3 (G h2 E2).tru,q_same,true_and]
        refine shapeOf_l (c:=0) (t:=16) (m:=true) A2.low ?_
        simp only [q_gl3 (G h2 E2).g.seq,q_gl3 (G h2 E2).tru,q_same,true_and]
        refine ext_tail h2 w (U1.then U2) A2.rd _ fun h3 r e s U3 D3 hn=>?_
        have E3:=E2.trans U3.ext
        simp only [q_gl3 (G h3 E3).g.seq,q_gl3 (G h3 E3).tru,q_same,true_and]
        refine st_ext0 (st_ext1 (st_asI ?_))
        exact fin h3 h.length r e s ((U1.then U2).then U3) ((R1.upd U2 fun h=>h).upd U3 fun h=>h) (Nat.le_refl _) (D3.upd (Upd.refl (fun _=>False) h3) fun i hi hl=>⟨fun h=>h,by have:=U1.1; omega,by have:=U1.1; omega⟩) hn
    · refine st_allocN (n := 5) rfl fun h1 hl1 U1 R1 => ?_
      have E1:=E.trans U1.ext
      simp only [q_gl3 (G h1 E1).g.seq,q_gl3 (G h1 E1).tru,q_same,true_and]
      refine sv ?_
      simp only [q_gl3 (G h1 E1).g.seq,q_gl3 (G h1 E1).tru,q_same,true_and]
      refine st_buildA (cs:=leafC 0 1 false [255]) (len:=1) rfl rfl fun w h2 hl2 U2 A2 N2=>?_
      have E2:=E1.trans U2.ext
      simp only [q_gl3 (G h2 E2).g.seq,q_gl3 (G h2 E2).tru,q_same,true_and]
      refine shapeOf_l (c:=0) (t:=16) (m:=true) A2.low ?_
      simp only [q_gl3 (G h2 E2).g.seq,q_gl3 (G h2 E2).tru,q_same,true_and]
      refine ext_tail h2 w (U1.then U2) A2.rd _ fun h3 r e s U3 D3 hn=>?_
      have E3:=E2.trans U3.ext
      simp only [q_gl3 (G h3 E3).g.seq,q_gl3 (G h3 E3).tru,q_same,true_and]
      refine st_ext0 (st_ext1 (st_asI ?_))
      exact fin h3 h.length r e s ((U1.then U2).then U3) ((R1.upd U2 fun h=>h).upd U3 fun h=>h) (Nat.le_refl _) (D3.upd (Upd.refl (fun _=>False) h3) fun i hi hl=>⟨fun h=>h,by have:=U1.1; omega,by have:=U1.1; omega⟩) hn
  · unfold authS at hq
    rw [ha] at hq hz
    have hbe:basE false = .ok []:=rfl
    rw [hbe] at hq hz
    have hz:=hz [] rfl
    simp only [List.append_nil] at hq hz
    exact cbuild_p3 B E0 S14 S15 hn4 hkl hz hq
end
end Go.Proofs.YtcdkpkkdolmfdaaGreatDoor
