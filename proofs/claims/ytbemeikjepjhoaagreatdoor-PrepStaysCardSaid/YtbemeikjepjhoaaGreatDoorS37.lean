/-
  Expressions: what the checker tells of them. · Constructors, and sorted names: what the checker tells of them.
-/
import Derived.Test.YtbemeikjepjhoaaGreatDoorS36
namespace Go.Proofs.YtbemeikjepjhoaaGreatDoor
open Go.Ev
set_option maxRecDepth 100000
noncomputable section
variable {c : Option Self} {st : St}
mutual
def okE (C:Str→Option AV):Ex→List (List Str)→Bool
 | .mk k nm num ps b a l,sc=>headOK C sc k nm num (txsOf ps) b a l && (okL C a (innerS k (txsOf ps) b sc) && (okL C b (innerS k (txsOf ps) b sc) && okA C l sc))
def okL (C:Str→Option AV):ExL→List (List Str)→Bool
 | .nil _,_=>true
 | .cons _ x l,sc=>okE C x sc && okL C l sc
def okA (C:Str→Option AV):ExL→List (List Str)→Bool
 | .nil _,_=>true
 | .cons p x l,sc=>okE C x (txsOf (p.getD 3 .un) :: sc) && okA C l sc
end
theorem okL_iff {C:Str→Option AV}:∀ {l:ExL} {sc:List (List Str)},okL C l sc=true↔∀ j (h:j < l.list.length),okE C l.list[j].2 sc=true
 | .nil _,sc=>by simp [okL,ExL.list]
 | .cons p x l,sc=>by
  simp only [okL,Bool.and_eq_true,okL_iff (l:=l)]
  constructor
  ·rintro ⟨h1,h2⟩ j hj
   cases j with
   | zero=>exact h1
   | succ j=>exact h2 j (by simpa [ExL.list] using hj)
  ·intro h
   exact ⟨h 0 (by simp [ExL.list]),fun j hj=>h (j+1) (by simpa [ExL.list] using hj)⟩
theorem okA_iff {C:Str→Option AV}:∀ {l:ExL} {sc:List (List Str)},okA C l sc=true↔∀ j (h:j < l.list.length),okE C l.list[j].2 ((altH l.list[j]).vs :: sc)=true
 | .nil _,sc=>by simp [okA,ExL.list]
 | .cons p x l,sc=>by
  simp only [okA,Bool.and_eq_true,okA_iff (l:=l)]
  constructor
  ·rintro ⟨h1,h2⟩ j hj
   cases j with
   | zero=>exact h1
   | succ j=>exact h2 j (by simpa [ExL.list] using hj)
  ·intro h
   exact ⟨h 0 (by simp [ExL.list]),fun j hj=>h (j+1) (by simpa [ExL.list] using hj)⟩
def ExprRes (o:Option (AV × St)) (st:St) (cr mr:Nat) (w:Int) (C:Str→Option AV) (ok:Bool):Prop :=
 ∃ st' w',o=some (.tu [],st')∧Ck st' cr mr w' C∧Kp [cr] [cr] st st'∧(w'=0↔w=0∧ok=true)
def ExprOK (c:Option Self) (x:Ex):Prop:=x.Ty→x.size≤1000000→∀ (st:St) (cr mr:Nat) (w:Int) (C:Str→Option AV) (sc:List (List Str)) (fr:AV) (r:List AV) (N:Nat),CWf C→Ck st cr mr w C→FrV st cr fr sc→pureL r=true →
 2 * x.size+sc.length+10000000000000000030≤N→ExprRes ((Tw c N).call 26 [.p cr 0,.rp (x.cells++r),fr] st) st cr mr w C (okE C x sc)
def PartAt (st s:St) (t:Tr AV) (cr mr:Nat) (w:Int) (C:Str→Option AV) (e fr fi:AV) (i n:Nat) (q:Nat→Prop) (kl ki:Nat):Prop :=
 tget t 0 = .p cr 0∧tget t 1=e∧tget t 2=fr∧tget t 6=fi∧tget t kl = .i .i64 (n:Int)∧tget t ki = .i .i64 (i:Int)∧∃ w',Ck s cr mr w' C∧Kp [cr] [cr] st s∧(w'=0↔w=0∧∀ j,j < i→q j)
def PartEnd (st s:St) (t:Tr AV) (cr mr:Nat) (w:Int) (C:Str→Option AV) (e fr fi:AV) (n:Nat) (q:Nat→Prop):Prop :=
 tget t 0 = .p cr 0∧tget t 1=e∧tget t 2=fr∧tget t 6=fi∧∃ w',Ck s cr mr w' C∧Kp [cr] [cr] st s∧(w'=0↔w=0∧∀ j,j < n→q j)
def okAt (C:Str→Option AV) (sc:List (List Str)) (l:ExL) (j:Nat):Prop:=∀ h:j < l.list.length,okE C l.list[j].2 sc=true
def okAtA (C:Str→Option AV) (sc:List (List Str)) (l:ExL) (j:Nat):Prop:=∀ h:j < l.list.length,okE C l.list[j].2 ((altH l.list[j]).vs :: sc)=true
theorem okAt_all {C:Str→Option AV} {sc:List (List Str)} {l:ExL}:(∀ j,j < l.list.length→okAt C sc l j)↔okL C l sc=true:=by
 rw [okL_iff]
 exact ⟨fun h j hj=>h j hj hj,fun h j _ hj=>h j hj⟩
theorem okAtA_all {C:Str→Option AV} {sc:List (List Str)} {l:ExL}:(∀ j,j < l.list.length→okAtA C sc l j)↔okA C l sc=true:=by
 rw [okA_iff]
 exact ⟨fun h j hj=>h j hj hj,fun h j _ hj=>h j hj⟩
theorem all_succ {q:Nat→Prop} {i:Nat}:(∀ j,j < i+1→q j)↔(∀ j,j < i→q j)∧q i :=
 ⟨fun h=>⟨fun j hj=>h j (by omega),h i (by omega)⟩,fun h j hj=>by
  rcases Nat.lt_succ_iff_lt_or_eq.1 hj with hj | rfl
  ·exact h.1 j hj
  ·exact h.2⟩
theorem FrV.pn {st:St} {cr:Nat}:FrV st cr .pn []:=⟨⟨by simp,rfl⟩,.pn,.pure rfl,rfl⟩
theorem pure_tail {l:ExL} {m z:Nat} (hT:l.Ty m) {i:Nat} (hi:i < l.list.length) {r:List AV} (h:l.flat.drop (i * z)=l.list[i].1++(l.list[i].2.cells++r)) (_:l.list[i].1.length=preLen m):pureL r=true:=by
 have h1:=pureL_drop (n:=i * z) (ExL.flat_pure hT)
 rw [h,pureL_append,pureL_append,Bool.and_eq_true,Bool.and_eq_true] at h1
 exact h1.2.2
theorem f26_start {N:Nat} {t0:Tr AV} {cr:Nat} {fr:AV} (k:Int) (nm:Str) (num:Int) (ps:AV) (b a l:ExL) (r:List AV) (h0:tget t0 0 = .p cr 0) (h1:tget t0 1 = .rp ((Ex.mk k nm num ps b a l).cells++r)) (h2:tget t0 2=fr) :
  ∃ t,evC f26b ⟨Tryz.prog,Tw c N,false,Tryz.f26.ntmps,N⟩ t0 st=thenC (evC f26h ⟨Tryz.prog,Tw c N,false,Tryz.f26.ntmps,N⟩ t st) (evC f26r ⟨Tryz.prog,Tw c N,false,Tryz.f26.ntmps,N⟩) ∧
   tget t 0 = .p cr 0∧tget t 1 = .rp ((Ex.mk k nm num ps b a l).cells++r)∧tget t 2=fr∧tget t 6=fr∧tget t 7 = .b false∧tget t 18 = .i .i64 k:=by
 rw [show evC f26b ⟨Tryz.prog,Tw c N,false,Tryz.f26.ntmps,N⟩ t0 st=thenC (evC (cHd f26b) ⟨Tryz.prog,Tw c N,false,Tryz.f26.ntmps,N⟩ t0 st) (fun t s=>thenC (evC (cHd (cTl f26b)) ⟨Tryz.prog,Tw c N,false,Tryz.f26.ntmps,N⟩ t s)
  (fun t s=>thenC (thenC (evC (cHd (cHd (cTl (cTl f26b)))) ⟨Tryz.prog,Tw c N,false,Tryz.f26.ntmps,N⟩ t s) (evC f26h ⟨Tryz.prog,Tw c N,false,Tryz.f26.ntmps,N⟩)) (evC f26r ⟨Tryz.prog,Tw c N,false,Tryz.f26.ntmps,N⟩))) from rfl]
 have a0:∃ t,evC (cHd f26b) ⟨Tryz.prog,Tw c N,false,Tryz.f26.ntmps,N⟩ t0 st = .nx t st∧tget t 0 = .p cr 0∧tget t 1 = .rp ((Ex.mk k nm num ps b a l).cells++r)∧tget t 2=fr∧tget t 6=fr:=by
  simp [f26b,cHd,Tryz.f26,h0,h1,h2]
 obtain ⟨t1,a0,b0,b1,b2,b6⟩:=a0
 have a1:∃ t,evC (cHd (cTl f26b)) ⟨Tryz.prog,Tw c N,false,Tryz.f26.ntmps,N⟩ t1 st = .nx t st∧tget t 0 = .p cr 0∧tget t 1 = .rp ((Ex.mk k nm num ps b a l).cells++r)∧tget t 2=fr∧tget t 6=fr∧tget t 7 = .b false:=by
  simp [f26b,cHd,cTl,Tryz.f26,b0,b1,b2,b6]
 obtain ⟨t2,a1,c0,c1,c2,c6,c7⟩:=a1
 have a2:∃ t,evC (cHd (cHd (cTl (cTl f26b)))) ⟨Tryz.prog,Tw c N,false,Tryz.f26.ntmps,N⟩ t2 st = .nx t st∧tget t 0 = .p cr 0∧tget t 1 = .rp ((Ex.mk k nm num ps b a l).cells++r)∧tget t 2=fr∧tget t 6=fr∧tget t 7 = .b false∧tget t 18 = .i .i64 k:=by
  simp [f26b,cHd,cTl,Tryz.f26,c0,c1,c2,c6,c7,off40_0,load_rp inf3 ag3,Ex.cells]
 obtain ⟨t3,a2,d0,d1,d2,d6,d7,d18⟩:=a2
 refine ⟨t3,?_,d0,d1,d2,d6,d7,d18⟩
 rw [a0,thenC_nx,a1,thenC_nx,a2,thenC_nx]
set_option maxHeartbeats 4000000 in
theorem expr_call:∀ x,ExprOK c x:=by
 refine Ex.ind fun k nm num ps b a l hb ha hl=>?_
 intro hT hs st cr mr w C sc fr r N hC hk hf hr hN
 obtain ⟨N,rfl⟩:∃ N',N=N'+1:=⟨N - 1,by omega⟩
 rw [body_out rfl Tryz.func26 rfl (Nat.le_of_ble_eq_true rfl)]; unfold bodyR
 have hT':=hT
 have hT2:=hT
 simp only [Ex.Ty] at hT
 obtain ⟨-,hps,hTb,hTa,hTl⟩:=hT
 have hsz:(Ex.mk k nm num ps b a l).size=1+b.size+a.size+l.size:=by simp only [Ex.size]
 have hbl:=b.len_le
 have hal:=a.len_le
 have hll:=l.len_le
 have lb:=fun st:St=>len_sl (st:=st) Tryz.underlying23 (b.slice_len 8) (b.slice_text 8)
 have la:=fun st:St=>len_sl (st:=st) Tryz.underlying37 (a.slice_len 7) (a.slice_text 7)
 have ll:=fun st:St=>len_sl (st:=st) Tryz.underlying38 (l.slice_len 11) (l.slice_text 11)
 have hcl:(Ex.mk k nm num ps b a l).cells++r = .i .i64 k :: .s nm :: .i .i64 num :: ps :: b.slice 8 :: a.slice 7 :: l.slice 11 :: r:=by simp [Ex.cells]
 have slen:(innerS k (txsOf ps) b sc).length≤sc.length+1:=by
  unfold innerS
  split
  ·simp
  ·split <;> simp
 obtain ⟨sc',hsc'⟩:∃ sc',innerS k (txsOf ps) b sc=sc':=⟨_,rfl⟩
 have e2:IsErr 2:=by right; right; right; rfl
 have e2:IsErr 2:=by right; right; right; rfl
 have start:=f26_start (c:=c) (N:=N) (t0:=tmpsOf [.p cr 0,.rp ((Ex.mk k nm num ps b a l).cells++r),fr] 0 .lf) (st:=st) (cr:=cr) (fr:=fr) k nm num ps b a l r (by simp) (by simp) (by simp)
 obtain ⟨t,h0,q0,q1,q2,q6,q7,q18⟩:=start
 have hb0:evC (Tryz.f26.body.getD .skip) ⟨Tryz.prog,Tw c N,false,Tryz.f26.ntmps,N⟩ (tmpsOf [.p cr 0,.rp ((Ex.mk k nm num ps b a l).cells++r),fr] 0 .lf) st=_:=h0
 obtain ⟨t1,s1,h1,H⟩:=head_run (c:=c) k nm num ps b a l hT2 hs r hr hC hk hf (N:=N) (by omega) q0 q1 q2 q6 q7 q18
 obtain ⟨p0,p1,p2,pF,fine,w1,p7,pC,pK,pG⟩:=H
 rw [hsc'] at pF
 obtain ⟨fi,hfi⟩:∃ fi,tget t1 6=fi:=⟨_,rfl⟩
 rw [hfi] at pF
 obtain ⟨s2,w2,y1,y2,y3,y4⟩:=note_call (c:=c) (!fine) pC e2 (by decide) (N:=N) (by omega)
 have kp2:=pK.trans y3
 have g2:w2=0↔w=0∧headOK C sc k nm num (txsOf ps) b a l=true:=by
  rw [y4,← pG]
  cases fine <;> simp
 show ExprRes (endF Tryz.prog Tryz.f26.results.toList (evC (Tryz.f26.body.getD .skip) ⟨Tryz.prog,Tw c N,false,Tryz.f26.ntmps,N⟩ (tmpsOf [.p cr 0,.rp ((Ex.mk k nm num ps b a l).cells++r),fr] 0 .lf) st)) st cr mr w C _
 rw [hb0,h1,thenC_nx]
 rw [hcl] at p1
 unfold ExprRes
 simp [f26r,f26b,cTl,Tryz.f26,p0,p1,p7,callF_of Tryz.func21 rfl,y1,off40_5,load_rp inf37 ag37,la,evC_loop]
 generalize hL:loopC _ _ _ _=L
 obtain ⟨t3,s3,rfl,z0,z1,z2,z6,w3,zC,zK,zG⟩:=loop_use hL 1 a.list.length
  (fun i t s=>PartAt s2 s t cr mr w2 C (.rp (.i .i64 k :: .s nm :: .i .i64 num :: ps :: b.slice 8 :: a.slice 7 :: l.slice 11 :: r)) fr fi i a.len (okAt C sc' a) 245 246)
  (fun t s=>PartEnd s2 s t cr mr w2 C (.rp (.i .i64 k :: .s nm :: .i .i64 num :: ps :: b.slice 8 :: a.slice 7 :: l.slice 11 :: r)) fr fi a.list.length (okAt C sc' a)) (by rw [← ExL.len_eq]; omega)
  ⟨by simp [p0],by simp [p1],by simp [p2],by simp [hfi],by simp,by simp,w2,y2,.refl _ _ _,by simp⟩
  (by
   rintro i t s hi ⟨i0,i1,i2,i6,il,ii,w',iC,iK,iG⟩
   clear hL
   have hil:i < a.len:=by rw [ExL.len_eq]; exact hi
   have e5:(i:Int) < (a.len:Int):=by omega
   have e7:wr .i64 ((i:Int)+1)=((i+1:Nat):Int):=by rw [wr_in (by omega) (by omega)]; rfl
   obtain ⟨r1,r2,r3⟩:=part_at hTa.pre (show preLen 0+7=7 from rfl) hi
   have ix:=index_rs (P:=Tryz.prog) Tryz.underlying37 inf40 sz40 a.flat a.len i hil
   rw [← ExL.slice_rs hil,r2,List.eq_nil_of_length_eq_zero r3,List.nil_append] at ix
   have hmem:=List.getElem_mem hi
   have hTi:=ExL.ty_list hTa _ hmem
   have hsz':=ExL.size_mem hmem
   have hpr1:pureL r1=true:=pure_tail hTa hi r2 r3
   obtain ⟨s4,w4,x1,x2,x3,x4⟩:=ha _ hmem hTi.2 (by omega) s cr mr w' C sc' fi r1 N hC iC ((pF.keep y3).keep iK) hpr1 (by rw [← hsc']; omega)
   simp [i0,i1,i6,il,ii,e5,e7,off40_5,load_rp inf37 ag37,ix,callF_of Tryz.func26 rfl,x1]
   refine ⟨_,_,⟨rfl,rfl⟩,by simp [i0],by simp [i1],by simp [i2],by simp [i6],by simp [il],by simp,w4,x2,iK.trans x3,?_⟩
   rw [x4,iG,all_succ,and_assoc]
   exact and_congr Iff.rfl (and_congr Iff.rfl ⟨fun h _=>h,fun h=>h hi⟩))
  (by
   rintro t s ⟨i0,i1,i2,i6,il,ii,w',iC,iK,iG⟩
   clear hL
   simp [il,ii,ExL.len_eq]
   exact ⟨_,_,⟨rfl,rfl⟩,by simp [i0],by simp [i1],by simp [i2],by simp [i6],w',iC,iK,iG⟩)
 clear hL
 simp [z1,off40_4,load_rp inf23 ag23,lb,evC_loop]
 generalize hL:loopC _ _ _ _=L
 obtain ⟨t4,s4,rfl,u0,u1,u2,u6,w4,uC,uK,uG⟩:=loop_use hL 3 b.list.length
  (fun i t s=>PartAt s3 s t cr mr w3 C (.rp (.i .i64 k :: .s nm :: .i .i64 num :: ps :: b.slice 8 :: a.slice 7 :: l.slice 11 :: r)) fr fi i b.len (okAt C sc' b) 263 264)
  (fun t s=>PartEnd s3 s t cr mr w3 C (.rp (.i .i64 k :: .s nm :: .i .i64 num :: ps :: b.slice 8 :: a.slice 7 :: l.slice 11 :: r)) fr fi b.list.length (okAt C sc' b)) (by rw [← ExL.len_eq]; omega)
  ⟨by simp [z0],by simp [z1],by simp [z2],by simp [z6],by simp,by simp,w3,zC,.refl _ _ _,by simp⟩
  (by
   rintro i t s hi ⟨i0,i1,i2,i6,il,ii,w',iC,iK,iG⟩
   clear hL
   have hil:i < b.len:=by rw [ExL.len_eq]; exact hi
   have e5:(i:Int) < (b.len:Int):=by omega
   have e7:wr .i64 ((i:Int)+1)=((i+1:Nat):Int):=by rw [wr_in (by omega) (by omega)]; rfl
   obtain ⟨r1,r2,r3⟩:=part_at hTb.pre (show preLen 1+7=8 from rfl) hi
   have ix:=index_rs (P:=Tryz.prog) Tryz.underlying23 inf42 sz42 b.flat b.len i hil
   rw [← ExL.slice_rs hil,r2] at ix
   have hmem:=List.getElem_mem hi
   have hTi:=ExL.ty_list hTb _ hmem
   have hsz':=ExL.size_mem hmem
   have hpr1:pureL r1=true:=pure_tail hTb hi r2 r3
   have hd:(b.list[i].1++(b.list[i].2.cells++r1)).drop 1=b.list[i].2.cells++r1:=by
    have r3':b.list[i].1.length=1:=r3
    rw [List.drop_append,r3']; simp [r3',List.drop_eq_nil_of_le]
   obtain ⟨s4,w4,x1,x2,x3,x4⟩:=hb _ hmem hTi.2 (by omega) s cr mr w' C sc' fi r1 N hC iC (((pF.keep y3).keep zK).keep iK) hpr1 (by rw [← hsc']; omega)
   simp [i0,i1,i6,il,ii,e5,e7,off40_4,load_rp inf23 ag23,ix,off42_1,hd,callF_of Tryz.func26 rfl,x1]
   refine ⟨_,_,⟨rfl,rfl⟩,by simp [i0],by simp [i1],by simp [i2],by simp [i6],by simp [il],by simp,w4,x2,iK.trans x3,?_⟩
   rw [x4,iG,all_succ,and_assoc]
   exact and_congr Iff.rfl (and_congr Iff.rfl ⟨fun h _=>h,fun h=>h hi⟩))
  (by
   rintro t s ⟨i0,i1,i2,i6,il,ii,w',iC,iK,iG⟩
   clear hL
   simp [il,ii,ExL.len_eq]
   exact ⟨_,_,⟨rfl,rfl⟩,by simp [i0],by simp [i1],by simp [i2],by simp [i6],w',iC,iK,iG⟩)
 clear hL
 simp [u1,off40_6,load_rp inf38 ag38,ll,evC_loop]
 generalize hL:loopC _ _ _ _=L
 obtain ⟨t5,s5,rfl,v0,v1,v2,v6,w5,vC,vK,vG⟩:=loop_use hL 5 l.list.length
  (fun i t s=>PartAt s4 s t cr mr w4 C (.rp (.i .i64 k :: .s nm :: .i .i64 num :: ps :: b.slice 8 :: a.slice 7 :: l.slice 11 :: r)) fr fi i l.len (okAtA C sc l) 282 283)
  (fun t s=>PartEnd s4 s t cr mr w4 C (.rp (.i .i64 k :: .s nm :: .i .i64 num :: ps :: b.slice 8 :: a.slice 7 :: l.slice 11 :: r)) fr fi l.list.length (okAtA C sc l)) (by rw [← ExL.len_eq]; omega)
  ⟨by simp [u0],by simp [u1],by simp [u2],by simp [u6],by simp,by simp,w4,uC,.refl _ _ _,by simp⟩
  (by
   rintro i t s hi ⟨i0,i1,i2,i6,il,ii,w',iC,iK,iG⟩
   clear hL
   have hil:i < l.len:=by rw [ExL.len_eq]; exact hi
   have e5:(i:Int) < (l.len:Int):=by omega
   have e7:wr .i64 ((i:Int)+1)=((i+1:Nat):Int):=by rw [wr_in (by omega) (by omega)]; rfl
   obtain ⟨r1,r2,r3⟩:=part_at hTl.pre (show preLen 4+7=11 from rfl) hi
   have ix:=index_rs (P:=Tryz.prog) Tryz.underlying38 inf80 sz80 l.flat l.len i hil
   rw [← ExL.slice_rs hil,r2] at ix
   have hmem:=List.getElem_mem hi
   have hTi:=ExL.ty_list hTl _ hmem
   have hsz':=ExL.size_mem hmem
   have hpr1:pureL r1=true:=pure_tail hTl hi r2 r3
   obtain ⟨vs,hp4,hvs,hvl⟩:=pre4 hTi.1
   have hd:(l.list[i].1++(l.list[i].2.cells++r1)).drop 4=l.list[i].2.cells++r1:=by rw [hp4]; rfl
   have hd3:cut ((l.list[i].1++(l.list[i].2.cells++r1)).drop 3) 0 1=some [vs]:=by rw [hp4]; rfl
   have fK:FrV s cr fr sc:=(((((hf.keep pK).keep y3).keep zK).keep uK).keep iK)
   have bo:=fun (t:Tr AV) (q1:evO t (.tmp 301)=vs) (q2:evO t (.tmp 302)=fr)=>build66 (st:=s) (S:=Tw c N) (t:=t) q1 q2 (isSl_cells hvs) fK.1.1
   have nf:=fK.new hvs hvl iC.crl
   have kn:=Kp.newCe (st:=s) [cr] [cr] [vs,fr]
   have nk:=iC.keep (Kp.newCe (st:=s) [] [] [vs,fr]) (by simp) (by simp) (by simp)
   obtain ⟨s6,w6,x1,x2,x3,x4⟩:=hl _ hmem hTi.2 (by omega) (s.newCe [vs,fr]) cr mr w' C ((altH l.list[i]).vs :: sc) (.p s.next 0) r1 N hC nk nf hpr1 (by simp; omega)
   simp [il,ii,e5,evC_draw]
   rw [drawC_nil (by kernel_rfl)]
   simp [i0,i1,i2,ii,e7,off40_6,load_rp inf38 ag38,ix,off80_4,off80_3,hd,hd3,load_rp inf36 ag36,bo,callF_of Tryz.func26 rfl,x1]
   refine ⟨_,_,⟨rfl,rfl⟩,by simp [i0],by simp [i1],by simp [i2],by simp [i6],by simp [il],by simp,w6,x2,iK.trans (kn.trans x3),?_⟩
   rw [x4,iG,all_succ,and_assoc]
   exact and_congr Iff.rfl (and_congr Iff.rfl ⟨fun h _=>h,fun h=>h hi⟩))
  (by
   rintro t s ⟨i0,i1,i2,i6,il,ii,w',iC,iK,iG⟩
   clear hL
   simp [il,ii,ExL.len_eq]
   exact ⟨_,_,⟨rfl,rfl⟩,by simp [i0],by simp [i1],by simp [i2],by simp [i6],w',iC,iK,iG⟩)
 clear hL
 refine ⟨s5,by simp [resOf_eq,pmapO],w5,vC,((kp2.trans zK).trans uK).trans vK,?_⟩
 rw [vG,uG,zG,g2,okAt_all,okAt_all,okAtA_all]
 simp only [okE,Bool.and_eq_true,hsc',and_assoc]
end
end Go.Proofs.YtbemeikjepjhoaaGreatDoor
namespace Go.Proofs.YtbemeikjepjhoaaGreatDoor
open Go.Ev
set_option maxRecDepth 100000
noncomputable section
variable {c : Option Self} {st : St}
theorem nan_call (x:Str) {N:Nat} (hN:1≤N):(Tw c N).call 63 [.s x] st=some (.b false,st):=by
 obtain ⟨N,rfl⟩:∃ N',N=N'+1:=⟨N - 1,by omega⟩
 rw [body_out rfl Tryz.func63 rfl (Nat.le_of_ble_eq_true rfl)]; unfold bodyR
 simp [Tryz.f63,str_ne,resOf_eq,pmapO]
theorem less_call (x y:Str) {N:Nat} (hN:2≤N):(Tw c N).call 47 [.s x,.s y] st=some (.b (llt x y),st):=by
 obtain ⟨N,rfl⟩:∃ N',N=N'+1:=⟨N - 1,by omega⟩
 rw [body_out rfl Tryz.func47 rfl (Nat.le_of_ble_eq_true rfl)]; unfold bodyR
 have n1:=fun st:St=>nan_call (c:=c) (st:=st) x (N:=N) (by omega)
 simp [Tryz.f47,callF_of Tryz.func63 rfl,n1,str_lt,resOf_eq,pmapO]
def SrtFrom (l:List Str) (i:Nat):Prop:=∀ j (h:j+1 < l.length),i≤j→llt l[j+1] l[j]=false
def SrtRes (o:Option (AV × St)) (l:List Str):Prop:=∃ b,Ret o (.b b)∧(b=true↔SrtFrom l 0)
theorem sorted_call {v:AV} {l:List Str} (hv:IsSl v (l.map .s)) (hl:l.length≤9223372036854775807) {N:Nat} (hN:10000000000000000005≤N) :
  ∃ b,(∀ st,(Tw c N).call 25 [v] st=some (.b b,st))∧(b=true↔SrtFrom l 0):=by
 obtain ⟨N,rfl⟩:∃ N',N=N'+1:=⟨N - 1,by omega⟩
 have hp:pureL [v]=true:=by simp [pureL,hv.pure (pure_strs l)]
 suffices h:SrtRes (bodyR c N Tryz.f25 (Tryz.f25.body.getD .skip) [v] st0) l by
  obtain ⟨b,h1,h2⟩:=h
  exact ⟨b,fun st=>body_v (X:=[]) rfl rfl (.inr (by decide)) (.pure hp) Tryz.func25 rfl (Nat.le_of_ble_eq_true rfl) rfl h1,h2⟩
 unfold bodyR
 have ln:=fun st:St=>hv.sLen (st:=st) sl36
 have e0:wr .i64 ((l.length:Int) - 1)=(l.length:Int) - 1:=wr_in (by omega) (by omega)
 simp [Tryz.f25,ln,e0,evC_loop]
 generalize hL:loopC _ _ _ _=L
 have lr:=loop_ret hL 0 (l.length - 1) (fun i t _=>tget t 0=v∧(l.length=0∧tget t 3 = .i .i64 (-1)∨1≤l.length∧tget t 3 = .i .i64 ((l.length - 1 - i:Nat):Int))∧SrtFrom l (l.length - 1 - i)) (fun _ _=>SrtFrom l 0) (fun t _=>tget t 2 = .b false∧¬ SrtFrom l 0) (by omega)
  ⟨by simp,by
   by_cases h:l.length=0
   ·left; refine ⟨h,?_⟩; simp [h]
   ·right; refine ⟨by omega,?_⟩; simp; omega,fun j hj h=>by omega⟩
  (by
   rintro i t st hi ⟨i0,i3,iS⟩
   clear hL
   rcases i3 with ⟨h,-⟩ | ⟨h1,i3⟩
   ·omega
   obtain ⟨m,hm⟩:∃ m,l.length - 1 - i=m+1:=⟨l.length - 1 - i - 1,by omega⟩
   rw [hm] at i3 iS
   have e3:(0:Int) < ((m+1:Nat):Int):=by omega
   have e4:wr .i64 (((m+1:Nat):Int) - 1)=(m:Int):=by rw [wr_in (by omega) (by omega)]; omega
   obtain ⟨a1,x1,d1⟩:=hv.sat sl36 ag9 (show m+1 < l.length by omega)
   obtain ⟨a2,x2,d2⟩:=hv.sat sl36 ag9 (show m < l.length by omega)
   rw [show ((m+1:Nat):Int)=(m:Int)+1 from by omega] at i3 e3 x1
   have e4:wr .i64 (m:Int)=(m:Int):=wr_in (by omega) (by omega)
   have ls:=fun st:St=>less_call (c:=c) (st:=st) l[m+1] l[m] (N:=N) (by omega)
   cases hb:llt l[m+1] l[m] with
   | true =>
    right
    simp [i3,e3,evC_draw]
    rw [drawC_nil (by kernel_rfl)]
    simp [i0,i3,e4,x1,d1,x2,d2,callF_of Tryz.func47 rfl,ls,hb]
    intro hS
    have:=hS m (by omega) (by omega)
    rw [hb] at this; cases this
   | false =>
    left
    simp [i3,e3,evC_draw]
    rw [drawC_nil (by kernel_rfl)]
    simp [i0,i3,e4,x1,d1,x2,d2,callF_of Tryz.func47 rfl,ls,hb]
    rw [show l.length - 1 - (i+1)=m by omega]
    refine ⟨⟨h1,rfl⟩,fun j hj h=>?_⟩
    by_cases hj':j=m
    ·subst hj'; exact hb
    ·exact iS j hj (by omega))
  (by
   rintro t st ⟨i0,i3,iS⟩
   clear hL
   have e3:SrtFrom l 0:=fun j hj _=>iS j hj (by omega)
   rcases i3 with ⟨h,i3⟩ | ⟨h1,i3⟩
   ·simp [i3]
    exact e3
   ·rw [show l.length - 1 - (l.length - 1)=0 by omega] at i3
    simp [i3]
    exact e3)
 clear hL
 rcases lr with ⟨t1,s1,rfl,hT⟩ | ⟨t1,s1,rfl,hT,hF⟩
 ·exact ⟨true,by simp [resOf_eq,pmapO],by simpa using hT⟩
 ·exact ⟨false,by simp [hT,resOf_eq,pmapO],by simpa using hF⟩
structure ConD where
 n:Str
 ar:Int
 ty:Str
 tag:Int
def ConD.cells (d:ConD):List AV:=[.s d.n,.i .i64 d.ar,.s d.ty,.i .i64 d.tag]
def IsCons (v:AV) (ds:List ConD):Prop:=IsMs v 4 (ds.map ConD.cells)
def conEq (d e:ConD):Bool:=decide (d.n=e.n) && (decide (d.ar=e.ar) && (decide (d.ty=e.ty) && decide (d.tag=e.tag)))
theorem pure_con (d:ConD):pureL d.cells=true:=by simp [ConD.cells,pureL,pureV]
theorem sc_con (d:ConD):allSc d.cells=true:=by simp [ConD.cells]
theorem pure_cons:∀ ds:List ConD,pureL ((ds.map ConD.cells).flatten)=true
 | []=>rfl
 | d :: ds=>by simp [pureL_append,pure_con,pure_cons ds]
theorem IsCons.pure {v:AV} {ds:List ConD} (h:IsCons v ds):pureV v=true:=by
 rcases h.1 with ⟨rfl,-⟩ | rfl
 ·rfl
 ·simp only [pureV]; exact pure_cons ds
theorem stood35:(!Tryz.prog.stoodInHeld 35 && !Tryz.prog.eqGuardType Tryz.prog.depth 35)=true:=by kernel_rfl
theorem fields35:∃ fs,Tryz.prog.underlying 35=some (.struct fs)∧fs.toList.map (fun f=>(f.type,f.offset,f.name == "_"))=[(9,0,false),(3,1,false),(9,2,false),(3,3,false)]:=⟨_,Tryz.underlying35,by kernel_rfl⟩
theorem eqFs_step {P:Program} {xs ys:List AV} {f:Field} {fs:List Field} {t o:Nat} {a b:AV} {r:Bool} (hf:(f.type,f.offset,f.name == "_")=(t,o,false)) (h1:Go.Ev.part P t xs o=some a) (h2:Go.Ev.part P t ys o=some b) (h3:eqT1 P t a b=some r) :
  eqFs P xs ys (f :: fs)=if r=true then eqFs P xs ys fs else some false:=by
 simp only [Prod.mk.injEq] at hf
 obtain ⟨rfl,rfl,hn⟩:=hf
 simp only [eqFs,h1,h2,h3,hn]
 cases r <;> rfl
theorem eqT1_s (a b:Str):eqT1 Tryz.prog 9 (.s a) (.s b)=some (decide (a=b)):=by
 unfold eqT1
 simp only [Tryz.underlying9]
 show some (leq a b)=_
 rw [leq_eq]
theorem eqT1_i (a b:Int):eqT1 Tryz.prog 3 (.i .i64 a) (.i .i64 b)=some (decide (a=b)):=by
 unfold eqT1
 simp only [Tryz.underlying3]
 show @Bool.rec (fun _=>Option Bool) none (some (ieq a b)) (keq .i64 .i64)=_
 rw [keq_self,ieq_eq]
theorem eql35 (d e:ConD) (k:Bool):eqV Tryz.prog 35 k (.ag d.cells) (.ag e.cells)=some (conEq d e):=by
 show eqAg Tryz.prog 35 d.cells e.cells=_
 obtain ⟨fs,h1,h2⟩:=fields35
 unfold eqAg
 rw [h1]
 simp only [stood35]
 generalize fs.toList=fl at h2 ⊢
 rcases fl with _ | ⟨f0,_ | ⟨f1,_ | ⟨f2,_ | ⟨f3,_ | ⟨f4,tl⟩⟩⟩⟩⟩
 case cons.cons.cons.cons.nil =>
  simp only [List.map_cons,List.map_nil,List.cons.injEq,and_true] at h2
  obtain ⟨g0,g1,g2,g3⟩:=h2
  have p9:∀ (d:ConD),Go.Ev.part Tryz.prog 9 d.cells 0=some (.s d.n):=fun d=>by rw [part_one inf9 ag9]; rfl
  have p92:∀ (d:ConD),Go.Ev.part Tryz.prog 9 d.cells 2=some (.s d.ty):=fun d=>by rw [part_one inf9 ag9]; rfl
  have p3:∀ (d:ConD),Go.Ev.part Tryz.prog 3 d.cells 1=some (.i .i64 d.ar):=fun d=>by rw [part_one inf3 ag3]; rfl
  have p33:∀ (d:ConD),Go.Ev.part Tryz.prog 3 d.cells 3=some (.i .i64 d.tag):=fun d=>by rw [part_one inf3 ag3]; rfl
  rw [eqFs_step g0 (p9 d) (p9 e) (eqT1_s _ _),eqFs_step g1 (p3 d) (p3 e) (eqT1_i _ _),eqFs_step g2 (p92 d) (p92 e) (eqT1_s _ _),eqFs_step g3 (p33 d) (p33 e) (eqT1_i _ _)]
  unfold conEq
  by_cases h1:d.n=e.n <;> by_cases h2:d.ar=e.ar <;> by_cases h3:d.ty=e.ty <;> by_cases h4:d.tag=e.tag <;> simp [h1,h2,h3,h4,eqFs]
 all_goals simp at h2
theorem con_eq (d e:ConD) (k:Bool):Go.Ev.binOp Tryz.prog 35 k .eql (.ag d.cells) (.ag e.cells)=some (.b (conEq d e)):=by
 show eqOp Tryz.prog 35 k .eql (.ag d.cells) (.ag e.cells)=_
 unfold eqOp
 rw [eql35]
theorem con_ne (d e:ConD) (k:Bool):Go.Ev.binOp Tryz.prog 35 k .neq (.ag d.cells) (.ag e.cells)=some (.b (!conEq d e)):=by
 show eqOp Tryz.prog 35 k .neq (.ag d.cells) (.ag e.cells)=_
 unfold eqOp
 rw [eql35]
theorem conEq_self (d:ConD):conEq d d=true:=by simp [conEq]
theorem con_at {v:AV} {ds:List ConD} (h:IsCons v ds) {k:Nat} (hk:k < ds.length):∃ r,indexAddr Tryz.prog 22 v (.i .i64 (k:Int))=some (.rp (ds[k].cells++r)):=by
 have:=h.at (P:=Tryz.prog) sl22 (k:=k) (by simpa using hk)
 simpa using this
theorem con_load (d:ConD) (r:List AV):loadAt Tryz.prog 35 st (.rp (d.cells++r))=some (.ag d.cells):=load_ms inf35 ag35 sz35 rfl
theorem cons_len {v:AV} {ds:List ConD} (h:IsCons v ds):bLen Tryz.prog st [22] [v]=some (.i .i64 (ds.length:Int),st):=by
 have:=IsMs.bLen (st:=st) sl22 h
 simpa using this
theorem indexC_call (d:ConD) {v:AV} {ds:List ConD} (hv:IsCons v ds) (hl:ds.length≤9223372036854775807) {N:Nat} (hN:10000000000000000000≤N) :
  ∃ n:Int,∀ st,(Tw c N).call 62 [v,.ag d.cells] st=some (.i .i64 n,st):=by
 obtain ⟨N,rfl⟩:∃ N',N=N'+1:=⟨N - 1,by omega⟩
 have hp:pureL [v,.ag d.cells]=true:=by simp [pureL,pureV,hv.pure,pure_con]
 suffices h:∃ n:Int,Ret (bodyR c N Tryz.f62 (Tryz.f62.body.getD .skip) [v,.ag d.cells] st0) (.i .i64 n) by
  obtain ⟨n,h1⟩:=h
  exact ⟨n,fun st=>body_v (X:=[]) rfl rfl (.inr (by decide)) (.pure hp) Tryz.func62 rfl (Nat.le_of_ble_eq_true rfl) rfl h1⟩
 unfold bodyR
 have ln:=fun st:St=>cons_len (st:=st) hv
 have hc:=newCe_ce (st:=st0) d.cells
 have h0:st0.next < (st0.newCe d.cells).next:=Nat.lt_succ_self _
 obtain ⟨r0,hr0⟩:∃ r,st0.next=r:=⟨_,rfl⟩
 obtain ⟨s0,hs0⟩:∃ s,st0.newCe d.cells=s:=⟨_,rfl⟩
 rw [hr0,hs0] at hc
 have hld:loadAt Tryz.prog 35 s0 (.p r0 0)=some (.ag d.cells):=by
  rw [load_ag inf35 ag35,sz35,rd_of hc]; rfl
 simp [Tryz.f62,ln,hr0,hs0,evC_loop]
 generalize hL:loopC _ _ _ _=L
 have lr:=loop_ret hL 0 ds.length (fun i t s=>s=s0∧tget t 0=v∧tget t 3 = .p r0 0∧tget t 7 = .i .i64 (ds.length:Int)∧tget t 8 = .i .i64 (i:Int)) (fun _ _=>True) (fun t _=>∃ n:Int,tget t 4 = .i .i64 n) (by omega)
  ⟨rfl,by simp,by simp,by simp,by simp⟩
  (by
   rintro i t s hi ⟨rfl,i0,i3,i7,i8⟩
   clear hL
   have e3:(i:Int) < (ds.length:Int):=by omega
   have e4:wr .i64 ((i:Int)+1)=((i+1:Nat):Int):=by rw [wr_in (by omega) (by omega)]; rfl
   obtain ⟨r,ix⟩:=con_at hv hi
   have ld:=fun st:St=>con_load (st:=st) ds[i] r
   cases hb:conEq d ds[i] with
   | true =>
    right
    simp [i7,i8,e3,evC_draw]
    rw [drawC_nil (by kernel_rfl)]
    simp [i0,i3,ix,ld,hld,con_eq,hb]
   | false =>
    left
    simp [i7,i8,e3,evC_draw]
    rw [drawC_nil (by kernel_rfl)]
    simp [i0,i3,i8,ix,ld,hld,con_eq,hb,e4]
    exact ⟨_,_,⟨rfl,rfl⟩,rfl,by simp [i0],by simp [i3],by simp [i7],by simp⟩)
  (by
   rintro t s ⟨rfl,i0,i3,i7,i8⟩
   clear hL
   simp [i7,i8])
 clear hL
 rcases lr with ⟨t1,s1,rfl,hT⟩ | ⟨t1,s1,rfl,n,hT⟩
 ·exact ⟨-1,by simp [resOf_eq,pmapO]⟩
 ·exact ⟨n,by simp [hT,resOf_eq,pmapO]⟩
theorem containsC_call (d:ConD) {v:AV} {ds:List ConD} (hv:IsCons v ds) (hl:ds.length≤9223372036854775807) {N:Nat} (hN:10000000000000000001≤N) :
  ∃ b:Bool,∀ st,(Tw c N).call 46 [v,.ag d.cells] st=some (.b b,st):=by
 obtain ⟨N,rfl⟩:∃ N',N=N'+1:=⟨N - 1,by omega⟩
 have hp:pureL [v,.ag d.cells]=true:=by simp [pureL,pureV,hv.pure,pure_con]
 obtain ⟨n,h1⟩:=indexC_call (c:=c) d hv hl (N:=N) (by omega)
 refine ⟨decide (0≤n),fun st=>body_v (X:=[]) rfl rfl (.inr (by decide)) (.pure hp) Tryz.func46 rfl (Nat.le_of_ble_eq_true rfl) rfl ?_⟩
 unfold bodyR
 have hc:=newCe_ce (st:=st0) d.cells
 have hld:loadAt Tryz.prog 35 (st0.newCe d.cells) (.p st0.next 0)=some (.ag d.cells):=by
  rw [load_ag inf35 ag35,sz35,rd_of hc]; rfl
 simp [Tryz.f46,hld,callF_of Tryz.func62 rfl,h1,resOf_eq,pmapO]
end
end Go.Proofs.YtbemeikjepjhoaaGreatDoor
