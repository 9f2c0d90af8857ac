/- A part of the proof. -/
import Derived.Test.YtnmofhngblebiaaGreatDoorS12
set_option maxRecDepth 100000
open Option renaming some->So,none->No
open Bool renaming true->Tt,false->Ff
open Nat renaming le_of_ble_eq_true->Q0,lt_of_lt_of_le->Q2,le_refl->Q4,ble_eq_true_of_le->Q5,le_trans->Z7,zero_add->K8,add_mul->V7,mul_one->V9
open Bool renaming and_eq_true->Q1,or_eq_true->Z6
open List renaming length_map->Q3,nil_append->Q6,append_assoc->Q7,take_append_getElem->Q8,mem_cons->Q9,mem_append_right->J1,drop_eq_getElem_cons->J3,mem_append_left->J4,length_append->J5,append_nil->J6,mem_append->J8,cons_append->J9,take_length->Z0,flatMap_append->Z3,drop_eq_nil_of_le->Z4,getElem_mem->Z5,drop_append->Z8,getElem_map->Z9,getElem?_eq_some_iff->V0,take_append_drop->V1,nodup_append->V2,mem_cons_of_mem->V3,mem_cons_self->V4,drop_length->V6,length_take->V8,map_cons->X0,drop_zero->X4,eq_nil_of_length_eq_zero->X5
open Go.Proofs.Tryz
open Go.Proofs.Tryz renaming prog->π
noncomputable section
open Go.Ev
namespace Go.Proofs.YtnmofhngblebiaaGreatDoor
variable {A F F' Y al:List Nat}{Gf Kf:aK}{J:St->Prop}{M0 N br g gr i kr lo mr n r z:Nat}{P:Program}{a b:aa}{bv cv ps sv v w:AV}{c:Option Self}{caps:List AV}{del:ae->Bool}{e ty:TypeId}{fs:List aK}{k num:Int}{l:List ae}{m:Ms}{nm:ae}{o:bC}{q:Nat->Bool}{s s' st st':St}{t:Tr AV}{x:Ex}{α:Type}
set_option maxHeartbeats 8000000
noncomputable def lD:Nat->Code
 |0=>f19.body.getD .skip
 |k+1=>aw (lD k)
theorem LY:∀(l:aa) (j:Nat) (hj:j<l.list.length),l.list[j].2.dj.length<=l.ee.length
 |.nil f,j,hj=>by simp[aa.list]at hj
 |.cons p x l,0,hj=>by simp[aa.list,aa.ee]
 |.cons p x l,j+1,hj=>by have:=LY l j (by simpa[aa.list]using hj);simp only[aa.list,aa.ee,List.getElem_cons_succ,J5];omega
structure F8(s:St)(t:Tr AV)(r1 r3:Nat)(cv bv:AV)(L:List ae):Prop where
 t1:ab t 1=.p r1 0
 t3:ab t 3=.m r3
 c1:∃al,s.ce r1=So ([cv,bv],r1,al)
 lo:r1<s.next/\r3<s.next
 M:bZ s r3 (ig L)
theorem abj(hcs:cv.cells=So [cv]/\bR cv=Tt/\aE cv=Tt)(hb:b.Ty 1)(hs:b.size<=1000000)(hC:qu c cv b 0)(hn:ie strF b=Tt)(hd:(b.names++b.ee).Nodup)(hl:b.ee.length<=1000000)(hN:b.size+3000000<=N)(h7:c=No\/(19:Nat)≠16):
  (Tw c N).call 19 [.ag [cv,b.slice 8]] st=So (.b Tt,st):=by
 cases N
 ·omega
 rename_i N;have hbl:=b.cq;refine eS (X:=[]) rfl rfl h7 (.pure (by simp[aA,aE,hcs.2.2,aa.tQ hb 8])) func19 rfl (Q0 rfl) rfl ?_;unfold aJ;show sP (fN π f19.results.toList (ao (lD 0) ⟨π,Tw c N,Ff,f19.ntmps,N⟩ (tmpsOf [.ag [cv,b.slice 8]] 0 .lf) ay)) _
 have ln:=λst:St=>bg (st:=st) underlying23 (b.bU 8) (b.bV 8)
 have c1:=bq (st:=ay) [cv,b.slice 8];have k1:=Kp.aj (st:=ay) [] [] [cv,b.slice 8];obtain⟨s1,hs1⟩:∃s,ay.aj [cv,b.slice 8]=s:=⟨_,rfl⟩;have n1:s1.next=ay.next+1:=by rw[<-hs1];rfl
 rw[hs1]at c1 k1;have ra:rd s1 ay.next 0 2=So [cv,b.slice 8]:=by rw[ai c1];rfl
 have ck:=hC s1 (.ag [cv,b.slice 8]) N (by omega) (.pure (by simp[aE,aA,hcs.2.2,aa.tQ hb 8]));have m0:=bZ.new s1;have k2:=Kp.new (st:=s1) [] [] (.mp [] 0);obtain⟨s2,hs2⟩:∃x,s1.new (.mp [] 0)=x:=⟨_,rfl⟩;have n2:s2.next=s1.next+1:=by rw[<-hs2];rfl
 rw[hs2]at m0 k2;have c2:=k2.ce c1 (by omega) (by omega) (by simp) (by simp);have a0:∃t,ao (lD 0) ⟨π,Tw c N,Ff,f19.ntmps,N⟩ (tmpsOf [.ag [cv,b.slice 8]] 0 .lf) ay=ao (lD 3) ⟨π,Tw c N,Ff,f19.ntmps,N⟩ t s2/\ab t 1=.p ay.next 0/\ab t 3=.m s1.next:=by simp[-Vk,-ry,-cu,-ZV,lD,aw,f19,hs1,cu nO zQ,gC,ra,uP func16 rfl,ck,hs2];exact⟨_,rfl,by simp,by simp⟩
 have⟨t0,a0,d1,d3⟩:=a0;rw[a0];obtain⟨r1,hr1⟩:∃r,ay.next=r:=⟨_,rfl⟩;obtain⟨r3,hr3⟩:∃r,s1.next=r:=⟨_,rfl⟩;rw[hr1]at d1 c2 n1;rw[hr3]at d3 m0 n2 n1;have F0:F8 s2 t0 r1 r3 cv (b.slice 8) []:=⟨d1,d3,⟨_,c2⟩,⟨by omega,by omega⟩,A5 m0 (λx=>by simp[ig])⟩;have hne:r1≠r3:=by omega
 have loop1:∃t s,ao (au (lD 3)) ⟨π,Tw c N,Ff,f19.ntmps,N⟩ t0 s2=.nx t s/\F8 s t r1 r3 cv (b.slice 8) b.names:=by
  have⟨al,c1'⟩:=F0.c1;have rb:rd s2 r1 1 1=So [b.slice 8]:=by rw[ai c1'];rfl
  simp[lD,au,aw,f19,F0.t1,rb,ln,ba];generalize hL:aQ _ _ _ _=L;obtain⟨t1,s1',rfl,p0⟩:=cD hL 0 b.list.length
   (λi t' s'=>ab t' 15=b.slice 8/\ab t' 16=.i .i64 (b.len:Int)/\ab t' 17=.i .i64 (i:Int)/\F8 s' t' r1 r3 cv (b.slice 8) (b.names.take i))
   (λt' s'=>F8 s' t' r1 r3 cv (b.slice 8) b.names) (by rw[<-aa.aF];omega)
   ⟨by simp,by simp,by simp,by simp[F0.t1],by simp[F0.t3],F0.c1,F0.lo,by simpa using F0.M⟩
   (by
    rintro i t' s' hi ⟨i15,i16,i17,iF⟩;have hil:i<b.len:=by rw[aa.aF];exact hi
    have hin:i<b.names.length:=by rw[fg];exact hil
    have e3:(i:Int)<(b.len:Int):=by omega
    have e4:wr .i64 ((i:Int)+1)=((i+1:Nat):Int):=by rw[aP (by omega) (by omega)];rfl
    have⟨r,r1',r2'⟩:=eK hb.pre (show fH 1+7=8 from rfl) hi;have ix:=dP (P:=π) underlying23 dc cK b.flat b.len i hil;rw[<-aa.dR hil,r1',<-Q7]at ix;have hT:=aa.dC hb _ (Z5 hi);have hpr:=gW hT.1;have hnm:b.names[i]=fo (b.list[i].1.headD .un):=by simp[aa.names,eD]
    rw[<-hnm]at hpr;have hce:(b.list[i].1++b.list[i].2.cells).length=8:=by rw[J5,r2',Ex.bp];rfl
    have hsc:bH (b.list[i].1++b.list[i].2.cells)=true:=jk hT.1.sc (Ex.eU hT.2.wf);have ld:=λst:St=>ei (st:=st) (r:=r) dc np cK hce
    have hhd:cut (b.list[i].1++b.list[i].2.cells) 0 1=So [.s b.names[i]]:=by rw[hpr];rfl
    generalize b.list[i].1++b.list[i].2.cells=cl at*;have⟨s3,u1,u2,u3,u4⟩:=bJ (s:=s') (z:=mX) hce hsc;have n3:=u3.next;have hlo:=iF.lo;have M2:=iF.M.keep u3 hlo.2 (by simp);have⟨s4,w1,w2,w3,w4⟩:=M2.set mb b.names[i] (.b Tt);rw[xh,Q8 hin]at w2;have rn:rd s3 s'.next 0 1=So [.s b.names[i]]:=by rw[ai u2,hhd]
    have⟨al2,cc⟩:=iF.c1;have cc2:=w3.ce (u3.ce cc hlo.1 hlo.1 (by simp) (by simp)) (by omega) (by omega) (by simp[hne]) (by simp);have zz:bt π 49=So mX:=xM;simp[i15,i16,i17,iF.t3,e3,e4,ix,ld,aB,zz,aC dc cK,hce,u1,rn,w1];exact⟨_,_,⟨rfl,rfl⟩,by simp[i15],by simp[i16],by simp,by simp[iF.t1],by simp[iF.t3],⟨_,cc2⟩,⟨by omega,by omega⟩,w2⟩)
   (by rintro t' s' ⟨i15,i16,i17,iF⟩;simp[i16,i17,aa.aF];have hM:=iF.M;rw[<-aa.aF,<-fg,Z0]at hM;exact⟨_,_,⟨rfl,rfl⟩,by simp[iF.t1],by simp[iF.t3],iF.c1,iF.lo,hM⟩)
  clear hL;exact⟨t1,s1',by simp,p0⟩
 have⟨t1,s3,a1,F1⟩:=loop1;rw[show ao (lD 3) ⟨π,Tw c N,Ff,f19.ntmps,N⟩ t0 s2=bW (ao (au (lD 3)) ⟨π,Tw c N,Ff,f19.ntmps,N⟩ t0 s2) (ao (lD 4) ⟨π,Tw c N,Ff,f19.ntmps,N⟩) from rfl,a1,dN];have loop2:∃t s,ao (au (lD 4)) ⟨π,Tw c N,Ff,f19.ntmps,N⟩ t1 s3=.nx t s:=by
  have⟨al,c1'⟩:=F1.c1;have rb:rd s3 r1 1 1=So [b.slice 8]:=by rw[ai c1'];rfl
  simp[lD,au,aw,f19,F1.t1,rb,ln,ba];generalize hL:aQ _ _ _ _=L;obtain⟨t2,s2',rfl,-⟩:=cD hL 2 b.list.length
   (λi t' s'=>ab t' 26=b.slice 8/\ab t' 27=.i .i64 (b.len:Int)/\ab t' 28=.i .i64 (i:Int)/\∃A,F8 s' t' r1 r3 cv (b.slice 8) A/\(A++(db b i).ee).Nodup)
   (λt' s'=>True) (by rw[<-aa.aF];omega)
   ⟨by simp,by simp,by simp,b.names,⟨by simp[F1.t1],by simp[F1.t3],F1.c1,F1.lo,F1.M⟩,by simpa[db]using hd⟩
   (by
    rintro i t' s' hi ⟨i26,i27,i28,A,iF,iN⟩;have hil:i<b.len:=by rw[aa.aF];exact hi
    have e3:(i:Int)<(b.len:Int):=by omega
    have e4:wr .i64 ((i:Int)+1)=((i+1:Nat):Int):=by rw[aP (by omega) (by omega)];rfl
    have⟨r,r1',r2'⟩:=eK hb.pre (show fH 1+7=8 from rfl) hi;have ix:=dP (P:=π) underlying23 dc cK b.flat b.len i hil;rw[<-aa.dR hil,r1',<-Q7]at ix;have hmem:=Z5 hi;have hT:=aa.dC hb _ hmem;have hsz':=aa.dX hmem;have hpr:=gW hT.1;have hce:(b.list[i].1++b.list[i].2.cells).length=8:=by rw[J5,r2',Ex.bp];rfl
    have hsc:bH (b.list[i].1++b.list[i].2.cells)=true:=jk hT.1.sc (Ex.eU hT.2.wf);have ld:=λst:St=>ei (st:=st) (r:=r) dc np cK hce
    have hcut:cut (b.list[i].1++b.list[i].2.cells) 1 7=So b.list[i].2.cells:=by rw[hpr];have:=mV b.list[i].2.cells [];rw[Ex.bp,J6]at this;simpa using this
    rw[LX b hi]at iN;have hnx:=yF.1 hn i hi;have hbl0:b.list[i].2.dj.length<=b.ee.length:=by exact LY b i hi
    have⟨v,v1,v2⟩:=UP (c:=c) _ hT.2 (by omega) (by omega) N (by omega);generalize b.list[i].1++b.list[i].2.cells=cl at*;have⟨s3,u1,u2,u3,u4⟩:=bJ (s:=s') (z:=mX) hce hsc;have n3:=u3.next;have hlo:=iF.lo;have M3:=iF.M.keep u3 hlo.2 (by simp);have rx3:rd s3 s'.next 1 7=So b.list[i].2.cells:=by rw[ai u2,hcut]
    have⟨s4,y1,y2⟩:=ZO (c:=c) _ hT.2.wf s3 N (by omega) (by omega);rw[hnx]at y1;have n4:=y2.next;have rx4:rd s4 s'.next 1 7=So b.list[i].2.cells:=by rw[ai (y2.ce u2 u4 u4 (by simp) (by simp)),hcut]
    have M4:=M3.keep y2 (by omega) (by simp);have k4:=(u3.sub (A':=[r3]) (B':=[]) (by simp) (by simp)).trans (y2.sub (A':=[r3]) (B':=[]) (by simp) (by simp));have zz:bt π 49=So mX:=xM;obtain⟨bn,hbn⟩:∃x,b.list[i].2.dj=x:=⟨_,rfl⟩;rw[hbn]at v1 iN hbl0;have lnv:=λs:St=>bg (st:=s) underlying43 v1.len v1.text
    simp only[Q3]at lnv;simp[i26,i27,i28,e3,ix,ld,aB,zz,aC dc cK,hce,u1,aX,rx3,rx4,y1,v2 s4,lnv,ba];generalize hL:aQ _ _ _ _=L;obtain⟨t3,s5,rfl,p0⟩:=cD hL 4 bn.length
     (λj t'' s''=>ab t'' 26=b.slice 8/\ab t'' 27=.i .i64 (b.len:Int)/\ab t'' 28=.i .i64 (i:Int)/\ab t'' 38=v/\ab t'' 39=.i .i64 (bn.length:Int)/\ab t'' 40=.i .i64 (j:Int)/\F8 s'' t'' r1 r3 cv (b.slice 8) (A++bn.take j))
     (λt'' s''=>ab t'' 26=b.slice 8/\ab t'' 27=.i .i64 (b.len:Int)/\ab t'' 28=.i .i64 (i:Int)/\F8 s'' t'' r1 r3 cv (b.slice 8) (A++bn)) (by omega)
     ⟨by simp[i26],by simp[i27],by simp[i28],by simp,by simp,by simp,by simp[iF.t1],by simp[iF.t3],by have⟨al2,cc⟩:=iF.c1;exact⟨_,y2.ce (u3.ce cc hlo.1 hlo.1 (by simp) (by simp)) (by omega) (by omega) (by simp) (by simp)⟩,⟨by omega,by omega⟩,by simpa using M4⟩
     (by
      rintro j t'' s'' hj ⟨q26,q27,q28,q38,q39,q40,qF⟩;have f3:(j:Int)<(bn.length:Int):=by omega
      have f4:wr .i64 ((j:Int)+1)=((j+1:Nat):Int):=by rw[aP (by omega) (by omega)];rfl
      have⟨ad,x1,x2⟩:=v1.sat eL mF hj;have hnot:bn[j]∉A++bn.take j:=by
       have h1:((A++bn.take (j+1))++(bn.drop (j+1)++(db b (i+1)).ee)).Nodup:=by rw[Q7,<-Q7 (bn.take (j+1)),V1];exact iN
       have h2:=(V2.1 h1).1;rw[<-Q8 hj,<-Q7]at h2;exact λhh=>(V2.1 h2).2.2 _ hh _ (by simp) rfl
      have lk:=qF.M.get mb bn[j];rw[yX,decide_eq_false hnot]at lk;have⟨s6,w1,w2,w3,w4⟩:=qF.M.set mb bn[j] (.b Tt);rw[xh,Q7,Q8 hj]at w2;have qlo:=qF.lo;have⟨al2,cc⟩:=qF.c1;simp[q38,q39,q40,qF.t3,f3,f4,x1,x2,lk,w1];exact⟨_,_,⟨rfl,rfl⟩,by simp[q26],by simp[q27],by simp[q28],by simp[q38],by simp[q39],by simp,by simp[qF.t1],by simp[qF.t3],⟨_,w3.ce cc qlo.1 qlo.1 (by simp[hne]) (by simp)⟩,⟨by omega,by omega⟩,w2⟩)
     (by rintro t'' s'' ⟨q26,q27,q28,q38,q39,q40,qF⟩;simp[q39,q40];rw[Z0]at qF;exact⟨_,_,⟨rfl,rfl⟩,by simp[q26],by simp[q27],by simp[q28],by simp[qF.t1],by simp[qF.t3],qF.c1,qF.lo,qF.M⟩)
    have⟨q26,q27,q28,qF⟩:=p0;clear hL;simp[q28,e4];exact⟨_,_,⟨rfl,rfl⟩,by simp[q26],by simp[q27],by simp,A++bn,⟨by simp[qF.t1],by simp[qF.t3],qF.c1,qF.lo,qF.M⟩,by rw[Q7];exact iN⟩)
   (by rintro t' s' ⟨i26,i27,i28,iF⟩;simp[i27,i28,aa.aF])
  clear hL;exact⟨t2,s2',by simp⟩
 have⟨t2,s4,a2⟩:=loop2;rw[show ao (lD 4) ⟨π,Tw c N,Ff,f19.ntmps,N⟩ t1 s3=bW (ao (au (lD 4)) ⟨π,Tw c N,Ff,f19.ntmps,N⟩ t1 s3) (ao (lD 5) ⟨π,Tw c N,Ff,f19.ntmps,N⟩) from rfl,a2,dN];exact⟨s4,by simp[lD,aw,f19]⟩
theorem ZQ{late:aa}{out:Ex}(h1:ej strF out=Tt)(h2:ie strF late=Tt):ej strF (jA late out)=true:=by
 cases late with
 |nil f=>exact h1
 |cons p x l=>grind[jA,ej,oQ,ie,mM]
section
variable(T:List ae)(C:ae->Option AV)
mutual
theorem Jm:∀(x:Ex) (S:aU) (n:Nat) (sc:List (List ae)),dQ C x sc=Tt->ej strF (bm T x S n).1=Tt
 |.mk k nm num ps b a l,S,n,sc,h=>by
  simp only[dQ,Q1]at h;have⟨hh,oa,ob,ol⟩:=h;have F:=vp hh;unfold bm;by_cases h1:k=1
  ·rw[if_pos h1];simp[ej,sU]
  ·rw[if_neg h1];simp only;generalize aI T S (aL ps) n=w1;generalize aI T w1.1 b.names w1.2.2=w2;have HB:=Ji b w2.1 w2.2.1 w2.2.2 _ ob;generalize cy T b w2.1 w2.2.1 w2.2.2=rb at*;have dl:=EP (T:=T) a w2.1 (fm strF k nm a.len) 0 rb.2;have HA:=Je a w2.1 (fm strF k nm a.len) (mM strF k nm a.len) 0 rb.2 _ oa (λj _ hj hk=>by
    unfold mM;split
    ·have:=F.a1 ‹_›;omega
    ·exact hk)
   generalize bM T a w2.1 (fm strF k nm a.len) 0 rb.2=ra at*;have HL:=QA l w2.1 ra.2.2 _ ol;refine ZQ ?_ HA.2;simp only[ej,Z6,Q1,decide_eq_true_eq];right;rw[dl];exact⟨⟨F.lo,F.hi⟩,HA.1,HB,HL⟩
theorem Ji:∀(l:aa) (S:aU) (ns:List ae) (n:Nat) (sc:List (List ae)),cS C l sc=Tt->ie strF (cy T l S ns n).1=Tt
 |.nil _,_,_,_,_,_=>by simp only[cy,ie]
 |.cons p x l,S,ns,n,sc,h=>by simp only[cS,Q1]at h;simp only[cy,ie,Q1];exact⟨Jm x S n sc h.1,Ji l S ns.tail _ sc h.2⟩
theorem Je:∀(l:aa) (S:aU) (k f:Int) (i n:Nat) (sc:List (List ae)),cS C l sc=Tt->(∀j:Nat,i<=j->j<i+l.len->(j:Int)<k->(j:Int)<f)->oQ strF f i (bM T l S k i n).1=Tt/\ie strF (bM T l S k i n).2.1=Tt
 |.nil _,_,_,_,_,_,_,_,_=>by simp only[bM,oQ,ie];exact⟨trivial,trivial⟩
 |.cons p x l,S,k,f,i,n,sc,h,hf=>by
  simp only[cS,Q1]at h;simp only[aa.len]at hf;have e1:=Jm x S n sc h.1;by_cases hc:k<=(i:Int)/\(bm T x S n).1.atom=Ff
  ·rw[yM T hc];have⟨q1,q2⟩:=Je l S k f (i+1) (bY T (bm T x S n).2) sc h.2 (λj h1 h2 h3=>hf j (by omega) (by omega) h3);simp only[oQ,ie,Q1,Z6,decide_eq_true_eq];exact⟨⟨.inr rfl,by simp[jU,ej,sU],q1⟩,e1,q2⟩
  ·rw[wW T hc];have⟨q1,q2⟩:=Je l S k f (i+1) (bm T x S n).2 sc h.2 (λj h1 h2 h3=>hf j (by omega) (by omega) h3);simp only[oQ,Q1,Z6,decide_eq_true_eq];refine⟨⟨?_,e1,q1⟩,q2⟩;by_cases hk:k<=(i:Int)
   ·right;cases ha:(bm T x S n).1.atom with
    |true=>rfl
    |false=>exact absurd ⟨hk,ha⟩ hc
   ·left;exact hf i (Q4 _) (by omega) (by omega)
theorem QA:∀(l:aa) (S:aU) (n:Nat) (sc:List (List ae)),fF C l sc=Tt->ie strF (dz T l S n).1=Tt
 |.nil _,_,_,_,_=>by simp only[dz,ie]
 |.cons p x l,S,n,sc,h=>by simp only[fF,Q1]at h;simp only[dz,ie,Q1];exact⟨Jm x _ _ _ h.1,QA l S _ sc h.2⟩
end
mutual
theorem Jo:∀(x:Ex) (S:aU) (n:Nat),(bm T x S n).1.size+1<=4*x.size
 |.mk k nm num ps b a l,S,n=>by
  unfold bm;by_cases h1:k=1
  ·grind[Ex.size,aa.size]
  ·simp only;generalize aI T S (aL ps) n=w1;generalize aI T w1.1 b.names w1.2.2=w2;have HB:=Jk b w2.1 w2.2.1 w2.2.2;generalize cy T b w2.1 w2.2.1 w2.2.2=rb at*;have HA:=Jg a w2.1 (fm strF k nm a.len) 0 rb.2;generalize bM T a w2.1 (fm strF k nm a.len) 0 rb.2=ra at*;have HL:=QC l w2.1 ra.2.2;have hw:∀(late:aa) (out:Ex),(jA late out).size<=1+late.size+out.size:=λlate out=>by
    cases late with
    |nil f=>simp only[jA,aa.size];omega
    |cons p x l=>grind[jA,Ex.size,aa.size]
   grind[Ex.size]
theorem Jk:∀(l:aa) (S:aU) (ns:List ae) (n:Nat),(cy T l S ns n).1.size<=4*l.size
 |.nil _,_,_,_=>by simp only[cy,aa.size];omega
 |.cons p x l,S,ns,n=>by have h1:=Jo x S n;have h2:=Jk l S ns.tail (bm T x S n).2;simp only[cy,aa.size];omega
theorem Jg:∀(l:aa) (S:aU) (k:Int) (i n:Nat),(bM T l S k i n).1.size+(bM T l S k i n).2.1.size<=4*l.size
 |.nil _,_,_,_,_=>by simp only[bM,aa.size];omega
 |.cons p x l,S,k,i,n=>by
  have h1:=Jo x S n;by_cases hc:k<=(i:Int)/\(bm T x S n).1.atom=Ff
  ·rw[yM T hc];have h2:=Jg l S k (i+1) (bY T (bm T x S n).2);simp only[aa.size,jU,Ex.size];omega
  ·rw[wW T hc];have h2:=Jg l S k (i+1) (bm T x S n).2;simp only[aa.size];omega
theorem QC:∀(l:aa) (S:aU) (n:Nat),(dz T l S n).1.size<=4*l.size
 |.nil _,_,_=>by simp only[dz,aa.size];omega
 |.cons p x l,S,n=>by simp only[dz,aa.size];have h1:=Jo x (aI T S (aM (p,x)).vs n).1 (aI T S (aM (p,x)).vs n).2.2;have h2:=QC l S (bm T x (aI T S (aM (p,x)).vs n).1 (aI T S (aM (p,x)).vs n).2.2).2;omega
end
end
theorem Gv{C:ae->Option AV}(hC:∀s v,C s=So v->jr v<=32):∀{H pre:List dh}{kind:Int}{typ:ae}{sm:Bool}{seen:List ae},bO C pre H kind typ sm seen=Tt->∀a∈H,a.vs.length<=32
 |[],_,_,_,_,_,_,a,ha=>(List.not_mem_nil ha).elim
 |x::l,pre,kind,typ,sm,seen,h,a,ha=>by
  unfold bO at h;simp only[Q1]at h;obtain⟨-,h1,h2,h3⟩:=h;have key:x.vs.length<=32/\∃kind typ sm seen,bO C (pre++[x]) l kind typ sm seen=true:=by
   by_cases k4:x.k=4
   ·rw[if_pos k4]at h3;simp only[Q1,decide_eq_true_eq]at h3;exact⟨by omega,_,_,_,_,h3.2.2.2.2⟩
   ·rw[if_neg k4]at h3;rw[Q1]at h3;obtain⟨-,h3⟩:=h3;by_cases k1:x.k≠1
    ·rw[if_pos k1]at h3;simp only[Q1,decide_eq_true_eq]at h3;exact⟨by omega,_,_,_,_,h3.2.2.2.2⟩
    ·rw[if_neg k1]at h3;simp only[Q1]at h3;have h4:=h3.2.2.2;cases hc:C x.n with
     |none=>rw[hc]at h4;cases h4
     |some v=>rw[hc]at h4;simp only[Q1,decide_eq_true_eq]at h4;have:=hC _ _ hc;exact⟨by omega,_,_,_,_,h4.2.2⟩
  have⟨g1,k',t',s',e',g2⟩:=key;rcases Q9.1 ha with rfl|ha
  ·exact g1
  ·exact Gv hC g2 a ha
mutual
theorem PX(C:ae->Option AV)(hC:∀s v,C s=So v->jr v<=32):∀(x:Ex) (sc:List (List ae)),dQ C x sc=Tt->x.wt+32<=66*x.size
 |.mk k nm num ps b a l,sc,h=>by
  simp only[dQ,Q1]at h;have⟨hh,oa,ob,ol⟩:=h;have F:=vp hh;have h1:=EA C hC b _ ob;have h2:=EA C hC a _ oa;have h3:l.kD<=66*l.size:=by
   by_cases k8:k=8
   ·have hA:jJ C l.bB=true:=by
     grind[cQ]
    unfold jJ at hA;rw[Q1]at hA;have:=Gv hC hA.2;exact PW C hC l _ ol (λp hp=>this _ (by grind[aa.bB]))
   ·have⟨f,hf⟩:=Et (F.l8 k8);grind[aa.kD]
  have:=F.p32;simp only[Ex.wt,Ex.size];omega
theorem EA(C:ae->Option AV)(hC:∀s v,C s=So v->jr v<=32):∀(l:aa) (sc:List (List ae)),cS C l sc=Tt->l.len+l.wt<=66*l.size
 |.nil _,_,_=>by simp only[aa.len,aa.wt,aa.size];omega
 |.cons p x l,sc,h=>by simp only[cS,Q1]at h;have h1:=PX C hC x sc h.1;have h2:=EA C hC l sc h.2;simp only[aa.len,aa.wt,aa.size];omega
theorem PW(C:ae->Option AV)(hC:∀s v,C s=So v->jr v<=32):∀(l:aa) (sc:List (List ae)),fF C l sc=Tt->(∀p∈l.list,(aM p).vs.length<=32)->l.kD<=66*l.size
 |.nil _,_,_,_=>by simp only[aa.kD,aa.size];omega
 |.cons p x l,sc,h,hv=>by simp only[fF,Q1]at h;have h1:=PX C hC x _ h.1;have h2:=PW C hC l sc h.2 (λq hq=>hv q (by simp only[aa.list];exact V3 _ hq));have h3:=hv (p,x) (by simp only[aa.list];exact V4);simp only[aa.kD,aa.size];omega
end
theorem ac7:aq π 50=1:=by kernel_rfl
@[simp] theorem Yn:aN π 31=true:=by kernel_rfl
@[simp] theorem aez:cw π 31=false:=by kernel_rfl
theorem ac4:aq π 31=1:=by kernel_rfl
@[simp] theorem Om:aN π 32=true:=by kernel_rfl
@[simp] theorem aeA:cw π 32=false:=by kernel_rfl
theorem R9:aq π 32=1:=by kernel_rfl
@[simp] theorem Yo:aN π 33=true:=by kernel_rfl
@[simp] theorem aeB:cw π 33=false:=by kernel_rfl
theorem ac5:aq π 33=1:=by kernel_rfl
@[simp] theorem wI:aN π 40=true:=by kernel_rfl
@[simp] theorem aeC:cw π 40=false:=by kernel_rfl
theorem xD:aq π 40=1:=by kernel_rfl
@[simp] theorem afL:aN π 66=true:=by kernel_rfl
@[simp] theorem aeH:cw π 66=false:=by kernel_rfl
@[simp] theorem DQ:aN π 84=true:=by kernel_rfl
@[simp] theorem aeI:cw π 84=false:=by kernel_rfl
theorem FG:aq π 84=1:=by kernel_rfl
@[simp] theorem Yr:aN π 85=true:=by kernel_rfl
@[simp] theorem aeJ:cw π 85=false:=by kernel_rfl
theorem ac8:aq π 85=1:=by kernel_rfl
@[simp] theorem DO:aN π 181=true:=by kernel_rfl
@[simp] theorem aev:cw π 181=false:=by kernel_rfl
theorem FD:aq π 181=1:=by kernel_rfl
@[simp] theorem afH:aN π 179=true:=by kernel_rfl
@[simp] theorem aeu:cw π 179=false:=by kernel_rfl
@[simp] theorem afK:aN π 65=true:=by kernel_rfl
@[simp] theorem aeG:cw π 65=false:=by kernel_rfl
@[simp] theorem tm:aN π 35=true:=by kernel_rfl
@[simp] theorem wg:cw π 35=true:=by kernel_rfl
theorem tY:aq π 35=5:=by kernel_rfl
@[simp] theorem ri:aN π 81=true:=by kernel_rfl
@[simp] theorem Lu:cw π 81=true:=by kernel_rfl
theorem lO:aq π 81=2:=by kernel_rfl
@[simp] theorem oL:aN π 87=true:=by kernel_rfl
@[simp] theorem wh:cw π 87=true:=by kernel_rfl
theorem o9:aq π 87=8:=by kernel_rfl
@[simp] theorem DR:aN π 89=true:=by kernel_rfl
@[simp] theorem T7:cw π 89=true:=by kernel_rfl
theorem FH:aq π 89=4:=by kernel_rfl
@[simp] theorem lI:aN π 42=true:=by kernel_rfl
@[simp] theorem sT:cw π 42=true:=by kernel_rfl
theorem lN:aq π 42=4:=by kernel_rfl
@[simp] theorem vq:aN π 147=true:=by kernel_rfl
@[simp] theorem xX:cw π 147=true:=by kernel_rfl
theorem vQ:aq π 147=4:=by kernel_rfl
@[simp] theorem ma:aN π 149=true:=by kernel_rfl
@[simp] theorem qN:cw π 149=true:=by kernel_rfl
theorem mw:aq π 149=5:=by kernel_rfl
@[simp] theorem agx:bE π 68 0=So 0/\bE π 68 1=So 5/\bE π 68 2=So 6:=by and_intros<;>kernel_rfl
@[simp] theorem agr:bE π 35 0=So 0/\bE π 35 1=So 1/\bE π 35 2=So 2/\bE π 35 3=So 3/\bE π 35 4=So 4:=by and_intros<;>kernel_rfl
@[simp] theorem agy:bE π 81 0=So 0/\bE π 81 1=So 1:=by and_intros<;>kernel_rfl
@[simp] theorem agz:bE π 87 0=So 0/\bE π 87 1=So 1/\bE π 87 2=So 2/\bE π 87 3=So 3/\bE π 87 4=So 4/\bE π 87 5=So 5/\bE π 87 6=So 6/\bE π 87 7=So 7:=by and_intros<;>kernel_rfl
@[simp] theorem agA:bE π 89 0=So 0/\bE π 89 1=So 1/\bE π 89 2=So 2/\bE π 89 3=So 3:=by and_intros<;>kernel_rfl
@[simp] theorem ags:bE π 42 0=So 0/\bE π 42 1=So 1/\bE π 42 2=So 2/\bE π 42 3=So 3:=by and_intros<;>kernel_rfl
@[simp] theorem agk:bE π 147 0=So 0/\bE π 147 1=So 1/\bE π 147 2=So 2/\bE π 147 3=So 3:=by and_intros<;>kernel_rfl
@[simp] theorem agl:bE π 149 0=So 0/\bE π 149 1=So 1/\bE π 149 2=So 2/\bE π 149 3=So 3/\bE π 149 4=So 4:=by and_intros<;>kernel_rfl
@[simp] theorem agn:bE π 183 0=So 0/\bE π 183 1=So 1:=by and_intros<;>kernel_rfl
@[simp] theorem agp:bE π 223 0=So 0/\bE π 223 1=So 1:=by and_intros<;>kernel_rfl
@[simp] theorem agB:bE π 93 0=So 0/\bE π 93 1=So 5:=by and_intros<;>kernel_rfl
theorem S9:bt π 35=So [.sn,.sn,.sn,.sn,.i .i64 0]:=by kernel_rfl
theorem ue:bt π 81=So [.i .i64 0,.i .i64 0]:=by kernel_rfl
theorem zw:bt π 87=So [.i .i64 0,.i .i64 0,.s [],.sn,.sn,.sn,.sn,.i .i64 0]:=by kernel_rfl
theorem FU:bt π 89=So [.i .i64 0,.i .i64 0,.i .i64 0,.i .i64 0]:=by kernel_rfl
theorem sy:bt π 42=So [.s [],.i .i64 0,.i .i64 0,.sn]:=by kernel_rfl
theorem uc:bt π 147=So [.i .i64 0,.i .i64 0,.sn,.i .i64 0]:=by kernel_rfl
theorem lR:bt π 149=So [.i .i64 0,.i .i64 0,.i .i64 0,.sn,.i .i64 0]:=by kernel_rfl
theorem aem:bt π 183=So [.i .i64 0,.pn]:=by kernel_rfl
theorem aen:bt π 223=So [.mn,.pn]:=by kernel_rfl
theorem S4:bt π 181=So [.pn]:=by kernel_rfl
theorem S6:bt π 3=So [.i .i64 0]:=by kernel_rfl
theorem Ar:Flat π 81 2 [.i .i64 0,.i .i64 0]:=⟨by kernel_rfl,by kernel_rfl,ue,rfl⟩
theorem ve:Flat π 87 8 [.i .i64 0,.i .i64 0,.s [],.sn,.sn,.sn,.sn,.i .i64 0]:=⟨by kernel_rfl,by kernel_rfl,zw,rfl⟩
theorem Nz:Flat π 89 4 [.i .i64 0,.i .i64 0,.i .i64 0,.i .i64 0]:=⟨by kernel_rfl,by kernel_rfl,FU,rfl⟩
theorem Aq:Flat π 42 4 [.s [],.i .i64 0,.i .i64 0,.sn]:=⟨by kernel_rfl,by kernel_rfl,sy,rfl⟩
theorem Ap:Flat π 147 4 [.i .i64 0,.i .i64 0,.sn,.i .i64 0]:=⟨by kernel_rfl,by kernel_rfl,uc,rfl⟩
theorem Dz:Flat π 149 5 [.i .i64 0,.i .i64 0,.i .i64 0,.sn,.i .i64 0]:=⟨by kernel_rfl,by kernel_rfl,lR,rfl⟩
theorem Ny:Flat π 183 2 [.i .i64 0,.pn]:=⟨by kernel_rfl,by kernel_rfl,aem,rfl⟩
theorem Xx:Flat π 223 2 [.mn,.pn]:=⟨by kernel_rfl,by kernel_rfl,aen,rfl⟩
theorem Ft:iq π 40 81 2:=⟨underlying40,ri,lO⟩
theorem yq:gz π 40 81 2:=⟨Ft,by decide,⟨_,ue,rfl⟩,by decide,by kernel_rfl,by kernel_rfl,Q0 (by kernel_rfl),Q0 (by kernel_rfl)⟩
theorem xn:iq π 31 87 8:=⟨underlying31,oL,o9⟩
theorem NU:gz π 31 87 8:=⟨xn,by decide,⟨_,zw,rfl⟩,by decide,by kernel_rfl,by kernel_rfl,Q0 (by kernel_rfl),Q0 (by kernel_rfl)⟩
theorem rW:iq π 32 89 4:=⟨underlying32,DR,FH⟩
theorem If:gz π 32 89 4:=⟨rW,by decide,⟨_,FU,rfl⟩,by decide,by kernel_rfl,by kernel_rfl,Q0 (by kernel_rfl),Q0 (by kernel_rfl)⟩
theorem xp:iq π 33 42 4:=⟨underlying33,lI,lN⟩
theorem NV:gz π 33 42 4:=⟨xp,by decide,⟨_,sy,rfl⟩,by decide,by kernel_rfl,by kernel_rfl,Q0 (by kernel_rfl),Q0 (by kernel_rfl)⟩
theorem Fv:iq π 84 147 4:=⟨underlying84,vq,vQ⟩
theorem Az:gz π 84 147 4:=⟨Fv,by decide,⟨_,uc,rfl⟩,by decide,by kernel_rfl,by kernel_rfl,Q0 (by kernel_rfl),Q0 (by kernel_rfl)⟩
theorem xr:iq π 85 149 5:=⟨underlying85,ma,mw⟩
theorem NX:gz π 85 149 5:=⟨xr,by decide,⟨_,lR,rfl⟩,by decide,by kernel_rfl,by kernel_rfl,Q0 (by kernel_rfl),Q0 (by kernel_rfl)⟩
theorem Fu:iq π 50 3 1:=⟨underlying50,dW,eY⟩
theorem rf:gz π 50 3 1:=⟨Fu,by decide,⟨_,S6,rfl⟩,by decide,by kernel_rfl,by kernel_rfl,Q0 (by kernel_rfl),Q0 (by kernel_rfl)⟩
theorem nR:qH π 66 3 (.i .i64 0):=⟨⟨9,underlying66,underlying9⟩,by kernel_rfl⟩
theorem EJ{o:Nat}{k:Bool}(h:P.underlying ty=So (.pointer e)):Go.Ev.binOp P ty k .neq (.p r o) .pn=So (.b Tt):=by
 show kc P ty k .neq (.p r o) .pn=_
 simp[kc,lC,gK,h,lB,AV.tz,orElse]
def aS:List aK->aK
 |[],_=>No
 |f::fs,s=>match f s with|some n=>So n|none=>aS fs s
def fQ(f:aK):ae->Option AV:=λx=>(f x).map iN
theorem vA(f:aK)(s:ae):(fQ f s).getD (.i .i64 0)=iN ((f s).getD 0):=by unfold fQ;cases f s<;>rfl
theorem PR(f:aK)(s:ae):(fQ f s).isSome=(f s).isSome:=by unfold fQ;grind
def gG(st:St)(X:List Nat):AV->List aK->Prop
 |v,[]=>v=.pn
 |v,f::fs=>∃r g al m up,v=.p r 0/\st.ce r=So ([.m m,up],g,al)/\(r<st.next/\g<st.next/\m<st.next)/\(r∉X/\g∉X/\m∉X)/\bZ st m (fQ f)/\gG st X up fs
theorem gG.keep{X A B:List Nat}{st':St}(k:Kp A B st st')(hA:∀x,x∈A->x∈X)(hB:∀x,x∈B->x∈X):∀{fs:List aK}{v:AV},gG st X v fs->gG st' X v fs
 |[],_,h=>h
 |f::fs,_,⟨r,g,al,m,up,h1,h2,⟨h3,h4,h5⟩,⟨h6,h7,h8⟩,h9,h10⟩=>
  ⟨r,g,al,m,up,h1,k.ce h2 h3 h4 (λhh=>h6 (hA _ hh)) (λhh=>h7 (hB _ hh)),⟨Q2 h3 k.next,Q2 h4 k.next,Q2 h5 k.next⟩,⟨h6,h7,h8⟩,h9.keep k h5 (λhh=>h8 (hA _ hh)),gG.keep k hA hB h10⟩
theorem gG.kv{R F F':List Nat}{a b:St}(k:Kv R F F' a b):∀{fs:List aK}{v:AV},gG a (R++F) v fs->gG b (R++F') v fs
 |[],_,h=>h
 |f::fs,_,⟨r,g,al,m,up,h1,h2,⟨h3,h4,h5⟩,⟨h6,h7,h8⟩,h9,h10⟩=>by
  have out:∀y,y<a.next->y∉R++F->y∉R++F':=λy hy hn hh=>by
   rcases J8.1 hh with hh|hh
   ·grind
   ·exact k.out hy (λh=>hn (J1 _ h)) hh
  exact⟨r,g,al,m,up,h1,k.ce h2 h3 h4 h6 h7,⟨Q2 h3 k.next,Q2 h4 k.next,Q2 h5 k.next⟩,⟨out _ h3 h6,out _ h4 h7,out _ h5 h8⟩,h9.keep k.1 h5 h8,gG.kv k h10⟩
theorem gG.cells{X:List Nat}:∀{fs:List aK}{v:AV},gG st X v fs->v.cells=So [v]/\bR v=Tt
 |[],_,h=>by rw[show _=AV.pn from h];simp
 |f::fs,_,⟨r,g,al,m,up,h1,_⟩=>by simp_all
theorem gG.sub{X Y:List Nat}(hs:∀x,x∈Y->x∈X):∀{fs:List aK}{v:AV},gG st X v fs->gG st Y v fs
 |[],_,h=>h
 |f::fs,_,⟨r,g,al,m,up,h1,h2,h3,⟨h6,h7,h8⟩,h9,h10⟩=>⟨r,g,al,m,up,h1,h2,h3,⟨λh=>h6 (hs _ h),λh=>h7 (hs _ h),λh=>h8 (hs _ h)⟩,h9,gG.sub hs h10⟩
theorem Lj:∀(l:List ae) (S T:aK) (n:Nat) (fs:List aK),(∀s,T s=match S s with|some k=>So k|none=>aS fs s)->aZ T l n=aS (aZ S l n::fs)
 |[],S,T,n,fs,h=>by funext s;exact h s
 |x::l,S,T,n,fs,h=>by
  refine Lj l _ _ (n+1) fs λs=>?_
  grind
theorem Gm(l:List ae)(n:Nat)(fs:List aK):aZ (aS fs) l n=aS (aZ (λ_=>No) l n::fs):=Lj l _ _ n fs λ_=>rfl
theorem Xm(s:ae){X:List Nat}(h:gG st X v fs)(hN:fs.length+10<=N):
  (Tw c N).call 141 [v,.s s] st=So (.tu [iN ((aS fs s).getD 0),.b (aS fs s).isSome],st):=by
 cases N
 ·omega
 rename_i N;rw[dV rfl func141 rfl (Q0 rfl)];unfold aJ;simp[f141,ba];generalize hL:aQ _ _ _ _=L;have lr:=gV hL 0 fs.length (λi t s'=>s'=st/\ab t 1=.s s/\gG st X (ab t 0) (fs.drop i)/\aS fs s=aS (fs.drop i) s) (λ_ s'=>s'=st/\aS fs s=No) (λt s'=>s'=st/\∃n,aS fs s=So n/\ab t 4=iN n/\ab t 5=.b Tt) (by omega)
  ⟨rfl,by simp,by simp_all,by simp⟩
  (by
   rintro i t s' hi ⟨rfl,i1,iV,iS⟩;rw[J3 hi]at iV iS;obtain⟨r,g,al,m,up,h1,h2,-,-,h5,h6⟩:=iV;have r0:rd s' r 0 1=So [.m m]:=by rw[ai h2];rfl
   have r1:rd s' r 1 1=So [up]:=by rw[ai h2];rfl
   have lk:=h5.ti nR s;rw[vA,PR]at lk;rw[show aS (fs[i]::fs.drop (i+1)) s=(match fs[i] s with|some n=>So n|none=>aS (fs.drop (i+1)) s) from rfl]at iS;cases hf:fs[i] s with
   |some n=>rw[hf]at lk iS;simp[h1,i1,EJ underlying181,r0,lk];exact⟨_,_,⟨rfl,rfl⟩,rfl,n,iS,by simp,by simp⟩
   |none=>rw[hf]at lk iS;simp[h1,i1,EJ underlying181,r0,r1,lk];exact⟨_,_,⟨rfl,rfl⟩,rfl,by simp_all,by simp_all,iS⟩)
  (by rintro t s' ⟨rfl,i1,iV,iS⟩;rw[V6]at iV iS;have iV:ab t 0=.pn:=iV;simp[iV,I7 underlying181];exact⟨_,_,⟨rfl,rfl⟩,rfl,iS⟩)
 rcases lr with ⟨t1,s1,rfl,rfl,hn⟩|⟨t1,s1,rfl,rfl,n,hn,h4,h5⟩
 ·rw[hn];simp[bf,aO,iN]
 ·rw[hn];simp[h4,h5]
@[simp] theorem yT{a:Tmp}:oW P t st (.cell a ty)=loadAt P ty st (ab t a):=by
 unfold ab;show(match t.get a with|some v=>loadAt P ty st v|none=>No)=_
 cases t.get a with
 |none=>unfold loadAt;cases aN P ty<;>cases cw P ty<;>rfl
 |some v=>rfl
@[simp] theorem abV{a:Tmp}:oW P t st (.tmp a)=So (ab t a):=rfl
def uf(st:St)(X:List Nat)(r:Nat)(l:List AV):Prop:=∃g al,st.ce r=So (l,g,al)/\r<st.next/\g<st.next/\r∉X/\g∉X
theorem uf.keep{X B:List Nat}{l:List AV}(h:uf st X r l)(k:Kp A B st st')(hA:∀x,x∈A->x∈X)(hB:∀x,x∈B->x∈X):uf st' X r l:=by have⟨g,al,h1,h2,h3,h4,h5⟩:=h;exact⟨g,al,k.ce h1 h2 h3 (λhh=>h4 (hA _ hh)) (λhh=>h5 (hB _ hh)),Q2 h2 k.next,Q2 h3 k.next,h4,h5⟩
theorem uf.rd{X:List Nat}{r o n:Nat}{l:List AV}(h:uf st X r l):Go.Ev.rd st r o n=cut l o n:=by obtain⟨g,al,h1,-⟩:=h;exact ai h1
theorem JA{x:Ctx}{d:Option Tmp}{pos:String}{af:Array Edge}(hs:yY x.P e=Ff):
  oV x #[⟨d,.alloc e,ty,pos,af,No⟩] t st=bw x.P x.S x.nt #[⟨d,.alloc e,ty,pos,af,No⟩] [⟨d,.alloc e,ty,pos,af,No⟩] t st:=abR rfl rfl hs
theorem JT:yY π 81=false:=by kernel_rfl
structure mD(st:St)(X:List Nat)(mr gr kr:Nat)(Gf Kf:aK):Prop where
 at':∃c0 c1 c2 c3 c4,uf st X mr [c0,c1,c2,c3,c4,.m gr,.m kr]
 hG:bZ st gr (fQ Gf)
 hK:bZ st kr (fQ Kf)
 lt:gr<st.next/\kr<st.next
 nX:gr∉X/\kr∉X
theorem mD.keep{X A B:List Nat}{mr gr kr:Nat}{Gf Kf:aK}{st':St}(h:mD st X mr gr kr Gf Kf)(k:Kp A B st st')(hA:∀x,x∈A->x∈X)(hB:∀x,x∈B->x∈X):mD st' X mr gr kr Gf Kf:=by have⟨c0,c1,c2,c3,c4,h1⟩:=h.at';exact⟨⟨c0,c1,c2,c3,c4,h1.keep k hA hB⟩,h.hG.keep k h.lt.1 (λhh=>h.nX.1 (hA _ hh)),h.hK.keep k h.lt.2 (λhh=>h.nX.2 (hA _ hh)),⟨Q2 h.lt.1 k.next,Q2 h.lt.2 k.next⟩,h.nX⟩
def uh(st:St)(X:List Nat)(bv:AV)(fs:List aK):Prop:=(bv=.pn/\fs=[])\/∃br nv sv,bv=.p br 0/\uf st X br [nv,sv]/\gG st X sv fs
theorem uh.keep{X A B:List Nat}{bv:AV}{fs:List aK}{st':St}(h:uh st X bv fs)(k:Kp A B st st')(hA:∀x,x∈A->x∈X)(hB:∀x,x∈B->x∈X):uh st' X bv fs:=by
 rcases h with h|⟨br,nv,sv,h1,h2,h3⟩
 ·exact .inl h
 ·exact .inr ⟨br,nv,sv,h1,h2.keep k hA hB,h3.keep k hA hB⟩
def ax(f:aK)(s:ae):Nat:=(f s).getD 0
section
variable {X:List Nat}
theorem PI(s:ae)(hM:mD st X mr gr kr Gf Kf)(hB:uh st X bv fs)(hN:fs.length+20<=N):
  ∃st',(Tw c N).call 97 [.p mr 0,.s s,bv] st=So (.ag (bI (eJ (ax Gf) (aS fs) s)),st')/\Kp [] [] st st':=by
 cases N
 ·omega
 rename_i N;rw[dV rfl func97 rfl (Q0 rfl)];unfold aJ;have k0:=Kp.aj (st:=st) [] [] [.i .i64 0,.i .i64 0];have n0:(st.aj [.i .i64 0,.i .i64 0]).next=st.next+1:=rfl;have c0:=bq (st:=st) [.i .i64 0,.i .i64 0];obtain⟨s0,hs0⟩:∃s0,st.aj [.i .i64 0,.i .i64 0]=s0:=⟨_,rfl⟩;rw[hs0]at k0 n0 c0;have hM0:=hM.keep k0 (by simp) (by simp);have hB0:=hB.keep k0 (by simp) (by simp);have⟨d0,d1,d2,d3,d4,hA⟩:=hM0.at';have r5:rd s0 mr 5 1=So [.m gr]:=by rw[hA.rd];rfl
 have lk:=hM0.hG.get nR s;rw[vA]at lk;have wr0:∀a b:Int,∃s1,wt s0 st.next 0 [.i .i64 a,.i .i64 b]=So s1/\s1.ce st.next=So ([.i .i64 a,.i .i64 b],st.next,[st.next])/\Kp [] [] st s1:=λa b=>by have:=c9 c0 0 [.i .i64 a,.i .i64 b] (by simp) (by simp);exact⟨_,this,by simpa using dA _ _ _,ey k0 (.aG (A:=[st.next]) (B:=[st.next]) (by simp) (by simp)) (by simp) (by simp)⟩
 have gl:fs=[]\/aS fs s=No->∃s1,wt s0 st.next 0 [.i .i64 2,.i .i64 ((Gf s).getD 0:Nat)]=So s1/\rd s1 st.next 0 2=So (bI (eJ (ax Gf) (aS fs) s))/\Kp [] [] st s1:=λhf=>by
  have⟨s1,w1,w2,w3⟩:=wr0 2 ((Gf s).getD 0:Nat);refine⟨s1,w1,?_,w3⟩;have:aS fs s=none:=by
   rcases hf with rfl|h
   ·rfl
   grind
  rw[ai w2];unfold eJ;rw[this];rfl
 rcases hB0 with ⟨rfl,rfl⟩|⟨br,nv,sv,rfl,hA2,hS⟩
 ·have⟨s1,w1,ld,w3⟩:=gl (.inl rfl);refine⟨s1,?_,w3⟩;simp[f97,HG,JA,JT,aB,ue,hs0,I7 underlying179,r5,lk,Ar.build,iN,aC ri lO,w1,bf,aO,lO,ld]
 ·have fc:=Xm (c:=c) (st:=s0) s hS (N:=N) (by omega);have rb:rd s0 br 1 1=So [sv]:=by rw[hA2.rd];rfl
  cases hk:aS fs s with
  |some n=>
   rw[hk]at fc;have⟨s1,w1,w2,w3⟩:=wr0 1 (n:Int);have ld:rd s1 st.next 0 2=So [.i .i64 1,.i .i64 (n:Int)]:=by rw[ai w2];rfl
   have e:bI (eJ (ax Gf) (aS fs) s)=[.i .i64 1,.i .i64 (n:Int)]:=by unfold eJ;rw[hk];rfl
   refine⟨s1,?_,w3⟩;rw[e];simp[f97,HG,JA,JT,aB,ue,hs0,EJ underlying179,rb,fc,Ar.build,iN,aC ri lO,w1,bf,aO,lO,ld]
  |none=>rw[hk]at fc;have⟨s1,w1,ld,w3⟩:=gl (.inr hk);refine⟨s1,?_,w3⟩;simp[f97,HG,JA,JT,aB,ue,hs0,EJ underlying179,rb,fc,r5,lk,Ar.build,iN,aC ri lO,w1,bf,aO,lO,ld]
theorem Fb(hM:mD st X mr gr kr Gf Kf)(hB:uh st X bv fs)(hN:fs.length+30<=N):
  ∃st',(Tw c N).call 58 [.p mr 0,.ag x.cells,bv] st=So (.ag (bI (atR (ax Gf) (aS fs) x)),st')/\Kp [] [] st st':=by
 cases N
 ·omega
 rename_i N;rw[dV rfl func58 rfl (Q0 rfl)];unfold aJ;have⟨k,nm,num,ps,b,a,l⟩:=x;have kx:=Kp.aj (st:=st) [] [] (Ex.cells (.mk k nm num ps b a l));have cx:=bq (st:=st) (Ex.cells (.mk k nm num ps b a l));have nx:(st.aj (Ex.cells (.mk k nm num ps b a l))).next=st.next+1:=rfl;obtain⟨sx,hsx⟩:∃s0,st.aj (Ex.cells (.mk k nm num ps b a l))=s0:=⟨_,rfl⟩;rw[hsx]at kx nx cx;have k0:=Kp.aj (st:=sx) [] [] [.i .i64 0,.i .i64 0];have n0:(sx.aj [.i .i64 0,.i .i64 0]).next=sx.next+1:=rfl;have c0:=bq (st:=sx) [.i .i64 0,.i .i64 0];obtain⟨s0,hs0⟩:∃s0,sx.aj [.i .i64 0,.i .i64 0]=s0:=⟨_,rfl⟩;rw[hs0]at k0 n0 c0;have K0:=kx.trans k0;have hM0:=hM.keep K0 (by simp) (by simp);have hB0:=hB.keep K0 (by simp) (by simp);have cx0:=k0.ce cx (by omega) (by omega) (by simp) (by simp);have rx:∀o,rd s0 st.next o 1=cut (Ex.cells (.mk k nm num ps b a l)) o 1:=λo=>by rw[ai cx0]
 have rk:rd s0 st.next 0 1=So [.i .i64 k]:=by rw[rx];rfl
 have rn:rd s0 st.next 1 1=So [.s nm]:=by rw[rx];rfl
 have ru:rd s0 st.next 2 1=So [.i .i64 num]:=by rw[rx];rfl
 have wr0:∀(s:St),Kp [] [] s0 s->∀a b:Int,∃s1,wt s sx.next 0 [.i .i64 a,.i .i64 b]=So s1/\rd s1 sx.next 0 2=So [.i .i64 a,.i .i64 b]/\Kp [] [] st s1:=λs hk a b=>by have c1:=hk.ce c0 (by omega) (by omega) (by simp) (by simp);have:=c9 c1 0 [.i .i64 a,.i .i64 b] (by simp) (by simp);refine⟨_,this,?_,ey (K0.trans hk) (.aG (A:=[sx.next]) (B:=[sx.next]) (by simp) (by simp)) (by grind) (by grind)⟩;rw[ai (dA _ _ _)];rfl
 by_cases h2:k=2
 ·subst h2;have⟨s1,w1,w2,w3⟩:=wr0 s0 (.refl _ _ _) 3 num;refine⟨s1,?_,w3⟩;simp[f58,hsx,aB,ue,hs0,rk,ru,Ar.build,aC ri lO,w1,bf,aO,lO,w2,atR,bI]
 by_cases h3:k=3
 ·subst h3;have⟨s1,w1,w2,w3⟩:=wr0 s0 (.refl _ _ _) 4 num;refine⟨s1,?_,w3⟩;simp[f58,hsx,aB,ue,hs0,rk,ru,Ar.build,aC ri lO,w1,bf,aO,lO,w2,atR,bI]
 have⟨s2,q1,q2⟩:=PI (c:=c) nm hM0 hB0 (N:=N) (by omega);obtain⟨r,hr⟩:∃r,eJ (ax Gf) (aS fs) nm=r:=⟨_,rfl⟩;rw[hr]at q1;have⟨s1,w1,w2,w3⟩:=wr0 s2 q2 r.1 r.2;refine⟨s1,?_,w3⟩;have e:atR (ax Gf) (aS fs) (.mk k nm num ps b a l)=r:=by simp[atR,h2,h3,hr]
 rw[e];simp[f58,hsx,aB,ue,hs0,rk,rn,h2,h3,q1,bI,aC ri lO,w1,bf,aO,lO,w2]
theorem RK{cs:List AV}{g:Option Nat}{n0:Nat}(h:bD s lo z v n cs g)(h0:n=0->v=.sn)(hlo:n0<=lo)(hp:aA cs=Tt):Fz n0 s v (eA z cs n):=by
 unfold eA;rcases h with ⟨rfl,rfl,rfl,-⟩|⟨r,rfl,rfl,rfl,-⟩|⟨r,f,al,-,rfl,h1,h2,h3,h4,h5,h6,h7⟩
 ·exact .pure rfl
 ·grind
 ·rw[if_neg (by omega)];exact .slice h1 h2.symm (by omega) (.pure hp) (by omega)
def zP(st s:St)(t:Tr AV)(G:Nat->Rf)(lo i:Nat):Prop:=∃g,bD s lo 2 (ab t 7) i ((List.range i).flatMap λj=>bI (G j)) g/\(i=0->ab t 7=.sn)/\Kp [] [] st s
theorem QU{s1:St}{G:Nat->Rf}(hlo:lo=st.next)(h:zP st s t G lo i)(hi:i<1000000)(k1:Kp [] [] s s1)(hs:s1=s'):
  ∃v' s2,fD π (s'.aj (bI (G i))) [40,40] [ab t 7,.sl s'.next 0 1 2 (So 1)]=So (v',s2)/\Kp [] [] st s2/\(∃g,bD s2 lo 2 v' (i+1) ((List.range (i+1)).flatMap λj=>bI (G j)) g):=by
 subst hs hlo;have⟨g,h1,h2,h3⟩:=h;have h1':=h1.keep k1 (by simp) (by simp);have⟨v',g',s2,w1,w2,w3,w4⟩:=h1'.iW yq (new:=bI (G i)) rfl rfl (by omega) (Z7 h3.next k1.next);have hg:∀x∈g.toList,st.next<=x:=λx hx=>(h1.jd x (by grind)).1
 refine⟨v',s2,w1,ey (h3.trans k1) w3 (by simp) hg,g',?_⟩;rw[List.range_succ,Z3];grind
theorem NB(f:α->List AV)(d:α)(l:List α):((List.range l.length).flatMap λj=>f (l.getD j d))=l.flatMap f:=by
 have:l=(List.range l.length).map λj=>l.getD j d:=List.ext_getElem (by simp) λi h1 h2=>by grind
 conv=>rhs;rw[this]
 rw[List.flatMap_map]
theorem PE(hv:cz v (l.map .s))(hl:l.length<=1000000)(hM:mD st X mr gr kr Gf Kf)(hB:uh st X bv fs)(hN:fs.length+1000100<=N):
  ∃st',(Tw c N).call 147 [.p mr 0,v,bv] st=So (bz (l.map (eJ (ax Gf) (aS fs))),st')/\Kp [] [] st st':=by
 cases N
 ·omega
 rename_i N;obtain⟨G,hG⟩:∃G:Nat->Rf,(λj=>(l.map (eJ (ax Gf) (aS fs))).getD j (0,0))=G:=⟨_,rfl⟩
 suffices h:∃v1 s1,aJ c N f147 (f147.body.getD .skip) [.p mr 0,v,bv] st=So (v1,s1)/\Kp [] [] st s1/\Fz st.next s1 v1 (bz (l.map (eJ (ax Gf) (aS fs)))) by have⟨v1,s1,h1,h2,h3⟩:=h;exact⟨_,wq rfl rfl rfl rfl rfl (by decide) func147 rfl (Q0 rfl) h1 h3,h2.shut (Q4 _)⟩
 unfold aJ;have ln:=λst:St=>hv.sLen (st:=st) eL
 simp[f147,ln,ba];generalize hL:aQ _ _ _ _=L;obtain⟨t1,s1,rfl,g,r1,r2,r3⟩:=cD hL 0 l.length
  (λi t s=>ab t 0=.p mr 0/\ab t 2=bv/\ab t 10=v/\ab t 11=.i .i64 (l.length:Int)/\ab t 12=.i .i64 (i:Int)/\zP st s t G st.next i)
  (λt s=>zP st s t G st.next l.length) (by omega)
  ⟨by simp,by simp,by simp,by simp,by simp,No,by simpa using bD.nil _ _ _,by simp,.refl _ _ _⟩
  (by
   rintro i t s hi ⟨i0,i2,i10,i11,i12,iR⟩;have e3:(i:Int)<(l.length:Int):=by omega
   have e4:wr .i64 ((i:Int)+1)=((i+1:Nat):Int):=by rw[aP (by omega) (by omega)];rfl
   have⟨a,ix,ld⟩:=hv.sat eL mF hi;have iK:=iR.choose_spec.2.2;have⟨s2,q1,q2⟩:=PI (c:=c) l[i] (hM.keep iK (by simp) (by simp)) (hB.keep iK (by simp) (by simp)) (N:=N) (by omega);have eG:G i=eJ (ax Gf) (aS fs) l[i]:=by grind
   rw[<-eG]at q1;have bo:=λ(t:Tr AV) (h:ah t (.tmp 20)=.ag (bI (G i)))=>ef (S:=Tw c N) (t:=t) (st:=s2) yq (x:=.tmp 20) (cs:=bI (G i)) (by simp_all) rfl
   have⟨v',s3,w1,w2,w3⟩:=QU rfl iR (by omega) q2 rfl;simp[i0,i2,i10,i11,i12,e3,e4,ix,ld,q1,bo,w1];refine⟨_,_,⟨rfl,rfl⟩,by simp_all,by simp_all,by simp_all,by simp_all,by simp,?_⟩;have⟨g,w3⟩:=w3;exact⟨g,by simp_all,by simp,w2⟩)
  (by rintro t s ⟨i0,i2,i10,i11,i12,iR⟩;simp[i11,i12];have⟨g,h1,h2,h3⟩:=iR;exact⟨_,_,⟨rfl,rfl⟩,g,by simp_all,by simp_all,h3⟩)
 clear hL;have hz:=RK r1 r2 (Q4 _) (mj _ (λ_=>rfl) _);have e:bz (l.map (eJ (ax Gf) (aS fs)))=eA 2 ((List.range l.length).flatMap λj=>bI (G j)) l.length:=by unfold bz;rw[<-hG,Q3];congr 1;have:=NB bI (0,0) (l.map (eJ (ax Gf) (aS fs)));grind
 rw[<-e]at hz;refine⟨_,s1,?_,r3,hz⟩;simp[bf,aO]
end
set_option maxHeartbeats 8000000
theorem wm(h:a.Ty 0):gA (a.slice 7) 7 ((a.list.map (·.2)).map Ex.cells):=by
 refine⟨?_,λx hx=>?_⟩
 ·cases a with
  |nil f=>
   cases f with
   |false=>simp[aa.slice,aa.list]
   |true=>simp[aa.slice,aa.list]
  |cons p x l=>
   right;have hf:=aa.As (.cons p x l);have hl:=aa.aF (.cons p x l);show AV.rs (aa.flat (.cons p x l)) (aa.len (.cons p x l)) 7=_
   rw[hf,hl,Q3,Q3,List.map_map];congr 2;refine List.map_congr_left λq hq=>?_
   have:=(aa.dC h q hq).1;rw[show q.1=[] from this];rfl
 ·obtain⟨y,-,rfl⟩:=List.mem_map.1 hx;exact y.bp
theorem Zz{els:List (List AV)}(h:gA v z els)(T:iq π ty e z)(hs:oY π ty z=Tt)(hi:i<=els.length)(h0:els≠[]):∃w,gR π st ty v (So (.i .i64 (i:Int))) No No=So w/\gA w z (els.drop i):=by
 rcases h.1 with ⟨-,h1⟩|rfl
 ·exact absurd h1 h0
 ·refine⟨.rs (els.flatten.drop (i*z)) (els.length-i) z,?_,?_,λx hx=>h.2 x (List.mem_of_mem_drop hx)⟩
  ·have h2:fM els.length els.length (So (.i .i64 (i:Int))) No No=So (i,els.length,els.length):=by
    unfold fM;show @Bool.rec (λ_=>Option (Nat×Nat×Nat)) No (So (i,els.length,els.length)) (Nat.ble i els.length&&Nat.ble els.length els.length&&Nat.ble els.length els.length&&Tt)=_
    rw[Q5 hi,Q5 (Q4 _)];rfl
   unfold gR;have h3:slice π ty (.rs els.flatten els.length z) (So (.i .i64 (i:Int))) No No=So (.rs (els.flatten.drop (i*z)) (els.length-i) z):=by unfold slice;simp only[h2,hs];simp
   rw[h3]
  ·right;have key:∀(L:List (List AV)) (i:Nat),i<=L.length->(∀x∈L,x.length=z)->L.flatten.drop (i*z)=(L.drop i).flatten:=by
    intro L;induction L with
    |nil=>intro i _ _;simp
    |cons x L ih=>
     intro i hi hz;cases i with
     |zero=>simp
     |succ i=>have hx:=hz x (V4 ..);rw[List.flatten_cons,Z8,List.drop_succ_cons,<-ih i (by simpa using hi) λy hy=>hz y (V3 _ hy)];rw[Z4 (by rw[hx,V7];omega),Q6,hx];congr 1;rw[V7];omega
   rw[key _ _ hi h.2,List.length_drop]
theorem acu:oY π 44 7=true:=by kernel_rfl
section
variable {X:List Nat}
theorem Fc{l:List Ex}(hv:gA v 7 (l.map Ex.cells))(hT:∀x∈l,x.Ty)(hl:l.length<=1000000)(hM:mD st X mr gr kr Gf Kf)(hB:uh st X bv fs)(hN:fs.length+1000100<=N):
  ∃st',(Tw c N).call 57 [.p mr 0,v,bv] st=So (bz (l.map (atR (ax Gf) (aS fs))),st')/\Kp [] [] st st':=by
 cases N
 ·omega
 rename_i N;obtain⟨G,hG⟩:∃G:Nat->Rf,(λj=>(l.map (atR (ax Gf) (aS fs))).getD j (0,0))=G:=⟨_,rfl⟩
 suffices h:∃v1 s1,aJ c N f57 (f57.body.getD .skip) [.p mr 0,v,bv] st=So (v1,s1)/\Kp [] [] st s1/\Fz st.next s1 v1 (bz (l.map (atR (ax Gf) (aS fs)))) by have⟨v1,s1,h1,h2,h3⟩:=h;exact⟨_,wq rfl rfl rfl rfl rfl (by decide) func57 rfl (Q0 rfl) h1 h3,h2.shut (Q4 _)⟩
 unfold aJ;have ln:=λst:St=>hv.cP (st:=st) rX
 rw[Q3]at ln;simp[f57,ln,ba];generalize hL:aQ _ _ _ _=L;obtain⟨t1,s1,rfl,g,r1,r2,r3⟩:=cD hL 0 l.length
  (λi t s=>ab t 0=.p mr 0/\ab t 2=bv/\ab t 10=v/\ab t 11=.i .i64 (l.length:Int)/\ab t 12=.i .i64 (i:Int)/\zP st s t G st.next i)
  (λt s=>zP st s t G st.next l.length) (by omega)
  ⟨by simp,by simp,by simp,by simp,by simp,No,by simpa using bD.nil _ _ _,by simp,.refl _ _ _⟩
  (by
   rintro i t s hi ⟨i0,i2,i10,i11,i12,iR⟩;have e3:(i:Int)<(l.length:Int):=by omega
   have e4:wr .i64 ((i:Int)+1)=((i+1:Nat):Int):=by rw[aP (by omega) (by omega)];rfl
   have⟨r,ix⟩:=hv.at rX (k:=i) (by grind);rw[Z9]at ix;have ld:=ei cM gT aX (st:=s) (r:=r) l[i].bp;have hTi:=hT _ (Z5 hi);have iK:=iR.choose_spec.2.2;have⟨s1,a1,a2,a3,a4⟩:=bJ (s:=s) (z:=vT) (cells:=l[i].cells) (by rw[Ex.bp];rfl) (Ex.eU hTi.wf);have sto:=aC cM aX (s.aj vT) s.next 0 l[i].cells l[i].bp;have lx:loadAt π 47 s1 (.p s.next 0)=So (.ag l[i].cells):=by rw[cu cM gT,aX,ai a2,eV,<-l[i].bp,gY];rfl
   have k1:=iK.trans a3;have⟨s2,q1,q2⟩:=Fb (c:=c) (x:=l[i]) (hM.keep k1 (by simp) (by simp)) (hB.keep k1 (by simp) (by simp)) (N:=N) (by omega);have eG:G i=atR (ax Gf) (aS fs) l[i]:=by grind
   rw[<-eG]at q1;have bo:=λ(t:Tr AV) (h:ah t (.tmp 20)=.ag (bI (G i)))=>ef (S:=Tw c N) (t:=t) (st:=s2) yq (x:=.tmp 20) (cs:=bI (G i)) (by simp_all) rfl
   have⟨v',s3,w1,w2,w3⟩:=QU rfl iR (by omega) (a3.trans q2) rfl;simp[i0,i2,i10,i11,i12,e3,e4,ix,ld,aB,FT,sto,a1,lx,q1,bo,w1];refine⟨_,_,⟨rfl,rfl⟩,by simp_all,by simp_all,by simp_all,by simp_all,by simp,?_⟩;have⟨g,w3⟩:=w3;exact⟨g,by simp_all,by simp,w2⟩)
  (by rintro t s ⟨i0,i2,i10,i11,i12,iR⟩;simp[i11,i12];have⟨g,h1,h2,h3⟩:=iR;exact⟨_,_,⟨rfl,rfl⟩,g,by simpa using h1,by simpa using h2,h3⟩)
 clear hL;have hz:=RK r1 r2 (Q4 _) (mj _ (λ_=>rfl) _);have e:bz (l.map (atR (ax Gf) (aS fs)))=eA 2 ((List.range l.length).flatMap λj=>bI (G j)) l.length:=by unfold bz;rw[<-hG,Q3];congr 1;have:=NB bI (0,0) (l.map (atR (ax Gf) (aS fs)));rw[Q3]at this;exact this.symm
 rw[<-e]at hz;refine⟨_,s1,?_,r3,hz⟩;simp[bf,aO]
def kE(st:St)(br n:Nat)(sv:AV):Prop:=∃al,st.ce br=So ([iN n,sv],br,al)
theorem Gn:∀(l:List ae) (S:aK) (n:Nat) (s:ae),aZ S (l++[s]) n=λx=>if x=s then So (n+l.length) else aZ S l n x
 |[],S,n,s=>rfl
 |y::l,S,n,s=>by
  show aZ _ (l++[s]) (n+1)=_
  rw[Gn l _ (n+1) s];simp only[aZ,List.length_cons];grind
theorem PS(f:aK)(s:ae)(n:Nat):upd (fQ f) s (iN n)=fQ λx=>if x=s then So n else f x:=by unfold upd fQ;grind
theorem RE{l:List AV}(h:s.ce r=So (l,g,al))(hq:q g=Ff):(s.fT q).ce r=So (l,g,al):=by have⟨h1,h2,h3⟩:=x8 h;unfold St.ce;rw[RF,h1];simp only;rw[Fq hq,h2];simp_all
def T2(o:Option (AV×St))(st:St)(br n:Nat)(sv:AV)(l:List ae):Prop:=∃v1 s1 rs rm,o=So (v1,s1)/\kE s1 br (n+l.length) (.p rs 0)/\s1.ce rs=So ([.m rm,sv],rs,[rs])/\bZ s1 rm (fQ (aZ (λ_=>No) l n))/\Kp [br] [br] st s1/\(st.next<=rs/\rs<s1.next)/\(st.next<=rm/\rm<s1.next)/\(∃g,bD s1 (rs+1) 1 v1 l.length ((List.range' n l.length).flatMap mQ) g)/\(l.length=0->v1=.sn)
structure Ge(st:St)(br:Nat)(v:AV)(l:List ae):Prop where
 len:lenOf v=So l.length/\kO v=Ff
 at':∀i (hi:i<l.length),∃a,indexAddr π 43 v (.i .i64 (i:Int))=So a/\∀s,Kp [br] [br] st s->loadAt π 9 s a=So (.s l[i])
theorem cz.ZM(hv:cz v (l.map .s)):Ge st br v l:=⟨by
 have h1:=hv.len;have h2:=hv.text;grind,λi hi=>by
 have⟨a,h1,h2⟩:=hv.sat eL mF hi;grind⟩
theorem PH(hv:Ge st br v l)(hl:l.length<=1000000)(hn:n<=1000000000)(hb:kE st br n sv)(hbr:br<st.next)(hsv:sv.cells=So [sv]/\bR sv=Tt)(hN:1000100<=N):
  ∃st' rs rm,(Tw c N).call 99 [.p br 0,v] st=So (fu (List.range' n l.length),st')/\kE st' br (n+l.length) (.p rs 0)/\st'.ce rs=So ([.m rm,sv],rs,[rs])/\bZ st' rm (fQ (aZ (λ_=>No) l n))/\Kp [br] [br] st st'/\(st.next<=rs/\rs<st'.next)/\(st.next<=rm/\rm<st'.next):=by
 cases N
 ·omega
 rename_i N
 suffices h:T2 (aJ c N f99 (f99.body.getD .skip) [.p br 0,v] st) st br n sv l by
  have⟨v1,s1,rs,rm,h1,h2,h3,h4,h5,h6,h7,⟨g,h8⟩,h9⟩:=h;have hq:∀g,g<rs+1->mO pW 99 st.next v1 s1 g=false:=λy hy=>by
   unfold mO pW;rcases h8 with ⟨rfl,-⟩|⟨r,rfl,h0,-⟩|⟨r,f,al,-,rfl,k1,k2,k3,k4,k5,k6,k7⟩
   ·simp[ja]
   ·grind
   ·have:¬f=y:=by omega
    simp[ja,k1,Ne.symm this]
  have hz:di (mO pW 99 st.next v1 s1) s1 v1 (fu (List.range' n l.length)):=by
   unfold fu eA;rw[List.length_range'];rcases id h8 with ⟨rfl,h0,-⟩|⟨r,rfl,h0,-⟩|⟨r,f,al,-,rfl,k1,k2,k3,k4,k5,k6,k7⟩
   ·rw[if_pos h0];exact .pure rfl
   ·grind
   ·rw[if_neg (by omega)];refine .slice k1 k2.symm ?_ (.pure (mj _ (λ_=>rfl) _)) (by omega);unfold mO pW;have:Nat.ble st.next f=true:=Q5 (by omega);simp[ja,k1,this]
  have⟨al,h2⟩:=h2;exact⟨_,rs,rm,UN func99 rfl (Q0 rfl) h1 hz,⟨al,RE h2 (hq _ (by omega))⟩,RE h3 (hq _ (by omega)),h4,h5.fT λg hg=>hq g (by omega),h6,h7⟩
 unfold aJ;have ln:=λst:St=>bg (P:=π) (st:=st) underlying43 hv.len.1 hv.len.2
 have k0:=Kp.new (st:=st) [] [] (.mp [] 0);have m0:=bZ.new st;have n0:(st.new (.mp [] 0)).next=st.next+1:=rfl;obtain⟨s0,hs0⟩:∃s,st.new (.mp [] 0)=s:=⟨_,rfl⟩;rw[hs0]at k0 m0 n0;have k1:=Kp.aj (st:=s0) [] [] [.m st.next,sv];have c1:=bq (st:=s0) [.m st.next,sv];have n1:(s0.aj [.m st.next,sv]).next=st.next+2:=by show s0.next+1=_;omega
 obtain⟨s1,hs1⟩:∃s,s0.aj [.m st.next,sv]=s:=⟨_,rfl⟩;rw[hs1]at k1 c1 n1;rw[n0]at c1;have⟨al,hb⟩:=hb;have b0:=k0.ce hb hbr hbr (by simp) (by simp);have b1:=k1.ce b0 (by omega) (by omega) (by simp) (by simp);have rb:rd s0 br 1 1=So [sv]:=by rw[ai b0];rfl
 have m1:=m0.keep k1 (by omega) (by simp);simp[f99,hs0,rb,Xx.build,hsv.1,hs1,n0,ln,ba];generalize hL:aQ _ _ _ _=L;obtain⟨t2,s2,rfl,z0,z5,⟨al2,zb⟩,zs,zm,zo,zi,zk,zn⟩:=cD hL 0 l.length
  (λi t s=>ab t 0=.p br 0/\ab t 5=.p (st.next+1) 0/\ab t 16=v/\ab t 17=.i .i64 (l.length:Int)/\ab t 18=.i .i64 (i:Int) /\
   kE s br (n+i) sv/\s.ce (st.next+1)=So ([.m st.next,sv],st.next+1,[st.next+1])/\bZ s st.next (fQ (aZ (λ_=>No) (l.take i) n))/\(∃g,bD s (st.next+2) 1 (ab t 6) i ((List.range' n i).flatMap mQ) g)/\(i=0->ab t 6=.sn)/\Kp [br] [br] st s/\st.next+2<=s.next)
  (λt s=>ab t 0=.p br 0/\ab t 5=.p (st.next+1) 0 /\
   kE s br (n+l.length) sv/\s.ce (st.next+1)=So ([.m st.next,sv],st.next+1,[st.next+1])/\bZ s st.next (fQ (aZ (λ_=>No) l n))/\(∃g,bD s (st.next+2) 1 (ab t 6) l.length ((List.range' n l.length).flatMap mQ) g)/\(l.length=0->ab t 6=.sn)/\Kp [br] [br] st s/\st.next+2<=s.next) (by omega)
  ⟨by simp,by simp,by simp,by simp,by simp,⟨al,b1⟩,c1,by
   have:fQ (aZ (λ_=>No) (l.take 0) n)=λ_=>none:=by funext x;simp[fQ,aZ]
   rw[this];exact m1,⟨No,by simpa using bD.nil _ _ _⟩,by simp,(k0.trans k1).sub (by simp) (by simp),by omega⟩
  (by
   rintro i t s hi ⟨i0,i5,i16,i17,i18,⟨al',iB⟩,iS,iM,⟨g,iO⟩,iZ,iK,iX⟩;have e3:(i:Int)<(l.length:Int):=by omega
   have e4:wr .i64 ((i:Int)+1)=((i+1:Nat):Int):=by rw[aP (by omega) (by omega)];rfl
   obtain⟨m,hm⟩:∃m,n+i=m:=⟨_,rfl⟩;obtain⟨m1,hm1⟩:∃m1,m+1=m1:=⟨_,rfl⟩;have e5:wr .i64 ((m:Int)+1)=(m1:Int):=by rw[aP (by omega) (by omega)];omega
   rw[hm]at iB;have⟨a,ix,ld⟩:=hv.at' i hi;have ld:=ld s iK;have brl:br<s.next:=by omega
   have rs0:rd s (st.next+1) 0 1=So [.m st.next]:=by rw[ai iS];rfl
   have rb0:rd s br 0 1=So [iN m]:=by rw[ai iB];rfl
   have⟨s2,u1,u2,u3,u4⟩:=iM.set nR l[i] (iN m);have iB2:=u3.ce iB brl brl (by simp;omega) (by simp);have iS2:=u3.ce iS (by omega) (by omega) (by simp) (by simp);have rb2:rd s2 br 0 1=So [iN m]:=by rw[ai iB2];rfl
   have iO2:=iO.keep u3 (by simp) (by simp);have bo:=λ(t:Tr AV) (h:ah t (.tmp 35)=iN m)=>ef (S:=Tw c N) (t:=t) (st:=s2) rf (x:=.tmp 35) (cs:=[iN m]) (by rw[h];simp[iN]) rfl
   have⟨v',g',s3,w1,w2,w3,w4⟩:=iO2.iW rf (new:=[iN m]) rfl rfl (by omega) (by rw[u4];omega);have gl:∀x∈g.toList,st.next+2<=x:=λx hx=>(iO2.jd x (by simpa using hx)).1
   have n3:=w3.next;have iB3:=w3.ce iB2 (by omega) (by omega) (by simp) (λhh=>by have:=gl _ hh;omega);have iS3:=w3.ce iS2 (by omega) (by omega) (by simp) (λhh=>by have:=gl _ hh;omega);have iM3:=u2.keep w3 (by omega) (by simp);have rb3:rd s3 br 0 1=So [iN m]:=by rw[ai iB3];rfl
   have hw:=c9 iB3 0 [iN m1] (by simp) (by simp[iN]);have k4:Kp [br] [br] s3 (s3.aG br [iN m1,sv] br):=.aG (by simp) (by simp);have c4:=dA br [iN m1,sv] br (st:=s3);have ew:aW [iN m,sv] 0 [iN m1]=[iN m1,sv]:=rfl;rw[ew]at hw;obtain⟨s4,hs4⟩:∃s,s3.aG br [iN m1,sv] br=s:=⟨_,rfl⟩;rw[hs4]at hw k4 c4;have iS4:=k4.ce iS3 (by omega) (by omega) (by simp;omega) (by simp;omega);have iM4:=iM3.keep k4 (by omega) (by simp;omega);have iO4:bD s4 (st.next+2) 1 v' (i+1) ((List.range' n (i+1)).flatMap mQ) g':=by have:=w2.keep k4 (by simp;omega) (by simp;omega);rw[<-List.range'_append_1,Z3];simpa[mQ,hm]using this
   have K4:Kp [br] [br] st s4:=by have a1:=ey iK u3 (by simp) (by simp);have a2:=ey a1 w3 (by simp) (λx hx=>by have:=gl x hx;omega);exact a2.trans k4
   have st4:=bN dW eY s3 br 0 (iN m1) (by simp[iN]);have eN:∀k:Nat,iN k=.i .i64 (k:Int):=λ_=>rfl
   simp only[eN]at rb0 rb2 rb3 u1 bo w1 hw st4;simp[i16,i17,i18,e3,ix,ld,aY];rw[bP (by kernel_rfl)];simp[i0,i5,i18,e4,rs0,rb0,u1,rb2,bo,w1,rb3,e5,st4,hw];exact⟨_,_,⟨rfl,rfl⟩,by simp[i0],by simp[i5],by simp[i16],by simp[i17],by simp,⟨_,by rw[show n+(i+1)=m1 by omega];exact c4⟩,iS4,by rw[PS]at iM4;rw[<-Q8 hi,Gn,V8,Nat.min_eq_left (by omega),hm];exact iM4,⟨g',by simpa using iO4⟩,K4,(by have:=k4.next;have:=u3.next;omega)⟩)
  (by rintro t s ⟨i0,i5,i16,i17,i18,iB,iS,iM,iO,iZ,iK,iX⟩;simp[i17,i18];rw[Z0]at iM;exact⟨_,_,⟨rfl,rfl⟩,by simp[i0],by simp[i5],iB,iS,iM,by simpa using iO,by simpa using iZ,iK,iX⟩)
 clear hL;have⟨g,zo⟩:=zo;have hw:=c9 zb 1 [.p (st.next+1) 0] (by simp) (by simp);have ew:aW [iN (n+l.length),sv] 1 [.p (st.next+1) 0]=[iN (n+l.length),.p (st.next+1) 0]:=rfl;rw[ew]at hw;have k4:Kp [br] [br] s2 (s2.aG br [iN (n+l.length),.p (st.next+1) 0] br):=.aG (by simp) (by simp);have c4:=dA br [iN (n+l.length),.p (st.next+1) 0] br (st:=s2);obtain⟨s4,hs4⟩:∃s,s2.aG br [iN (n+l.length),.p (st.next+1) 0] br=s:=⟨_,rfl⟩;rw[hs4]at hw k4 c4;have st4:=bN DO FD s2 br 1 (.p (st.next+1) 0) (by simp);have n4:=k4.next;refine⟨ab t2 6,s4,st.next+1,st.next,?_,⟨_,c4⟩,k4.ce zs (by omega) (by omega) (by simp;omega) (by simp;omega),zm.keep k4 (by omega) (by simp;omega),zk.trans k4,⟨by omega,by omega⟩,⟨Q4 _,by omega⟩,⟨g,zo.keep k4 (by simp;omega) (by simp;omega)⟩,zi⟩;simp[z0,z5,st4,hw]
theorem IC(hv:cz v (l.map .s))(hl:l.length<=1000000)(hn:n<=1000000000)(hb:kE st br n sv)(hbr:br<st.next)(hsv:sv.cells=So [sv]/\bR sv=Tt)(hN:1000100<=N):
  ∃st' rs rm,(Tw c N).call 99 [.p br 0,v] st=So (fu (List.range' n l.length),st')/\kE st' br (n+l.length) (.p rs 0)/\st'.ce rs=So ([.m rm,sv],rs,[rs])/\bZ st' rm (fQ (aZ (λ_=>No) l n))/\Kp [br] [br] st st'/\(st.next<=rs/\rs<st'.next)/\(st.next<=rm/\rm<st'.next):=
 PH (cz.ZM hv) hl hn hb hbr hsv hN
end
set_option maxHeartbeats 8000000
def we(st:St)(X:List Nat)(w:AV)(l:List ae):Prop:=((lenOf w=So 0/\kO w=Ff/\bR w=Tt/\w.cells=So [w])/\l=[])\/∃r f al q rest,w=.sl r 0 l.length 1 q/\st.ce r=So (l.map .s++rest,f,al)/\r<st.next/\f<st.next/\r∉X/\f∉X
theorem we.len{X:List Nat}(h:we st X w l)(s:St):cP π s [43] [w]=So (.i .i64 (l.length:Int),s):=by
 rcases h with ⟨hw,rfl⟩|⟨r,f,al,q,rest,rfl,-⟩
 ·exact bg (n:=0) underlying43 hw.1 hw.2.1
 ·exact bg underlying43 rfl rfl
theorem we.at{X:List Nat}(h:we st X w l)(hi:i<l.length):∃a,indexAddr π 43 w (.i .i64 (i:Int))=So a/\∀(A B:List Nat) (s:St),Kp A B st s->(∀x,x∈A->x∈X)->(∀x,x∈B->x∈X)->loadAt π 9 s a=So (.s l[i]):=by
 rcases h with ⟨-,rfl⟩|⟨r,f,al,q,rest,rfl,h2,h3,h4,h5,h6⟩
 ·grind
 ·refine⟨.p r (0+i*1),wH underlying43 mP rZ r 0 l.length i q hi,λA B s k hA hB=>?_⟩;have hc:=k.ce h2 h3 h4 (λhh=>h5 (hA _ hh)) (λhh=>h6 (hB _ hh));rw[ry mP mF,ai hc,K8,V9,uU _ _ _ (by grind),List.drop_append_of_le_length (by grind),J3 (by grind)];simp
def Ci(c:Option Self)(g:Nat)(caps:List AV)(M0:Nat)(J:St->Prop)(del:ae->Bool):Prop:=∀(M:Nat),M0<=M->∀(s:St) (x:ae),J s->∃s',pN π (Tw c M) g (.s x::caps) s=So (.b (del x),s')/\J s'/\Kp [] [] s s'
def KS(del:ae->Bool)(l:List ae)(v:AV):Prop:=∃i,∃h:i<l.length,v=.i .i64 (i:Int)/\del l[i]=Tt/\∀x∈l.take i,del x=Ff
theorem Oj(hD:Ci c g caps M0 J del){X:List Nat}(hv:we st X v l)(hl:l.length<=1000000)(hJ:J st)(hN:M0+2000000<=N):
  ∃st' n,(Tw c N).call 197 [v,.f (.func g) [] caps] st=So (n,st')/\J st'/\Kp [] [] st st'/\((n=.i .i64 (-1)/\∀x∈l,del x=Ff)\/KS del l n):=by
 cases N
 ·omega
 rename_i N;rw[dV rfl func197 rfl (Q0 rfl)];unfold aJ;simp[f197,hv.len,ba];generalize hL:aQ _ _ _ _=L;have lr:=gV hL 0 l.length
  (λi t s1=>ab t 0=v/\ab t 1=.f (.func g) [] caps/\ab t 7=.i .i64 (l.length:Int)/\ab t 8=.i .i64 (i:Int)/\(∀x∈l.take i,del x=Ff)/\J s1/\Kp [] [] st s1)
  (λt s1=>(∀x∈l,del x=Ff)/\J s1/\Kp [] [] st s1) (λt s1=>KS del l (ab t 4)/\J s1/\Kp [] [] st s1) (by omega)
  ⟨by simp,by simp,by simp,by simp,by simp,hJ,.refl _ _ _⟩
  (by
   rintro i t s1 hi ⟨i0,i1,il,ii,iP,iJ,iK⟩;have e5:(i:Int)<(l.length:Int):=by omega
   have e7:wr .i64 ((i:Int)+1)=((i+1:Nat):Int):=by rw[aP (by omega) (by omega)];rfl
   have⟨a0,ix,ldx⟩:=hv.at hi;have ldi:=ldx [] [] s1 iK (by simp) (by simp);have⟨s2,d1,d2,d3⟩:=hD N (by omega) s1 l[i] iJ;cases hd:del l[i] with
   |true=>right;rw[hd]at d1;simp[i0,i1,il,ii,e5,ix,ldi,d1];exact⟨_,_,⟨rfl,rfl⟩,⟨i,hi,by simp,hd,iP⟩,d2,iK.trans d3⟩
   |false=>left;rw[hd]at d1;simp[i0,i1,il,ii,e5,e7,ix,ldi,d1];refine⟨_,_,⟨rfl,rfl⟩,by simp_all,by simp_all,by simp_all,by simp,λx hx=>?_,d2,iK.trans d3⟩;rw[<-Q8 hi]at hx;grind)
  (by rintro t s1 ⟨i0,i1,il,ii,iP,iJ,iK⟩;simp[il,ii];grind)
 clear hL;rcases lr with ⟨t1,s1,rfl,hP,hJ,hK⟩|⟨t1,s1,rfl,⟨i,hi,hT,h1,h2⟩,hJ,hK⟩
 ·exact⟨s1,.i .i64 (-1),by simp[bf,aO],hJ,hK,.inl ⟨rfl,hP⟩⟩
 ·exact⟨s1,.i .i64 (i:Int),by simp[hT],hJ,hK,.inr ⟨i,hi,rfl,h1,h2⟩⟩
def kj(del:ae->Bool)(l:List ae):List ae:=l.filter λx=>!del x
theorem AK(del:ae->Bool)(l:List ae)(x:ae):kj del (l++[x])=kj del l++(if del x then[] else[x]):=by unfold kj;grind
theorem YF(del:ae->Bool)(l:List ae):(kj del l).length<=l.length:=List.length_filter_le _ _
theorem ack(hi:i<=n):gR π st 43 (.sl r 0 n 1 No) No (So (.i .i64 (i:Int))) No=So (.sl r 0 i 1 No):=by
 have h1:oY π 43 1=true:=by kernel_rfl
 have h2:fM n n No (So (.i .i64 (i:Int))) No=So (0,i,n):=by
  show @Bool.rec (λ_=>Option (Nat×Nat×Nat)) No (So (0,i,n)) (Nat.ble 0 i&&Nat.ble i n&&Nat.ble n n&&Tt)=_
  rw[Q5 (Nat.zero_le i),Q5 hi,Q5 (Q4 n)];rfl
 unfold gR;have h3:slice π 43 (.sl r 0 n 1 No) No (So (.i .i64 (i:Int))) No=So (.sl r 0 i 1 No):=by unfold slice;simp_all
 grind
theorem acm(hi:i<=n):gR π st 43 (.sl r 0 n 1 No) (So (.i .i64 (i:Int))) No No=So (.sl r i (n-i) 1 No):=by
 have h1:oY π 43 1=true:=by kernel_rfl
 have h2:fM n n (So (.i .i64 (i:Int))) No No=So (i,n,n):=by
  show @Bool.rec (λ_=>Option (Nat×Nat×Nat)) No (So (i,n,n)) (Nat.ble i n&&Nat.ble n n&&Nat.ble n n&&Tt)=_
  rw[Q5 hi,Q5 (Q4 n)];rfl
 unfold gR;have h3:slice π 43 (.sl r 0 n 1 No) (So (.i .i64 (i:Int))) No No=So (.sl r i (n-i) 1 No):=by unfold slice;simp_all
 grind
structure FY(del:ae->Bool)(l:List ae)(r f:Nat)(J:St->Prop)(st s:St)(i j:Nat):Prop where
 ce:∃mid al,s.ce r=So ((kj del (l.take j)).map .s++(mid++(l.drop j).map .s),f,al)/\i+mid.length=j
 len:(kj del (l.take j)).length=i
 lt:i<j
 J:J s
 K:Kp [r] [f] st s
def Tq(v fv:AV)(t:Tr AV)(i j:Nat):Prop:=ab t 0=v/\ab t 1=fv/\ab t 5=.i .i64 (i:Int)/\ab t 6=.i .i64 (j:Int)
def To(del:ae->Bool)(l:List ae)(r f:Nat)(J:St->Prop)(st:St)(t:Tr AV)(s:St):Prop:=∃i:Nat,ab t 0=.sl r 0 l.length 1 No/\ab t 5=.i .i64 (i:Int)/\FY del l r f J st s i l.length
theorem Sh(h:∀x∈l,del x=Ff):kj del l=l:=by unfold kj;simp_all
def Tp(s:St)(r f:Nat)(w:AV)(L:List ae):Prop:=∃rest al',w=.sl r 0 L.length 1 No/\s.ce r=So (L.map .s++rest,f,al')
theorem Wb(hD:Ci c g caps M0 J del){f:Nat}(hc:st.ce r=So (l.map .s,f,al))(hr:r<st.next)(hf:f<st.next)(h1:1<=l.length)(hl:l.length<=1000000)(hJ:J st)(hJk:∀s s',J s->Kp [r] [f] s s'->J s')(hN:M0+3000000<=N):
  ∃st' w,(Tw c N).call 142 [.sl r 0 l.length 1 No,.f (.func g) [] caps] st=So (w,st')/\Tp st' r f w (kj del l)/\J st'/\Kp [r] [f] st st':=by
 cases N
 ·omega
 rename_i N;rw[dV rfl func142 rfl (Q0 rfl)];unfold aJ;have hv:∀X:List Nat,r∉X->f∉X->we st X (.sl r 0 l.length 1 No) l:=λX x1 x2=>.inr ⟨r,f,al,No,[],rfl,by rw[J6];exact hc,hr,hf,x1,x2⟩
 have⟨s0,n,q1,q2,q3,q4⟩:=Oj hD (hv [] (by simp) (by simp)) hl hJ (N:=N) (by omega);have K0:Kp [r] [f] st s0:=q3.sub (by simp) (by simp);rcases q4 with ⟨rfl,hno⟩|⟨i0,hi0,rfl,hd0,hb0⟩
 ·refine⟨s0,.sl r 0 l.length 1 No,?_,?_,q2,K0⟩
  ·simp[f142,q1]
  ·rw[Sh hno];exact⟨[],al,rfl,by rw[J6];exact q3.ce hc hr hf (by simp) (by simp)⟩
 ·have e1:¬((i0:Int) = -1):=by omega
  have e2:wr .i64 ((i0:Int)+1)=((i0+1:Nat):Int):=by rw[aP (by omega) (by omega)];rfl
  have hc0:=q3.ce hc hr hf (by simp) (by simp);have hk0:kj del (l.take (i0+1))=l.take i0:=by rw[<-Q8 hi0,AK,hd0,Sh hb0];simp
  have D0:FY del l r f J st s0 i0 (i0+1):=by
   refine⟨⟨[.s l[i0]],al,?_,by simp⟩,by rw[hk0,V8];omega,by omega,q2,K0⟩;rw[hc0,hk0];have e:l.map AV.s=(l.take i0).map AV.s++([AV.s l[i0]]++(l.drop (i0+1)).map AV.s):=by rw[List.singleton_append,<-X0 (f:=AV.s),<-List.map_append,<-J3 hi0,V1]
   rw[<-e]
  simp[f142,q1,e1,e2,ba];generalize hL:aQ _ _ _ _=L;obtain⟨t3,s3,rfl,⟨i3,z0,z5,zD⟩⟩:=cD hL 0 (l.length-(i0+1))
   (λp t s=>∃i,Tq (.sl r 0 l.length 1 No) (.f (.func g) [] caps) t i (i0+1+p)/\FY del l r f J st s i (i0+1+p))
   (λt s=>To del l r f J st t s) (by omega)
   ⟨i0,⟨by simp,by simp,by simp,by simp⟩,D0⟩
   (by
    rintro p t s hp ⟨i,⟨t0,t1,t5,t6⟩,⟨mid,al',hce,hml⟩,hlen,hlt,sJ,sK⟩;obtain⟨j,hj⟩:∃j,i0+1+p=j:=⟨_,rfl⟩;rw[hj]at t6 hce hml hlen hlt;have hjl:j<l.length:=by omega
    have e5:(j:Int)<(l.length:Int):=by omega
    have e7:wr .i64 ((j:Int)+1)=((j+1:Nat):Int):=by rw[aP (by omega) (by omega)];rfl
    have e8:wr .i64 ((i:Int)+1)=((i+1:Nat):Int):=by rw[aP (by omega) (by omega)];rfl
    have ln:=bg (P:=π) (st:=s) (v:=.sl r 0 l.length 1 No) underlying43 (n:=l.length) rfl rfl;have ix:=wH (P:=π) underlying43 mP rZ r 0 l.length j No hjl;have ix2:=wH (P:=π) underlying43 mP rZ r 0 l.length i No (by omega);rw[K8,V9]at ix ix2;have hrl:r<s.next:=Q2 hr sK.next;have hfl:f<s.next:=Q2 hf sK.next;have ld:rd s r j 1=So [.s l[j]]:=by rw[ai hce,uU _ _ _ (by simp;omega),Z8,Z4 (by simp;omega),Q6,Z8,Z4 (by simp;omega),Q6];simp only[Q3,hlen];rw[show j-i-mid.length=0 by omega,X4,J3 hjl];rfl
    have⟨s2,d1,d2,d3⟩:=hD N (by omega) s l[j] sJ;have hce2:=d3.ce hce hrl hfl (by simp) (by simp);have hdj:l.drop j=l[j]::l.drop (j+1):=J3 hjl;have htk:l.take (j+1)=l.take j++[l[j]]:=(Q8 hjl).symm;cases hd:del l[j] with
    |true=>
     rw[hd]at d1;simp[t0,t1,t6,ln,e5,e7,ix,ld,d1];refine⟨_,_,⟨rfl,rfl⟩,i,⟨by simp[t0],by simp[t1],by simp[t5],by simp;omega⟩,⟨mid++[.s l[j]],al',?_,by simp;omega⟩,?_,by omega,d2,sK.trans (d3.sub (by simp) (by simp))⟩
     ·rw[show i0+1+(p+1)=j+1 by omega,htk,AK,hd,hce2];simp;rw[J3 (by simpa using hjl)];simp
     ·rw[show i0+1+(p+1)=j+1 by omega,htk,AK,hd];simpa using hlen
    |false=>
     rw[hd]at d1;obtain⟨m0,mid',rfl⟩:∃m0 mid',mid=m0::mid':=by
      cases mid with
      |nil=>simp at hml;omega
      |cons m0 mid'=>exact⟨m0,mid',rfl⟩
     have hw:=c9 hce2 i [.s l[j]] (by simp;omega) rfl;have hov:aW ((kj del (l.take j)).map AV.s++(m0::mid'++(l.drop j).map AV.s)) i [.s l[j]]=(kj del (l.take j)).map AV.s++(.s l[j]::mid'++(l.drop j).map AV.s):=by rw[Bk,List.set_append_right _ _ (by simp[hlen])];simp[hlen]
     rw[hov]at hw;obtain⟨s4,hs4⟩:∃s4,s2.aG r ((kj del (l.take j)).map AV.s++(.s l[j]::mid'++(l.drop j).map AV.s)) f=s4:=⟨_,rfl⟩;have hce4:s4.ce r=So ((kj del (l.take j)).map AV.s++(.s l[j]::mid'++(l.drop j).map AV.s),f,[r]):=by rw[<-hs4];exact dA _ _ _
     have k4:Kp [r] [f] s2 s4:=by rw[<-hs4];exact .aG (by simp) (by simp)
     rw[hs4]at hw;simp[t0,t1,t5,t6,ln,e5,e7,e8,ix,ix2,ld,d1,bN mP rZ,hw];refine⟨_,_,⟨rfl,rfl⟩,i+1,⟨by simp[t0],by simp[t1],by simp,by simp;omega⟩,⟨mid'++[.s l[j]],[r],?_,by simp at hml|-;omega⟩,?_,by omega,hJk _ _ d2 k4,(sK.trans (d3.sub (by simp) (by simp))).trans k4⟩
     ·rw[show i0+1+(p+1)=j+1 by omega,htk,AK,hd,hce4];simp;rw[J3 (by simpa using hjl)];simp
     ·rw[show i0+1+(p+1)=j+1 by omega,htk,AK,hd];simp[hlen])
   (by rintro t s ⟨i,⟨t0,t1,t5,t6⟩,sD⟩;have ln:=bg (P:=π) (st:=s) (v:=.sl r 0 l.length 1 No) underlying43 (n:=l.length) rfl rfl;rw[show i0+1+(l.length-(i0+1))=l.length by omega]at t6 sD;simp[t0,t6,ln];exact⟨_,_,⟨rfl,rfl⟩,i,by simp[t0],by simp[t5],sD⟩)
  clear hL;have⟨⟨mid,al',hce,hml⟩,hlen,hlt,sJ,sK⟩:=zD;rw[Z0]at hce hlen;rw[V6]at hce;simp only[List.map_nil,J6]at hce;have hz:bt π 9=So [.s []]:=aeo;have hrep:∀m:Nat,(rep m [AV.s []]).length=m/\bH (rep m [AV.s []])=true:=by
   intro m;induction m with
   |zero=>exact⟨rfl,rfl⟩
   |succ m ih=>exact⟨by simp[rep,ih.1],by simp[rep,ih.2]⟩
  have hw:=c9 hce i3 (rep (l.length-i3) [AV.s []]) (by rw[(hrep _).1];simp;omega) (hrep _).2;obtain⟨s4,hs4⟩:∃s4,s3.aG r (aW ((kj del l).map AV.s++mid) i3 (rep (l.length-i3) [AV.s []])) f=s4:=⟨_,rfl⟩;have hce4:s4.ce r=So (aW ((kj del l).map AV.s++mid) i3 (rep (l.length-i3) [AV.s []]),f,[r]):=by rw[<-hs4];exact dA _ _ _
  have k4:Kp [r] [f] s3 s4:=by rw[<-hs4];exact .aG (by simp) (by simp)
  rw[hs4]at hw;have hcl:uI π s3 [43] [.sl r i3 (l.length-i3) 1 No]=So (.tu [],s4):=by
   show(match dO π 43 with|some e=>Hf π s3 e (.sl r i3 (l.length-i3) 1 No)|none=>No)=_
   rw[kg.el];show @Bool.rec (λ_=>aD) (x9 s3 r i3 (l.length-i3) (bt π 9)) (So (.tu [],s3)) (Nat.beq (l.length-i3) 0)=_
   rw[show Nat.beq (l.length-i3) 0=Ff by rw[bh];simp;omega,hz];show EC (wt s3 r i3 (rep (l.length-i3) [.s []]))=_
   rw[hw];rfl
  have hop:∀t:Tr AV,ah t (.tmp 38)=.sl r i3 (l.length-i3) 1 No->cO (Op.call {callee:=.builtin .clear,args:=#[.tmp 38],argTypes:=#[43]}) π (Tw c N) t s3=So (.tu [],s4):=λt h=>by
   show uI π s3 [43] [ah t (.tmp 38)]=_
   rw[h];exact hcl
  refine⟨s4,.sl r 0 i3 1 No,?_,?_,hJk _ _ sJ k4,sK.trans k4⟩
  ·simp[z0,z5,acm (show i3<=l.length by omega),ack (show i3<=l.length by omega),hop]
  ·refine⟨rep (l.length-i3) [AV.s []],[r],by rw[hlen],?_⟩;rw[hce4,mg _ _ _ (by rw[(hrep _).1];simp;omega),(hrep _).1];congr 2;rw[List.take_append_of_le_length (by simp[hlen]),List.take_of_length_le (by simp[hlen]),Z4 (by simp;omega),J6]
theorem Wd(hD:Ci c g caps M0 J del)(hv:we st [] w [])(hJ:J st)(hN:M0+3000000<=N):
  ∃st',(Tw c N).call 142 [w,.f (.func g) [] caps] st=So (w,st')/\J st'/\Kp [] [] st st':=by
 cases N
 ·omega
 rename_i N;rw[dV rfl func142 rfl (Q0 rfl)];unfold aJ;have⟨s0,n,q1,q2,q3,q4⟩:=Oj hD hv (by simp) hJ (N:=N) (by omega);rcases q4 with ⟨rfl,-⟩|⟨i0,hi0,-⟩
 ·refine⟨s0,?_,q2,q3⟩;simp[f142,q1]
 grind
theorem di.aco{l l' rest:List AV}{m:Nat}{k:Option Nat}(hc:st.ce r=So (l++rest,g,al))(hl:m*z=l.length)(hg:q g=Tt)(h:da q st l l')(hn:m≠0):di q st (.sl r 0 m z k) (.rs l' m z):=by have⟨d,h⟩:=h;refine⟨d+1,?_⟩;unfold fk;rw[if_neg (by simp[aE])];simp only[if_neg hn,Ha hc hg,X4,hl,List.take_left,h]
section
variable {X:List Nat}
theorem mD.fresh(h:mD st X mr gr kr Gf Kf)(hY:∀y∈Y,st.next<=y):mD st Y mr gr kr Gf Kf:=by have⟨c0,c1,c2,c3,c4,g,al,h1,h2,h3,h4,h5⟩:=h.at';exact⟨⟨c0,c1,c2,c3,c4,g,al,h1,h2,h3,λhh=>by have:=hY _ hh;omega,λhh=>by have:=hY _ hh;omega⟩,h.hG,h.hK,h.lt,λhh=>by have:=hY _ hh;have:=h.lt.1;omega,λhh=>by have:=hY _ hh;have:=h.lt.2;omega⟩
def yv(Gf:aK)(s:ae):Bool:=(Gf s).isSome
def FF(Gf:aK)(x:Ex):List ae:=kj (yv Gf) (vk x)
theorem NR{rp:Nat}:Ci c 144 [.p rp 0] 10 (λs=>uf s X rp [.p mr 0]/\mD s X mr gr kr Gf Kf) (yv Gf):=by
 intro M hM s y ⟨h1,h2⟩;obtain⟨N,rfl⟩:∃N',M=N'+1:=⟨M-1,by omega⟩;refine⟨s,?_,⟨h1,h2⟩,.refl _ _ _⟩;have⟨c0,c1,c2,c3,c4,hA⟩:=h2.at';have r0:rd s rp 0 1=So [.p mr 0]:=by rw[h1.rd];rfl
 have r5:rd s mr 5 1=So [.m gr]:=by rw[hA.rd];rfl
 have lk:=h2.hG.ti nR y;rw[vA,PR]at lk;rw[uP func144 rfl,dV rfl func144 rfl (Q0 rfl)];unfold aJ;simp[f144,r0,r5,lk,bf,aO,yv]
theorem Zv(hT:x.Ty)(hs:x.size<=1000000)(hd:x.depth<=4096)(hb:∀s∈jP x [],∀c∈s,c<256)(hM:mD st X mr gr kr Gf Kf)(hN:4*x.size+10000000000000000040<=N):
  ∃st' v,(Tw c N).call 98 [.p mr 0,.ag x.cells] st=So (v,st')/\cz v ((FF Gf x).map .s)/\(FF Gf x).length<=1000000/\Kp [] [] st st':=by
 cases N
 ·omega
 rename_i N;cases N
 ·omega
 rename_i N;have⟨fl,fle⟩:=XF (c:=c) x hT hs hd hb (N:=N) (by omega);have hle:(FF Gf x).length<=(vk x).length:=YF _ _;have fc:=λst:St=>XG (c:=c) (n:=N) (st:=st) (Ex.Aa hT) x.bp fl
 suffices h:∃v1 s1 v,aJ c (N+1) f98 (f98.body.getD .skip) [.p mr 0,.ag x.cells] st=So (v1,s1)/\Kp [] [] st s1/\Fz st.next s1 v1 v/\cz v ((FF Gf x).map .s) by have⟨v1,s1,v,h1,h2,h3,h4⟩:=h;exact⟨_,v,wq rfl rfl rfl rfl rfl (by decide) func98 rfl (Q0 rfl) h1 h3,h4,by omega,h2.shut (Q4 _)⟩
 unfold aJ;have k0:=Kp.aj (st:=st) [] [] [.p mr 0];have c0:=bq (st:=st) [.p mr 0];have n0:(st.aj [.p mr 0]).next=st.next+1:=rfl;obtain⟨s0,hs0⟩:∃s,st.aj [.p mr 0]=s:=⟨_,rfl⟩;rw[hs0]at k0 c0 n0;have k1:=Kp.aj (st:=s0) [] [] x.cells;have c1:=bq (st:=s0) x.cells;have n1:(s0.aj x.cells).next=s0.next+1:=rfl;obtain⟨s1,hs1⟩:∃s,s0.aj x.cells=s:=⟨_,rfl⟩;rw[hs1]at k1 c1 n1;have K1:=k0.trans k1;have c01:=k1.ce c0 (by omega) (by omega) (by simp) (by simp);have ld:loadAt π 47 s1 (.p s0.next 0)=So (.ag x.cells):=by rw[cu cM gT,aX,ai c1,eV,<-x.bp,gY];rfl
 have fc1:=fc s1;cases hfl:vk x with
 |nil=>
  rw[hfl]at fc1;have e0:FF Gf x=[]:=by unfold FF;rw[hfl];rfl
  have hM1:=(hM.keep K1 (by simp) (by simp)).fresh (Y:=[]) (by simp);have⟨s2,q1,q2,q3⟩:=Wd (c:=c) (st:=s1) (NR (X:=[]) (rp:=st.next)) (w:=.sn) (.inl ⟨⟨rfl,rfl,rfl,by simp⟩,rfl⟩) ⟨⟨st.next,_,c01,by omega,by omega,by simp,by simp⟩,hM1⟩ (N:=N+1) (by omega);rw[e0];refine⟨.sn,s2,.sn,?_,K1.trans q3,.pure rfl,.inl ⟨rfl,rfl⟩⟩;simp only[yU]at fc1;simp[f98,hs0,hs1,ld,fc1,q1]
 |cons y l=>
  rw[hfl]at fc1 fle;have k2:=Kp.aj (st:=s1) [] [] ((y::l).map .s);have c2:=bq (st:=s1) ((y::l).map .s);have n2:(s1.aj ((y::l).map .s)).next=s1.next+1:=rfl;have hro:yU (y::l) s1=(.sl s1.next 0 (y::l).length 1 No,s1.aj ((y::l).map .s)):=rfl;rw[hro]at fc1;obtain⟨s2,hs2⟩:∃s,s1.aj ((y::l).map .s)=s:=⟨_,rfl⟩;rw[hs2]at k2 c2 n2 fc1;have K2:=K1.trans k2;have c02:=k2.ce c01 (by omega) (by omega) (by simp) (by simp);have hM2:=(hM.keep K1 (by simp) (by simp)).fresh (Y:=[s1.next]) (by simp);have hM2:=hM2.keep k2 (by simp) (by simp);have⟨s3,w,q1,⟨rest,al,q2,q3⟩,q4,q5⟩:=Wb (c:=c) (st:=s2) (NR (X:=[s1.next]) (mr:=mr) (gr:=gr) (kr:=kr) (Gf:=Gf) (Kf:=Kf) (rp:=st.next)) c2 (by omega) (by omega) (by simp) (by simpa using fle) ⟨⟨st.next,_,c02,by omega,by omega,by simp;omega,by simp;omega⟩,hM2⟩ (λs s' hJ k=>⟨hJ.1.keep k (λ_ h=>h) (λ_ h=>h),hJ.2.keep k (λ_ h=>h) (λ_ h=>h)⟩) (N:=N+1) (by omega);have eF:kj (yv Gf) (y::l)=FF Gf x:=by unfold FF;rw[hfl]
  rw[eF]at q2 q3;have hK:Kp [] [] st s3:=ey K2 q5 (by simp;omega) (by simp;omega);have hrun:fN π f98.results.toList (ao (f98.body.getD .skip) ⟨π,Tw c (N+1),Ff,f98.ntmps,N+1⟩ (tmpsOf [.p mr 0,.ag x.cells] 0 .lf) st)=So (w,s3):=by simp[f98,hs0,hs1,ld,fc1];simp at q1;simp[q1]
  by_cases h0:(FF Gf x).length=0
  ·refine⟨w,s3,.rs [] 0 1,hrun,hK,?_,.inr ?_⟩
   ·rw[q2,h0];exact .rY
   ·rw[X5 h0];rfl
  ·refine⟨w,s3,.rs ((FF Gf x).map .s) (FF Gf x).length 1,hrun,hK,?_,.inr (by rw[Q3])⟩;rw[q2];exact di.aco q3 (by simp) (Q5 (by omega)) (.pure (kR _)) h0
end
structure gD(s:St)(lo mr gr kr:Nat)(cv gv:AV)(Gf Kf:aK)(m:Ms)(F:List Nat):Prop where
 row:∃ov bv go gb al,s.ce mr=So ([cv,ov,bv,gv,.i .i64 0,.m gr,.m kr],mr,al)/\bD s lo 8 ov m.ops.length (m.ops.flatMap bC.cells) go/\bD s lo 4 bv m.bos.length (m.bos.flatMap dS.cells) gb/\F=go.toList++gb.toList/\(∀x,go=So x->gb≠So x)
 hG:bZ s gr (fQ Gf)
 hK:bZ s kr (fQ Kf)
 lt:(mr<lo/\gr<lo/\kr<lo)/\lo<=s.next
 ne:gr≠mr/\kr≠mr
section
variable {X:List Nat}{gv:AV}
theorem gD.gB(h:gD s lo mr gr kr cv gv Gf Kf m F):∀y∈F,lo<=y/\y<s.next:=by
 obtain⟨ov,bv,go,gb,al,h1,h2,h3,rfl,-⟩:=h.row;intro y hy;rcases J8.1 hy with hy|hy
 ·exact h2.jd y (by simpa using hy)
 ·exact h3.jd y (by simpa using hy)
theorem gD.keep{A B:List Nat}(h:gD s lo mr gr kr cv gv Gf Kf m F)(k:Kp A B s s')(hA:∀y∈A,s.next<=y)(hB:∀y∈B,s.next<=y\/(lo<=y/\y∉F))(_:∀y∈A,s.next<=y):gD s' lo mr gr kr cv gv Gf Kf m F:=by
 have⟨⟨l1,l2,l3⟩,l4⟩:=h.lt;obtain⟨ov,bv,go,gb,al,h1,h2,h3,rfl,h5⟩:=h.row;have k0:Kp [] B s s':=⟨k.next,λr hr _=>k.get r hr λhh=>by have:=hA r hh;omega,k.live⟩;have hb:∀{z n:Nat}{v:AV}{cs:List AV}{g:Option Nat},bD s lo z v n cs g->(∀y∈g.toList,y∈go.toList++gb.toList)->bD s' lo z v n cs g:=λ{z n v cs g} ho hg=>by
  rcases ho with h|h|⟨r,f,al,rfl,rfl,hc,hl,h0,h1,h2,h3,h4⟩
  ·exact .inl h
  ·exact .inr (.inl h)
  ·refine .inr (.inr ⟨r,f,al,rfl,rfl,k0.ce hc h3 h4 (by simp) (λhh=>?_),hl,h0,h1,h2,Q2 h3 k.next,Q2 h4 k.next⟩);rcases hB _ hh with h|⟨-,h⟩
   ·omega
   ·exact h (hg f (by simp))
 have nB:mr∉B:=λhh=>by rcases hB _ hh with h|⟨h,-⟩<;>omega
 exact⟨⟨ov,bv,go,gb,al,k0.ce h1 (by omega) (by omega) (by simp) nB,hb h2 λy hy=>J4 _ hy,hb h3 λy hy=>J1 _ hy,rfl,h5⟩,h.hG.keep k0 (by omega) (by simp),h.hK.keep k0 (by omega) (by simp),⟨⟨l1,l2,l3⟩,Z7 l4 k.next⟩,h.ne⟩
theorem gD.new(h:gD s lo mr gr kr cv gv Gf Kf m F)(k:Kp [] [] s s'):gD s' lo mr gr kr cv gv Gf Kf m F:=h.keep k (by simp) (by simp) (by simp)
theorem gD.ic(h:gD s lo mr gr kr cv gv Gf Kf m F)(hX:∀x∈X,x≠mr/\x≠gr/\x≠kr):mD s X mr gr kr Gf Kf:=by have⟨⟨l1,l2,l3⟩,l4⟩:=h.lt;obtain⟨ov,bv,go,gb,al,h1,h2,h3,rfl,h5⟩:=h.row;exact⟨⟨_,_,_,_,_,mr,al,h1,by omega,by omega,λhh=>(hX _ hh).1 rfl,λhh=>(hX _ hh).1 rfl⟩,h.hG,h.hK,⟨by omega,by omega⟩,⟨λhh=>(hX _ hh).2.1 rfl,λhh=>(hX _ hh).2.2 rfl⟩⟩
theorem abv(h:gD s lo mr gr kr cv gv Gf Kf m F)(hm:m.ops.length<=5000000)(_:10<=N):
  ∃s' F',aJ c N f146 (f146.body.getD .skip) [.p mr 0,.ag o.cells] s=So (iN m.ops.length,s')/\gD s' lo mr gr kr cv gv Gf Kf ⟨m.ops++[o],m.bos⟩ F'/\Kv [mr] F F' s s':=by
 have h0:=h;have⟨⟨l1,l2,l3⟩,l4⟩:=h.lt;unfold aJ;have k0:=Kp.aj (st:=s) [] [] o.cells;have c0:=bq (st:=s) o.cells;have n0:(s.aj o.cells).next=s.next+1:=rfl;obtain⟨s0,hs0⟩:∃t,s.aj o.cells=t:=⟨_,rfl⟩;rw[hs0]at k0 c0 n0;have h:=h.new k0;obtain⟨ov,bv,go,gb,al,h1,h2,h3,rfl,h5⟩:=h.row;have ol:o.cells.length=8:=rfl;have ld:loadAt π 87 s0 (.p s.next 0)=So (.ag o.cells):=by rw[cu oL wh,o9,ai c0];rfl
 have bo:=λ(t:Tr AV) (h:ah t (.tmp 11)=.ag o.cells)=>ef (S:=Tw c N) (t:=t) (st:=s0) NU (x:=.tmp 11) (cs:=o.cells) (by rw[h];exact gh _) rfl
 have⟨v',g',s4,w1,w2,w3,w4⟩:=h2.iW NU (new:=o.cells) o.sc rfl (by omega) (by omega);have gl:∀x∈go.toList++gb.toList,lo<=x/\x<s.next:=h0.gB;have glo:∀x∈go.toList,lo<=x:=λx hx=>(gl x (J4 _ hx)).1
 have n4:=w3.next;have h14:=w3.ce h1 (by omega) (by omega) (by simp) (λhh=>by have:=glo _ hh;omega);have hw:=c9 h14 1 [v'] (by simp) (by simp[w2.sc]);have ew:aW [cv,ov,bv,gv,.i .i64 0,.m gr,.m kr] 1 [v']=[cv,v',bv,gv,.i .i64 0,.m gr,.m kr]:=rfl;rw[ew]at hw;have k5:Kp [mr] [mr] s4 (s4.aG mr [cv,v',bv,gv,.i .i64 0,.m gr,.m kr] mr):=.aG (by simp) (by simp);have c5:=dA mr [cv,v',bv,gv,.i .i64 0,.m gr,.m kr] mr (st:=s4);obtain⟨s5,hs5⟩:∃t,s4.aG mr [cv,v',bv,gv,.i .i64 0,.m gr,.m kr] mr=t:=⟨_,rfl⟩;rw[hs5]at hw k5 c5;have sto:=bN Yn ac4 s4 mr 1 v' w2.cells;have n5:=k5.next;have r1:rd s0 mr 1 1=So [ov]:=by rw[ai h1];rfl
 have r5:rd s5 mr 1 1=So [v']:=by rw[ai c5];rfl
 have ln:=λst:St=>bg (P:=π) (st:=st) underlying31 w2.len.1 w2.len.2
 have e1:wr .i64 (((m.ops.length+1:Nat):Int)-1)=(m.ops.length:Int):=by rw[aP (by omega) (by omega)];omega
 have hg':∀y∈g'.toList,y∈go.toList\/s.next<=y:=λy hy=>by
  rcases w4 with rfl|⟨x,rfl,hx⟩
  ·exact .inl hy
  ·have:y=x:=by simpa using hy
   right;omega
 refine⟨s5,g'.toList++gb.toList,?_,⟨⟨v',bv,g',gb,[mr],c5,?_,?_,rfl,λx hx hg=>?_⟩,?_,?_,⟨⟨l1,l2,l3⟩,by omega⟩,h.ne⟩,?_,λy hy=>?_⟩
 ·simp[f146,hs0,aY];rw[bP (by kernel_rfl)];simp at ln e1;simp[r1,ld,bo,w1,sto,hw,r5,ln,e1,bf,aO,iN]
 ·have:=w2.keep k5 (by simp;omega) (by simp;omega);rw[Z3,J5];simpa using this
 ·exact(h3.keep w3 (by simp) (λx hx=>.inr (λe=>h5 x (by simpa using hx) e))).keep k5 (by simp;omega) (by simp;omega)
 ·rcases w4 with rfl|⟨z,rfl,hz⟩
  ·exact h5 x hx hg
  ·have e:z=x:=by simpa using hx
   have:=(gl x (J1 _ (by rw[hg];simp))).2;omega
 ·exact(h.hG.keep w3 (by omega) (by simp)).keep k5 (by omega) (by simp;exact h.ne.1)
 ·exact(h.hK.keep w3 (by omega) (by simp)).keep k5 (by omega) (by simp;exact h.ne.2)
 ·exact((k0.sub (by simp) (by simp)).trans (w3.sub (by simp) (λx hx=>by simp at hx|-;exact .inr (.inl hx)))).trans (k5.sub (by simp) (by simp))
 ·rcases J8.1 hy with hy|hy
  ·rcases hg' y hy with h|h
   ·exact .inl (J4 _ h)
   ·exact .inr h
  ·exact .inl (J1 _ hy)
theorem EW{l:List AV}(h:gD s lo mr gr kr cv gv Gf Kf m F)(hl:da (lJ 146 [.p mr 0,.ag l] s) s l o.cells)(hY:∀g,lJ 146 [.p mr 0,.ag l] s g=Tt->g∈Y)(hYF:∀y∈Y,lo<=y/\y∉F)(hm:m.ops.length<=5000000)(hN:20<=N):
  ∃s' F',(Tw c N).call 146 [.p mr 0,.ag l] s=So (iN m.ops.length,s')/\gD s' lo mr gr kr cv gv Gf Kf ⟨m.ops++[o],m.bos⟩ F'/\Kv (mr::Y) F F' s s':=by
 cases N
 ·omega
 rename_i N;have⟨⟨l1,l2,l3⟩,l4⟩:=h.lt;have kq:Kp [] Y s (s.fT (lJ 146 [.p mr 0,.ag l] s)):=Kp.acg λg _ hg=>hY g hg
 have h1:=h.keep kq (by simp) (λy hy=>.inr (hYF y hy)) (by simp);have hx:da (lJ 146 [.p mr 0,.ag l] s) s [.p mr 0,.ag l] [.p mr 0,.ag o.cells]:=.cons (.Xi λl' g al hc=>by obtain⟨ov,bv,go,gb,al',q1,-⟩:=h.row;rw[q1]at hc;cases hc;rw[Bool.eq_false_iff];intro hh;have:=(hYF _ (hY _ hh)).1;omega) (.cons (.ag hl) .nil);have⟨s',F',q1,q2,q3,q4⟩:=abv (c:=c) (N:=N) (o:=o) h1 hm (by omega);exact⟨s',F',(UL hx func146 rfl (Q0 rfl)).trans q1,q2,(kq.sub (by simp) (by simp;intro y hy;exact .inr (.inl hy))).trans (q3.sub (λy hy=>by simp at hy|-;rcases hy with h|h<;>simp[h]) (λy hy=>by simp at hy|-;rcases hy with h|h<;>simp[h])),q4⟩
end
structure dT where
 lo:Nat
 mr:Nat
 gr:Nat
 kr:Nat
 cv:AV
 gv:AV
 Gf:aK
 Kf:aK
abbrev dU(C:dT)(s:St)(m:Ms)(F:List Nat):Prop:=gD s C.lo C.mr C.gr C.kr C.cv C.gv C.Gf C.Kf m F
section
variable {C:dT}
theorem gD.DZ{B:List Nat}(h:dU C s m F)(k:Kp A B s s')(hA:∀y∈A,s.next<=y\/(C.lo<=y/\∀l g al,s.ce y=So (l,g,al)->g∉F))(hB:∀y∈B,s.next<=y\/(C.lo<=y/\y∉F)):dU C s' m F:=by
 have⟨⟨l1,l2,l3⟩,l4⟩:=h.lt;obtain⟨ov,bv,go,gb,al,h1,h2,h3,rfl,h5⟩:=h.row;have hb:∀{z n:Nat}{v:AV}{cs:List AV}{g:Option Nat},bD s C.lo z v n cs g->(∀y∈g.toList,y∈go.toList++gb.toList)->bD s' C.lo z v n cs g:=λ{z n v cs g} ho hg=>by
  rcases ho with h|h|⟨r,f,al,rfl,rfl,hc,hl,h0,h1,h2,h3,h4⟩
  ·exact .inl h
  ·exact .inr (.inl h)
  ·refine .inr (.inr ⟨r,f,al,rfl,rfl,k.ce hc h3 h4 (λhh=>?_) (λhh=>?_),hl,h0,h1,h2,Q2 h3 k.next,Q2 h4 k.next⟩)
   ·rcases hA _ hh with h|⟨-,h⟩
    ·omega
    ·exact h _ _ _ hc (hg f (by simp))
   ·rcases hB _ hh with h|⟨-,h⟩
    ·omega
    ·exact h (hg f (by simp))
 have nB:C.mr∉B:=λhh=>by rcases hB _ hh with h|⟨h,-⟩<;>omega
 have nA:∀y,y<C.lo->y∉A:=λy hy hh=>by rcases hA _ hh with h|⟨h,-⟩<;>omega
 exact⟨⟨ov,bv,go,gb,al,k.ce h1 (by omega) (by omega) (nA _ l1) nB,hb h2 λy hy=>J4 _ hy,hb h3 λy hy=>J1 _ hy,rfl,h5⟩,h.hG.keep k (by omega) (nA _ l2),h.hK.keep k (by omega) (nA _ l3),⟨⟨l1,l2,l3⟩,Z7 l4 k.next⟩,h.ne⟩
theorem gD.T5(h:dU C s m F)(b:dS)(hm:m.bos.length<=5000000):
  ∃bv v' s2 s3 F',rd s C.mr 2 1=So [bv]/\fD π (s.aj b.cells) [32,32] [bv,.sl s.next 0 1 4 (So 1)]=So (v',s2)/\v'.cells=So [v']/\wt s2 C.mr 2 [v']=So s3/\rd s3 C.mr 2 1=So [v']/\(lenOf v'=So (m.bos.length+1)/\kO v'=Ff)/\dU C s3 ⟨m.ops,m.bos++[b]⟩ F'/\Kv [C.mr] F F' s s3:=by
 have h0:=h;have⟨⟨l1,l2,l3⟩,l4⟩:=h.lt;obtain⟨ov,bv,go,gb,al,h1,h2,h3,rfl,h5⟩:=h.row;have⟨v',g',s4,w1,w2,w3,w4⟩:=h3.iW If (new:=b.cells) b.sc rfl (by omega) (by omega);have gl:∀x∈go.toList++gb.toList,C.lo<=x/\x<s.next:=h0.gB;have glo:∀x∈gb.toList,C.lo<=x:=λx hx=>(gl x (J1 _ hx)).1
 have n4:=w3.next;have h14:=w3.ce h1 (by omega) (by omega) (by simp) (λhh=>by have:=glo _ hh;omega);have hw:=c9 h14 2 [v'] (by simp) (by simp[w2.sc]);have ew:aW [C.cv,ov,bv,C.gv,.i .i64 0,.m C.gr,.m C.kr] 2 [v']=[C.cv,ov,v',C.gv,.i .i64 0,.m C.gr,.m C.kr]:=rfl;rw[ew]at hw;have k5:Kp [C.mr] [C.mr] s4 (s4.aG C.mr [C.cv,ov,v',C.gv,.i .i64 0,.m C.gr,.m C.kr] C.mr):=.aG (by simp) (by simp);have c5:=dA C.mr [C.cv,ov,v',C.gv,.i .i64 0,.m C.gr,.m C.kr] C.mr (st:=s4);obtain⟨s5,hs5⟩:∃t,s4.aG C.mr [C.cv,ov,v',C.gv,.i .i64 0,.m C.gr,.m C.kr] C.mr=t:=⟨_,rfl⟩;rw[hs5]at hw k5 c5;have n5:=k5.next;have hg':∀y∈g'.toList,y∈gb.toList\/s.next<=y:=λy hy=>by
  rcases w4 with rfl|⟨x,rfl,hx⟩
  ·exact .inl hy
  ·have:y=x:=by simpa using hy
   right;omega
 refine⟨bv,v',s4,s5,go.toList++g'.toList,by rw[ai h1];rfl,w1,w2.cells,hw,by rw[ai c5];rfl,w2.len,⟨⟨ov,v',go,g',[C.mr],c5,?_,?_,rfl,λx hx hg=>?_⟩,?_,?_,⟨⟨l1,l2,l3⟩,by omega⟩,h.ne⟩,?_,λy hy=>?_⟩
 ·exact(h2.keep w3 (by simp) (λx hx=>.inr (λe=>h5 x e (by simpa using hx)))).keep k5 (by simp;omega) (by simp;omega)
 ·have:=w2.keep k5 (by simp;omega) (by simp;omega);rw[Z3,J5];simpa using this
 ·rcases w4 with rfl|⟨z,rfl,hz⟩
  ·exact h5 x hx hg
  ·have e:z=x:=by simpa using hg
   have:=(gl x (J4 _ (by rw[hx];simp))).2;omega
 ·exact(h.hG.keep w3 (by omega) (by simp)).keep k5 (by omega) (by simp;exact h.ne.1)
 ·exact(h.hK.keep w3 (by omega) (by simp)).keep k5 (by omega) (by simp;exact h.ne.2)
 ·exact(w3.sub (by simp) (λx hx=>by simp at hx|-;exact .inr (.inr hx))).trans (k5.sub (by simp) (by simp))
 ·rcases J8.1 hy with hy|hy
  ·exact .inl (J4 _ hy)
  ·rcases hg' y hy with h|h
   ·exact .inl (J1 _ h)
   ·exact .inr h
structure Cx(C:dT)(s:St)(m:Ms)(F:List Nat)(br n:Nat)(sv:AV)(fs:List aK):Prop where
 mx:dU C s m F
 bo:kE s br n sv
 sc:gG s ([C.mr,br]++F) sv fs
 lt:C.lo<=br/\br<s.next/\br∉F
theorem Cx.new(h:Cx C s m F br n sv fs)(k:Kp [] [] s s'):Cx C s' m F br n sv fs:=by have⟨al,hb⟩:=h.bo;exact⟨h.mx.new k,⟨al,k.ce hb h.lt.2.1 h.lt.2.1 (by simp) (by simp)⟩,h.sc.keep k (by simp) (by simp),h.lt.1,Q2 h.lt.2.1 k.next,h.lt.2.2⟩
theorem Cx.ic(h:Cx C s m F br n sv fs):mD s [] C.mr C.gr C.kr C.Gf C.Kf:=h.mx.ic (by simp)
theorem Cx.wx(h:Cx C s m F br n sv fs):uh s [] (.p br 0) fs:=by have⟨al,hb⟩:=h.bo;exact .inr ⟨br,_,sv,rfl,⟨br,al,hb,h.lt.2.1,h.lt.2.1,by simp,by simp⟩,h.sc.sub (by simp)⟩
mutual
def xS:Ex->Prop
 |.mk k nm num ps b a l=>(∀s∈jP (.mk k nm num ps b a l) [],∀c∈s,c<256)/\qx b/\qx a/\qx l
def qx:aa->Prop
 |.nil _=>True
 |.cons _ x l=>xS x/\qx l
end
theorem qx.list:∀{l:aa},qx l->∀p∈l.list,xS p.2
 |.nil _,_,p,hp=>by simp[aa.list]at hp
 |.cons q x l,h,p,hp=>by
  simp only[qx]at h;rcases Q9.1 hp with rfl|hp
  ·exact h.1
  ·exact qx.list h.2 p hp
structure eQ(x:Ex):Prop where
 ty:x.Ty
 wd:pE strF x
 fb:xS x
 dp:x.depth<=4096
theorem xS.self:∀{x:Ex},xS x->∀s∈jP x [],∀c∈s,c<256
 |.mk ..,h=>h.1
theorem eQ.arg{l:aa}(h:eQ (.mk k nm num ps b a l)):∀p∈a.list,eQ p.2:=λp hp=>by have h1:=h.ty;have h4:=h.dp;simp only[Ex.Ty]at h1;simp only[Ex.depth]at h4;have:=aa.tc hp;exact⟨(aa.dC h1.2.2.2.1 p hp).2,h.wd.2.2.1.list p hp,h.fb.2.2.1.list p hp,by omega⟩
theorem eQ.bind{l:aa}(h:eQ (.mk k nm num ps b a l)):∀p∈b.list,eQ p.2:=λp hp=>by have h1:=h.ty;have h4:=h.dp;simp only[Ex.Ty]at h1;simp only[Ex.depth]at h4;have:=aa.tc hp;exact⟨(aa.dC h1.2.2.1 p hp).2,h.wd.2.1.list p hp,h.fb.2.1.list p hp,by omega⟩
theorem eQ.alt{l:aa}(h:eQ (.mk k nm num ps b a l)):∀p∈l.list,eQ p.2/\(aM p).vs.length<=32:=λp hp=>by have h1:=h.ty;have h4:=h.dp;simp only[Ex.Ty]at h1;simp only[Ex.depth]at h4;have:=aa.tc hp;have h2:=h.wd.2.2.2.list p hp;exact⟨⟨(aa.dC h1.2.2.2.2 p hp).2,h2.2,h.fb.2.2.2.list p hp,by omega⟩,h2.1⟩
structure Bd(x:Ex)(m:Ms)(n d N:Nat):Prop where
 ops:m.ops.length+x.size<=4000000
 bos:m.bos.length+2*x.size<=4000000
 n:n+80*x.size<=500000000
 d:d+x.size<=3000000
 N:10*x.size+20000000000000000000<=N
abbrev cg(C:dT)(x:Ex)(fs:List aK)(n:Nat)(m:Ms):Nat×Nat×Ms:=cU (FF C.Gf) (ax C.Gf) (ax C.Kf) strF x (aS fs) n m
def jF(c:Option Self)(x:Ex):Prop:=∀(C:dT) (st:St) (m:Ms) (F:List Nat) (br n:Nat) (sv:AV) (fs:List aK) (N:Nat),Cx C st m F br n sv fs->Bd x m n fs.length N->
 ∃s' F',(Tw c N).call 100 [.p C.mr 0,.ag x.cells,.p br 0] st=So (iN (cg C x fs n m).1,s')/\Cx C s' (cg C x fs n m).2.2 F' br (cg C x fs n m).2.1 sv fs/\Kv [C.mr,br] F F' st s'
def fE:Ex->Ex
 |.mk k nm num ps b a l=>if k=5 then(match a with|.cons _ x _=>x|.nil _=>.mk k nm num ps b a l) else .mk k nm num ps b a l
def tk:Ex->List ae
 |.mk k _ _ ps _ _ _=>if k=5 then aL ps else[]
abbrev fZ(C:dT)(x:Ex)(m:Ms):Nat×Ms:=lu (FF C.Gf x) (tk x) (cU (FF C.Gf) (ax C.Gf) (ax C.Kf) strF (fE x)) m
def pk(c:Option Self)(x:Ex):Prop:=∀(C:dT) (st:St) (m:Ms) (F:List Nat) (N:Nat),dU C st m F->x.size<=1000000->m.ops.length+(fE x).size<=4000000->m.bos.length+2*(fE x).size<=4000000->10*(fE x).size+20000000000000000005<=N->
 ∃s' F' v,(Tw c N).call 59 [.p C.mr 0,.ag x.cells] st=So (.tu [iN (fZ C x m).1,v],s')/\cz v ((FF C.Gf x).map .s)/\(FF C.Gf x).length<=1000000/\dU C s' (fZ C x m).2 F'/\Kv [C.mr] F F' st s'
end
section
variable {C:dT}
theorem OX:aS []=λ_=>none:=by rfl
theorem OY(f:aK):aS [f]=f:=by funext s;unfold aS;cases f s<;>rfl
theorem abl{l:aa}(h:Ex.Ty (.mk k nm num ps b a l)):cz ps ((aL ps).map .s):=by exact h.2.1.sl.1
theorem dJ(n:Nat):iN n=.i .i64 (n:Int):=rfl
theorem Md{y:Ex}(hy:pE strF y)(he:jF c y)(h:Cx C s m F br n sv fs)(hb:Bd y m n fs.length N){a b:Nat}{R:Nat×Nat×Ms}(hR:cg C y fs n m=R):
  ∃s7 F7 bv v' s8 s9 F9,(Tw c N).call 100 [.p C.mr 0,.ag y.cells,.p br 0] s=So (iN R.1,s7)/\Kv [C.mr,br] F F7 s s7/\rd s7 br 0 1=So [iN R.2.1] /\
   rd s7 C.mr 2 1=So [bv]/\fD π (s7.aj [iN a,iN b,iN R.2.1,iN R.1]) [32,32] [bv,.sl s7.next 0 1 4 (So 1)]=So (v',s8)/\v'.cells=So [v']/\wt s8 C.mr 2 [v']=So s9/\rd s9 C.mr 2 1=So [v']/\(lenOf v'=So (R.2.2.bos.length+1)/\kO v'=Ff)/\
   dU C s9 ⟨R.2.2.ops,R.2.2.bos++[⟨a,b,R.2.1,R.1⟩]⟩ F9/\Kv [C.mr] F7 F9 s7 s9/\R.2.2.bos.length<=4000000:=by
 subst hR;have⟨s7,F7,p1,p2,p3⟩:=he C s m F br n sv fs N h hb;obtain⟨⟨g1,g2,g3⟩,-⟩:=mU (F:=FF C.Gf) (G:=ax C.Gf) (K:=ax C.Kf) y hy (aS fs) n m;have hbb:=hb.bos;have g2':(cg C y fs n m).2.2.bos.length<=m.bos.length+2*y.size:=g2;have⟨bv,v',s8,s9,F9,a1,a2,a3,a4,a5,a6,a7,a8⟩:=gD.T5 p2.mx ⟨a,b,(cg C y fs n m).2.1,(cg C y fs n m).1⟩ (by omega);have⟨al,hbo⟩:=p2.bo;exact⟨s7,F7,bv,v',s8,s9,F9,p1,p3,by rw[ai hbo];rfl,a1,a2,a3,a4,a5,a6,a7,a8,by omega⟩
theorem Fl{X:List Nat}{s0:St}{up:AV}{f:aK}(h:gG s X up fs)(hX:∀y∈X,y<s0.next)(h1:s.ce r=So ([.m g,up],r,al))(h2:s0.next<=r/\r<s.next)(h3:s0.next<=g/\g<s.next)(h4:bZ s g (fQ f)):gG s X (.p r 0) (f::fs):=
 have hn:∀y,s0.next<=y->y∉X:=λy hy hh=>by grind
 ⟨r,r,al,g,up,rfl,h1,⟨h2.2,h2.2,h3.2⟩,⟨hn _ h2.1,hn _ h2.1,hn _ h3.1⟩,h4,h⟩
theorem JM{X Y:List Nat}(hY:∀y∈Y,s.next<=y):∀{fs:List aK}{v:AV},gG s X v fs->gG s (X++Y) v fs
 |[],_,h=>h
 |f::fs,_,⟨r,g,al,m,up,h1,h2,h3,⟨h6,h7,h8⟩,h9,h10⟩=>by
  have key:∀z,z<s.next->z∉X->z∉X++Y:=λz hz hn hh=>by grind
  exact⟨r,g,al,m,up,h1,h2,h3,⟨key _ h3.1 h6,key _ h3.2.1 h7,key _ h3.2.2 h8⟩,h9,JM hY h10⟩
theorem GQ(hx:eQ x)(he:jF c (fE x)):pk c x:=by
 intro C st m F N h hz h1 h2 hN;cases N
 ·omega
 rename_i N;have hsz:=x.size_pos;rw[dV rfl func59 rfl (Q0 rfl)];unfold aJ;have kx:=Kp.aj (st:=st) [] [] x.cells;have cx:=bq (st:=st) x.cells;have nx:(st.aj x.cells).next=st.next+1:=rfl;obtain⟨s0,hs0⟩:∃t,st.aj x.cells=t:=⟨_,rfl⟩;rw[hs0]at kx cx nx;obtain⟨rb,hrb⟩:∃r,st.next=r:=⟨_,rfl⟩;rw[hrb]at cx nx;have ld0:loadAt π 47 s0 (.p rb 0)=So (.ag x.cells):=by rw[cu cM gT,aX,ai cx,eV,<-x.bp,gY];rfl
 have⟨s1,v,q1,q2,q3,q4⟩:=Zv (c:=c) (st:=s0) (x:=x) hx.ty hz hx.dp hx.fb.self ((h.new kx).ic (X:=[]) (by simp)) (N:=N) (by omega);obtain⟨fr,hfr⟩:∃l,FF C.Gf x=l:=⟨_,rfl⟩;rw[hfr]at q2 q3|-;have c1:=q4.ce cx (by omega) (by omega) (by simp) (by simp);have k2:=Kp.aj (st:=s1) [] [] [.i .i64 0,.pn];have c2:=bq (st:=s1) [.i .i64 0,.pn];have n2:(s1.aj [.i .i64 0,.pn]).next=s1.next+1:=rfl;obtain⟨s2,hs2⟩:∃t,s1.aj [.i .i64 0,.pn]=t:=⟨_,rfl⟩;rw[hs2]at k2 c2 n2;have n01:=q4.next;have c2x:=k2.ce c1 (by omega) (by omega) (by simp) (by simp);obtain⟨br,hbr⟩:∃r,s1.next=r:=⟨_,rfl⟩;rw[hbr]at c2 n2;have⟨s3,rs,rm,w1,w2,w3,w4,w5,w6,w7⟩:=IC (c:=c) (st:=s2) (v:=v) (br:=br) (n:=0) (sv:=.pn) q2 q3 (by omega) ⟨_,c2⟩ (by omega) (by simp) (N:=N) (by omega);have c3x:=w5.ce c2x (by omega) (by omega) (by simp;omega) (by simp;omega);have n3:=w5.next;have⟨s4,u1,u2,u3,u4⟩:=bJ (s:=s3) (z:=vT) (cells:=x.cells) (by rw[Ex.bp];rfl) (Ex.eU hx.ty.wf);have sto:=aC cM aX (s3.aj vT) s3.next 0 x.cells x.bp;have ld3:loadAt π 47 s3 (.p rb 0)=So (.ag x.cells):=by rw[cu cM gT,aX,ai c3x,eV,<-x.bp,gY];rfl
 have K4:Kp [] [] st s4:=ey (ey ((kx.trans q4).trans k2) w5 (by simp;omega) (by simp;omega)) u3 (by simp) (by simp);have hF:=h.gB;have⟨⟨l1,l2,l3⟩,l4⟩:=h.lt;have k01:=kx.next;have hX:∀y∈[C.mr,br]++F,y<s2.next:=λy hy=>by
  simp only[J9,Q6,Q9]at hy;rcases hy with rfl|rfl|hy
  ·omega
  ·omega
  ·have:=hF y hy;omega
 have n4:=u3.next;have S3:gG s3 ([C.mr,br]++F) (.p rs 0) [aZ (λ_=>No) fr 0]:=Fl (s0:=s2) (fs:=[]) rfl hX w3 w6 w7 w4;rw[K8]at w2;have⟨al3,w2⟩:=w2;have b4:kE s4 br fr.length (.p rs 0):=⟨al3,u3.ce w2 (by omega) (by omega) (by simp) (by simp)⟩;have C4:Cx C s4 m F br fr.length (.p rs 0) [aZ (λ_=>No) fr 0]:=⟨h.new K4,b4,S3.keep u3 (by simp) (by simp),by omega,by omega,λhh=>by have:=hF _ hh;omega⟩;have lq:=λst:St=>q2.sLen (st:=st) eL
 have⟨k,nm,num,ps,b,a,l⟩:=x;have psN:=abl hx.ty;obtain⟨-,wd32,-,wdp⟩:=hx.wd.1;obtain⟨xc,hxc⟩:∃y,Ex.cells (.mk k nm num ps b a l)=y:=⟨_,rfl⟩;have rk:∀t:St,t.ce rb=So (xc,rb,[rb])->rd t rb 0 1=So [.i .i64 k]/\rd t rb 3 1=So [ps]:=λt ht=>by constructor<;>(rw[ai ht,<-hxc];rfl)
 have c4x:=u3.ce c3x (by omega) (by omega) (by simp) (by simp);rw[hxc]at hs0 ld0 q1 u1 u2 sto ld3 c4x|-;have⟨rk1,rk2⟩:=rk s4 c4x;have xl:xc.length=7:=by rw[<-hxc];exact Ex.bp _
 by_cases hk:k=5
 ·obtain⟨hd,-⟩:=hx.wd.1;subst hk;have hx':=hx;cases a with
  |nil f=>have:=hd (.inl rfl);simp[aa.len]at this
  |cons p0 x0 a=>
  have ox0:eQ x0:=hx.arg (p0,x0) (by simp[aa.list]);have eI:fE (.mk 5 nm num ps b (.cons p0 x0 a) l)=x0:=by simp[fE]
  have eP:tk (.mk 5 nm num ps b (.cons p0 x0 a) l)=aL ps:=by simp[tk]
  rw[eI]at he h1 h2 hN;have z0s:x0.size<=1000000:=by simp only[Ex.size,aa.size]at hz;omega
  have aT:aa.Ty (.cons p0 x0 a) 0:=by have:=hx.ty;simp only[Ex.Ty]at this;exact this.2.2.2.1
  have⟨ar,ix⟩:=(wm aT).at rX (k:=0) (by simp[aa.list]);simp only[aa.list,X0,List.getElem_cons_zero]at ix;have lda:=λst:St=>ei cM gT aX (st:=st) (r:=ar) x0.bp
  have rk3:∀t:St,t.ce rb=So (xc,rb,[rb])->rd t rb 5 1=So [aa.slice (.cons p0 x0 a) 7]:=λt ht=>by rw[ai ht,<-hxc];rfl
  obtain⟨av,hav⟩:∃v,aa.slice (.cons p0 x0 a) 7=v:=⟨_,rfl⟩;rw[hav]at ix;have ix:indexAddr π 44 av (.i .i64 0)=So (.rp (x0.cells++ar)):=ix;simp only[hav]at rk3;have⟨s5,rs2,rm2,y1,y2,y3,y4,y5,y6,y7⟩:=IC (c:=c) (st:=s4) (v:=ps) (br:=br) (n:=fr.length) (sv:=.p rs 0) psN (by omega) (by omega) b4 (by omega) (by simp) (N:=N) (by omega);have n5:=y5.next;have c5x:=y5.ce c4x (by omega) (by omega) (by simp;omega) (by simp;omega);have u5:=y5.ce u2 (by omega) (by omega) (by simp;omega) (by simp;omega);have hw:=c9 u5 0 x0.cells (by rw[x0.bp,xl];exact Q4 _) (Ex.eU ox0.ty.wf);rw[pY,nU (by rw[x0.bp,xl])]at hw;have k6:Kp [s3.next] [s3.next] s5 (s5.aG s3.next x0.cells s3.next):=.aG (by simp) (by simp);have c6:=dA s3.next x0.cells s3.next (st:=s5);obtain⟨s6,hs6⟩:∃t,s5.aG s3.next x0.cells s3.next=t:=⟨_,rfl⟩;rw[hs6]at hw k6 c6;have n6:=k6.next;have sto6:=aC cM aX s5 s3.next 0 x0.cells x0.bp;have ld6:loadAt π 47 s6 (.p s3.next 0)=So (.ag x0.cells):=by rw[cu cM gT,aX,ai c6,eV,<-x0.bp,gY];rfl
  have c6x:=k6.ce c5x (by omega) (by omega) (by simp;omega) (by simp;omega);have K6:Kp [] [] st s6:=ey (ey K4 y5 (by simp;omega) (by simp;omega)) k6 (by simp;omega) (by simp;omega);have⟨al5,y2⟩:=y2;have hX4:∀y∈([C.mr,br]++F)++[s3.next],y<s4.next:=λy hy=>by
   rcases J8.1 hy with hy|hy
   ·have:=hX y hy;omega
   ·have:=List.mem_singleton.1 hy;omega
  have S5:=Fl (s0:=s4) ((((JM (Y:=[s3.next]) (by simp) S3).keep u3 (by simp) (by simp))).keep y5 (by simp) (by simp)) hX4 y3 y6 y7 y4;have C6:Cx C s6 m F br (fr.length+(aL ps).length) (.p rs2 0) [aZ (λ_=>No) (aL ps) fr.length,aZ (λ_=>No) fr 0] :=
   ⟨h.new K6,⟨al5,k6.ce y2 (by omega) (by omega) (by simp;omega) (by simp;omega)⟩,(S5.keep k6 (by simp) (by simp)).sub (λy hy=>J4 _ hy),by omega,by omega,λhh=>by have:=hF _ hh;omega⟩
  obtain⟨R,hR⟩:∃R,cg C x0 [aZ (λ_=>No) (aL ps) fr.length,aZ (λ_=>No) fr 0] (fr.length+(aL ps).length) m=R:=⟨_,rfl⟩;have⟨s7,F7,bv,v',s8,s9,F9,a1,a2,a3,a4,a5,a6,a7,a8,a9,a10,a11,a12⟩:=Md (N:=N) (a:=fr.length) (b:=(aL ps).length) ox0.wd he C6 ⟨h1,h2,by omega,by simp;omega,by omega⟩ hR;have eR:fZ C (.mk 5 nm num ps b (.cons p0 x0 a) l) m=(R.2.2.bos.length,⟨R.2.2.ops,R.2.2.bos++[⟨fr.length,(aL ps).length,R.2.1,R.1⟩]⟩):=by unfold fZ lu;rw[eP,eI,hfr,<-hR,cg,<-Gm,OY]
  rw[eR];have l9:=bg (P:=π) (st:=s9) underlying32 a9.1 a9.2;have c7x:=a2.ce c6x (by omega) (by omega) (λhh=>by
   simp only[J9,Q6,Q9]at hh;rcases hh with hh|hh|hh
   ·omega
   ·omega
   ·have:=hF _ hh;omega) (λhh=>by
   simp only[J9,Q6,Q9]at hh;rcases hh with hh|hh|hh
   ·omega
   ·omega
   ·have:=hF _ hh;omega)
  obtain⟨-,rk7⟩:=rk s7 c7x;have rk5:=rk3 s5 c5x;have lp:=λst:St=>psN.sLen (st:=st) eL
  have bo:=λ(t:Tr AV) (h:ah t (.tmp 50)=.ag [iN fr.length,iN (aL ps).length,iN R.2.1,iN R.1])=>ef (S:=Tw c N) (t:=t) (st:=s7) If (x:=.tmp 50) (cs:=[iN fr.length,iN (aL ps).length,iN R.2.1,iN R.1]) (by rw[h];exact gh _) rfl
  have sto2:=bN Om R9 s8 C.mr 2 v' a6;have e1:wr .i64 (R.2.2.bos.length:Int)=(R.2.2.bos.length:Int):=aP (by omega) (by omega);simp only[dJ]at a1 a3 a5 bo;refine⟨s9,F9,v,?_,q2,q3,a10,?_⟩
  ·simp[f59,hrb,hs0,ld0,q1,Ny.build,hs2,hbr,w1,ld3,aB,FT,sto,u1,rk1,rk2,y1,rk5,ix,lda,sto6,hw,ld6,a1,aY];rw[bP (by kernel_rfl)];simp[a4,lq,rk7,lp,a3,Nz.build,bo,a5,sto2,a7,a8,l9,e1,bf,aO,dJ]
  ·exact((Kv.of (R:=[C.mr]) K6).call a2 (λy hy=>by simp at hy|-;omega)).call a11 (λy hy=>.inl hy)
 have eI:fE (.mk k nm num ps b a l)=.mk k nm num ps b a l:=by simp[fE,hk]
 have eP:tk (.mk k nm num ps b a l)=[]:=by simp[tk,hk]
 rw[wdp hk]at psN wd32;rw[eI]at he h1 h2 hN;obtain⟨R,hR⟩:∃R,cg C (.mk k nm num ps b a l) [aZ (λ_=>No) fr 0] fr.length m=R:=⟨_,rfl⟩;have⟨s7,F7,bv,v',s8,s9,F9,a1,a2,a3,a4,a5,a6,a7,a8,a9,a10,a11,a12⟩:=Md (N:=N) (a:=fr.length) (b:=0) hx.wd he C4 ⟨h1,h2,by omega,by simp;omega,by omega⟩ hR;have eR:fZ C (.mk k nm num ps b a l) m=(R.2.2.bos.length,⟨R.2.2.ops,R.2.2.bos++[⟨fr.length,0,R.2.1,R.1⟩]⟩):=by unfold fZ lu;rw[eP,eI,hfr,<-hR,cg,OY];simp[aZ]
 rw[eR];have ld4:loadAt π 47 s4 (.p s3.next 0)=So (.ag xc):=by rw[cu cM gT,aX,ai u2,<-hxc];rfl
 rw[hxc]at a1;have l9:=bg (P:=π) (st:=s9) underlying32 a9.1 a9.2;have hm:=h.ic (X:=[]) (by simp);have c7x:=a2.ce c4x (by omega) (by omega) (λhh=>by
  simp only[J9,Q6,Q9]at hh;rcases hh with hh|hh|hh
  ·omega
  ·omega
  ·have:=hF _ hh;omega) (λhh=>by
  simp only[J9,Q6,Q9]at hh;rcases hh with hh|hh|hh
  ·omega
  ·omega
  ·have:=hF _ hh;omega)
 obtain⟨-,rk7⟩:=rk s7 c7x;have lp:=λst:St=>psN.sLen (st:=st) eL
 have bo:=λ(t:Tr AV) (h:ah t (.tmp 50)=.ag [iN fr.length,iN 0,iN R.2.1,iN R.1])=>ef (S:=Tw c N) (t:=t) (st:=s7) If (x:=.tmp 50) (cs:=[iN fr.length,iN 0,iN R.2.1,iN R.1]) (by rw[h];exact gh _) rfl
 have sto2:=bN Om R9 s8 C.mr 2 v' a6;have e1:wr .i64 (R.2.2.bos.length:Int)=(R.2.2.bos.length:Int):=aP (by omega) (by omega);have z0:((0:Nat):Int)=0:=rfl;simp only[dJ,z0]at a1 a3 a5 bo;refine⟨s9,F9,v,?_,q2,q3,a10,?_⟩
 ·simp[f59,hrb,hs0,ld0,q1,Ny.build,hs2,hbr,w1,ld3,aB,FT,sto,u1,rk1,hk,ld4,a1,aY];rw[bP (by kernel_rfl)];simp[a4,lq,rk7,lp,a3,Nz.build,bo,a5,sto2,a7,a8,l9,e1,bf,aO,dJ]
 ·exact((Kv.of (R:=[C.mr]) K4).call a2 (λy hy=>by simp at hy|-;omega)).call a11 (λy hy=>.inl hy)
end
end Go.Proofs.YtnmofhngblebiaaGreatDoor
namespace Go.Ev
variable {A F F' Y al:List Nat}{Gf Kf:aK}{J:St->Prop}{M0 N br g gr i kr lo mr n r z:Nat}{P:Program}{a b:aa}{bv cv ps sv v w:AV}{c:Option Self}{caps:List AV}{del:ae->Bool}{e ty:TypeId}{fs:List aK}{k num:Int}{l:List ae}{m:Ms}{nm:ae}{o:bC}{q:Nat->Bool}{s s' st st':St}{t:Tr AV}{x:Ex}{α:Type}
theorem Grown.ms{f:α->List AV}(hz:∀x,(f x).length=z){l:List α}(h:Grown v z l.length (l.flatMap f)):gA v z (l.map f):=by
 refine⟨?_,λx hx=>?_⟩
 ·rcases h with ⟨h1,h2,-⟩|h
  ·exact .inl ⟨h1,by rw[X5 h2];rfl⟩
  ·right;rw[h,List.flatMap_def,Q3]
 grind
theorem gA.pure{f:α->List AV}{l:List α}(hp:∀x,aA (f x)=Tt)(h:gA v z (l.map f)):aE v=true:=by
 rcases h.1 with ⟨rfl,-⟩|rfl
 ·rfl
 ·exact mj f hp l
end Go.Ev
namespace Go.Proofs.YtnmofhngblebiaaGreatDoor
variable {A F F' Y al:List Nat}{Gf Kf:aK}{J:St->Prop}{M0 N br g gr i kr lo mr n r z:Nat}{P:Program}{a b:aa}{bv cv ps sv v w:AV}{c:Option Self}{caps:List AV}{del:ae->Bool}{e ty:TypeId}{fs:List aK}{k num:Int}{l:List ae}{m:Ms}{nm:ae}{o:bC}{q:Nat->Bool}{s s' st st':St}{t:Tr AV}{x:Ex}{α:Type}
structure bS where
 cv:AV
 ov:AV
 bo:AV
 gv:AV
 mn:Nat
 ds:List bG
 m:Ms
 gl:List fW
def bS.cells(k:bS):List AV:=[k.cv,k.ov,k.bo,k.gv,iN k.mn]
structure bS.OK(k:bS):Prop where
 c:fq k.cv k.ds
 o:gA k.ov 8 (k.m.ops.map bC.cells)
 b:gA k.bo 4 (k.m.bos.map dS.cells)
 g:gA k.gv 4 (k.gl.map fW.cells)
theorem bS.OK.pure{k:bS}(h:k.OK):aA k.cells=true:=by simp[bS.cells,aA,aE,iN,h.c.pure,gA.pure bC.pure h.o,gA.pure dS.pure h.b,gA.pure fW.pure h.g]
def bS.p(k:bS)(fv:AV):AV:=.rp [k.cv,k.ov,k.bo,k.gv,iN k.mn,fv]
def jo(ds:List bG)(n:Nat):Option Int:=ds[n]?.map (·.ar)
def jS(ds:List bG)(n:Nat):ae:=((ds[n]?.map (·.ty)).getD [])
structure bS.Sm(k:bS):Prop where
 ok:k.OK
 c:k.ds.length<=1000000
 o:k.m.ops.length<=1000000
 b:k.m.bos.length<=2000000
 g:k.gl.length<=1000000
theorem vD(h:s.ce r=So (o.cells,g,al)):rd s r 0 1=So [iN o.k]/\rd s r 1 1=So [iN o.n]/\rd s r 2 1=So [.s o.nm]/\rd s r 3 1=So [bz o.rs]/\rd s r 4 1=So [fu o.ops]/\rd s r 5 1=So [ox o.als]/\rd s r 6 1=So [gJ o.chs]/\rd s r 7 1=So [iN o.next]/\loadAt π 87 s (.p r 0)=So (.ag o.cells):=by
 have e:∀i,rd s r i 1=cut o.cells i 1:=λi=>by rw[ai h]
 refine⟨by rw[e];rfl,by rw[e];rfl,by rw[e];rfl,by rw[e];rfl,by rw[e];rfl,by rw[e];rfl,by rw[e];rfl,by rw[e];rfl,?_⟩;rw[cu oL wh,o9,ai h];rfl
theorem oX(l:List Rf)(st:St):cP π st [40] [bz l]=So (.i .i64 (l.length:Int),st):=by
 have:=(tP bI (λ_=>rfl) l).cP (st:=st) Ft
 rwa [Q3]at this
theorem oM(l:List Nat)(st:St):cP π st [50] [fu l]=So (.i .i64 (l.length:Int),st):=by
 have:=(tP mQ (λ_=>rfl) l).cP (st:=st) Fu
 rwa [Q3]at this
theorem Gt(l:List dG)(st:St):cP π st [84] [ox l]=So (.i .i64 (l.length:Int),st):=by
 have:=(tP dG.cells (λ_=>rfl) l).cP (st:=st) Fv
 rwa [Q3]at this
theorem sZ(l:List cT)(st:St):cP π st [85] [gJ l]=So (.i .i64 (l.length:Int),st):=by
 have:=(tP cT.cells (λ_=>rfl) l).cP (st:=st) xr
 rwa [Q3]at this
section
variable {k:bS}{fv:AV}
theorem bS.mh(h:k.OK)(hf:aE fv=Tt):aE (k.p fv)=true:=by have:=h.pure;simp[bS.cells,aA]at this;simp[bS.p,aE,aA,hf,this]
theorem VA(h:k.OK)(hf:aE fv=Tt){r:Rf}{most:Nat}(hr:kz k.gl.length most r)(hN:1<=N):(Tw c N).call 124 [k.p fv,.ag (bI r),.i .i64 (most:Int)] st=So (.b Tt,st):=by
 cases N
 ·omega
 rename_i N;have hp:aA [k.p fv,.ag (bI r),.i .i64 (most:Int)]=true:=by simp[aA,aE,bS.mh h hf,bI]
 refine eS (X:=[]) rfl rfl (.inr (by decide)) (.pure hp) func124 rfl (Q0 rfl) rfl ?_;unfold aJ;have c1:=bq (st:=ay) (bI r);obtain⟨s1,hs1⟩:∃s,ay.aj (bI r)=s:=⟨_,rfl⟩;rw[hs1]at c1;have r0:rd s1 ay.next 0 1=So [.i .i64 r.1]:=by rw[ai c1];rfl
 have r1:rd s1 ay.next 1 1=So [.i .i64 r.2]:=by rw[ai c1];rfl
 have ln:=λst:St=>h.g.cP (st:=st) xp
 rcases hr with ⟨h1,h2,h3⟩|⟨h1,h2,h3⟩|h1|⟨h1,h2,h3⟩<;>rw[h1]at r0
 ·simp[f124,hs1,r0,r1,h2,h3]
 ·simp[f124,hs1,r0,aY];rw[bP (by kernel_rfl)];simp[bS.p,r1,h2,h3,ln]
 ·simp[f124,hs1,r0]
 ·simp[f124,hs1,r0,r1,h2,h3]
theorem Hj(h:k.Sm)(hf:aE fv=Tt)(hc:uT (jo k.ds) n z)(hN:1<=N):(Tw c N).call 119 [k.p fv,.i .i64 (n:Int),.i .i64 (z:Int)] st=So (.b Tt,st):=by
 cases N
 ·omega
 rename_i N;have hp:aA [k.p fv,.i .i64 (n:Int),.i .i64 (z:Int)]=true:=by simp[aA,aE,bS.mh h.ok hf]
 refine eS (X:=[]) rfl rfl (.inr (by decide)) (.pure hp) func119 rfl (Q0 rfl) rfl ?_;unfold aJ;have⟨d,h1,h2⟩:=Option.map_eq_some_iff.1 hc;have⟨hn,h3⟩:=V0.1 h1;have ln:=λst:St=>wC (st:=st) h.ok.c
 have⟨r,ix⟩:=qU h.ok.c hn;rw[h3]at ix;have c1:oneOf (takeN 1 (d.cells++r).tail)=So (.i .i64 d.ar):=rfl;simp[f119,bS.p,iN,ln,hn,ix,c1,h2]
theorem adl(h:k.Sm)(hf:aE fv=Tt){b:dS}(hb:k.m.bos[n]? = So b)(h1:b.free=z)(h2:b.ps=0)(hN:1<=N):(Tw c N).call 122 [k.p fv,.i .i64 (n:Int),.i .i64 (z:Int)] st=So (.b Tt,st):=by
 cases N
 ·omega
 rename_i N;have hp:aA [k.p fv,.i .i64 (n:Int),.i .i64 (z:Int)]=true:=by simp[aA,aE,bS.mh h.ok hf]
 refine eS (X:=[]) rfl rfl (.inr (by decide)) (.pure hp) func122 rfl (Q0 rfl) rfl ?_;unfold aJ;have⟨hn,h3⟩:=V0.1 hb;have ln:=λst:St=>h.ok.b.cP (st:=st) rW
 have⟨r,ix⟩:=h.ok.b.at rW (k:=n) (by grind);rw[Z9,h3]at ix;have c0:oneOf (takeN 1 (b.cells++r))=So (.i .i64 (z:Int)):=by rw[<-h1];rfl
 have c1:oneOf (takeN 1 (b.cells++r).tail)=So (.i .i64 0):=by have:oneOf (takeN 1 (b.cells++r).tail)=So (iN b.ps):=rfl;rw[this,h2];rfl
 simp[f122,bS.p,iN,ln,hn,ix,c0,c1]
theorem NP(h:k.Sm)(hf:aE fv=Tt){b:dS}(hb:k.m.bos[n]? = So b)(h1:b.free=z)(h2:1<=b.ps)(hN:1<=N):(Tw c N).call 118 [k.p fv,.i .i64 (n:Int),.i .i64 (z:Int)] st=So (.b Tt,st):=by
 cases N
 ·omega
 rename_i N;have hp:aA [k.p fv,.i .i64 (n:Int),.i .i64 (z:Int)]=true:=by simp[aA,aE,bS.mh h.ok hf]
 refine eS (X:=[]) rfl rfl (.inr (by decide)) (.pure hp) func118 rfl (Q0 rfl) rfl ?_;unfold aJ;have⟨hn,h3⟩:=V0.1 hb;have ln:=λst:St=>h.ok.b.cP (st:=st) rW
 have⟨r,ix⟩:=h.ok.b.at rW (k:=n) (by grind);rw[Z9,h3]at ix;have c0:oneOf (takeN 1 (b.cells++r))=So (.i .i64 (z:Int)):=by rw[<-h1];rfl
 have c1:oneOf (takeN 1 (b.cells++r).tail)=So (.i .i64 (b.ps:Int)):=rfl;have e1:(1:Int)<=(b.ps:Int):=by omega
 simp[f118,bS.p,iN,ln,hn,ix,c0,c1,e1]
theorem Ph(h:k.Sm)(hf:aE fv=Tt){kd:Nat}{rs:List Rf}(hm:qE (jo k.ds) k.m.bos kd n rs)(hN:2<=N):(Tw c N).call 72 [k.p fv,.i .i64 (kd:Int),.i .i64 (n:Int),bz rs] st=So (.b Tt,st):=by
 cases N
 ·omega
 rename_i N;have hp:aA [k.p fv,.i .i64 (kd:Int),.i .i64 (n:Int),bz rs]=true:=by simp[aA,aE,bS.mh h.ok hf,qd]
 refine eS (X:=[]) rfl rfl (.inr (by decide)) (.pure hp) func72 rfl (Q0 rfl) rfl ?_;unfold aJ;have ln:=oX rs;rcases hm with ⟨rfl,b,h1,h2,h3⟩|⟨rfl,b,h1,h2,h3⟩|⟨rfl,h1⟩|⟨rfl,rfl,r,rfl,h1⟩
 ·have q:=λst:St=>adl (c:=c) (st:=st) h hf h1 h2 h3 (N:=N) (by omega)
  simp[f72,ln,q]
 ·have q:=λst:St=>NP (c:=c) (st:=st) h hf h1 h2 h3 (N:=N) (by omega)
  simp[f72,ln,q]
 ·have q:=λst:St=>Hj (c:=c) (st:=st) h hf h1 (N:=N) (by omega)
  simp[f72,ln,q]
 ·have q:∀st,(Tw c N).call 123 [bz [r]] st=So (.b Tt,st):=λst=>by
   cases N
   ·omega
   rename_i N;refine eS (X:=[]) rfl rfl (.inr (by decide)) (.pure (by simp[aA,qd])) func123 rfl (Q0 rfl) rfl ?_;unfold aJ;have⟨q,ix⟩:=(tP bI (λ_=>rfl) [r]).at (P:=π) Ft (k:=0) (by simp);have ix:indexAddr π 40 (bz [r]) (.i .i64 0)=So (.rp (bI r++q)):=ix;have c0:oneOf (takeN 1 (bI r++q))=So (.i .i64 r.1):=rfl;rcases h1 with h1|h1<;>rw[h1]at c0<;>simp[f123,ln,ix,c0]
  simp[f72,q]
