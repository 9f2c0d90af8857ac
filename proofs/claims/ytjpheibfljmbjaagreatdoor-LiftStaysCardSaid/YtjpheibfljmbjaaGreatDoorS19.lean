/- A part of the proof. -/
import Derived.Test.YtjpheibfljmbjaaGreatDoorS18
set_option maxRecDepth 100000
set_option maxHeartbeats 4000000
open Bool renaming and_eq_true->Q0, or_eq_true->J3, and_true->V9
open Nat renaming le_refl->Q1, le_of_ble_eq_true->J1, lt_of_lt_of_le->J8, ble->J9, lt_succ_self->Z3, one_mul->V0
open List renaming map_cons->Q2, sum_cons->Q3, append_assoc->Q4, getElem_mem->Q6, eq_nil_of_length_eq_zero->Q7, mem_cons->Q8, length_append->Q9, mem_cons_self->J4, getElem_of_mem->J5, length_cons->J6, take_append_getElem->Z4, take_length->Z5, mem_cons_of_mem->Z6, mem_append->Z7, count_append->Z8, mem_map->Z9, nodup_append->V1, not_mem_nil->V2, getElem_append_left->V3, map_map->V4, drop_left->V6, all_cons->V7, all_nil->V8
open Go.Proofs.Tryz
noncomputable section
open Go.Ev
namespace Go.Proofs.YtjpheibfljmbjaaGreatDoor
variable {F : Ex->Ex}{L L' : List (List AV× Ex)}{N e m n0 r : Nat}{S : Self}{a a' b b' l l' : ae}{c : Option Self}{cs : List AV}{fr gs ns : List ah}{fv ps v : AV}{k num : Int}{nm : ah}{p : List AV× Ex}{s st : St}{t : Tr AV}{to : ah->Option ah}{x z : Ex}{y : Operand}
noncomputable def mo:Nat->Code
 |0=>f8.body.getD .skip
 |k+1=>aj (mo k)
theorem QW:∀ (l:ae) (j:Nat) (hj:j<l.list.length),l.list[j].2.bM.length<=l.bC.length
 |.nil f,j,hj=>by simp[ae.list]at hj
 |.cons p x l,0,hj=>by simp[ae.list,ae.bC]
 |.cons p x l,j+1,hj=>by have:=QW l j (by simpa[ae.list]using hj);simp only[ae.list,ae.bC,List.getElem_cons_succ,Q9];omega
structure F8(s:St)(t:Tr AV)(r1 r3:Nat)(cv bv:AV)(L:List ah):Prop where
 t1:ab t 1=.p r1 0
 t3:ab t 3=.m r3
 c1:∃ al,s.ce r1=some ([cv,bv],r1,al)
 lo:r1<s.next/\r3<s.next
 M:cS s r3 (iD L)
theorem LJ{cv:AV}(hcs:cv.cells=some [cv]/\bS cv=true/\bg cv=true)(hb:b.Ty 1)(hs:b.size<=1000000)(hC:oz c cv b 0)(hn:fV strF b=true)(hd:(b.names++b.bC).Nodup)(hl:b.bC.length<=1000000)(hN:b.size+3000000<=N)(h7:c=none\/(8:Nat)≠9):
  (Tw c N).call 8 [.ag [cv,b.slice 8]] st=some (.b true,st):=by
 obtain⟨N,rfl⟩:∃ N',N=N'+1:=⟨N-1,by omega⟩;have hbl:=b.bZ;refine jc (X:=[]) rfl rfl h7 (.pure (by simp[aQ,bg,hcs.2.2,ae.mg hb 8])) func8 rfl (J1 rfl) rfl ?_;unfold aV;show tW (eE prog f8.results.toList (ao (mo 0) ⟨prog,Tw c N,false,f8.ntmps,N⟩ (tmpsOf [.ag [cv,b.slice 8]] 0 .lf) aK)) _
 have ln:=fun st:St=>aY (st:=st) underlying23 (b.bK 8) (b.bJ 8)
 have c1:=cz (st:=aK) [cv,b.slice 8];have k1:=Kp.aw (st:=aK) [] [] [cv,b.slice 8];obtain⟨s1,hs1⟩:∃ s,aK.aw [cv,b.slice 8]=s:=⟨_,rfl⟩;have n1:s1.next=aK.next+1:=by rw[<-hs1];rfl
 rw[hs1]at c1 k1;have ra:rd s1 aK.next 0 2=some [cv,b.slice 8]:=by rw[au c1];rfl
 have ck:=hC s1 (.ag [cv,b.slice 8]) N (by omega) (.pure (by simp[bg,aQ,hcs.2.2,ae.mg hb 8]));have m0:=cS.new s1;have k2:=Kp.new (st:=s1) [] [] (.mp [] 0);obtain⟨s2,hs2⟩:∃ x,s1.new (.mp [] 0)=x:=⟨_,rfl⟩;have n2:s2.next=s1.next+1:=by rw[<-hs2];rfl
 rw[hs2]at m0 k2;have c2:=k2.ce c1 (by omega) (by omega) (by simp) (by simp);have a0:∃ t,ao (mo 0) ⟨prog,Tw c N,false,f8.ntmps,N⟩ (tmpsOf [.ag [cv,b.slice 8]] 0 .lf) aK=ao (mo 3) ⟨prog,Tw c N,false,f8.ntmps,N⟩ t s2/\ab t 1=.p aK.next 0/\ab t 3=.m s1.next:=by simp[-Mr,-oE,-lS,-Pf,mo,aj,f8,hs1,lS lI An,eP,ra,mV func9 rfl,ck,hs2];exact⟨_,rfl,by simp,by simp⟩
 obtain⟨t0,a0,d1,d3⟩:=a0;rw[a0];obtain⟨r1,hr1⟩:∃ r,aK.next=r:=⟨_,rfl⟩;obtain⟨r3,hr3⟩:∃ r,s1.next=r:=⟨_,rfl⟩;rw[hr1]at d1 c2 n1;rw[hr3]at d3 m0 n2 n1;have F0:F8 s2 t0 r1 r3 cv (b.slice 8) []:=⟨d1,d3,⟨_,c2⟩,⟨by omega,by omega⟩,Bg m0 (fun x=>by simp[iD])⟩;have hne:r1≠r3:=by omega
 have loop1:∃ t s,ao (aq (mo 3)) ⟨prog,Tw c N,false,f8.ntmps,N⟩ t0 s2=.nx t s/\F8 s t r1 r3 cv (b.slice 8) b.names:=by
  obtain⟨al,c1'⟩:=F0.c1;have rb:rd s2 r1 1 1=some [b.slice 8]:=by rw[au c1'];rfl
  simp[mo,aq,aj,f8,F0.t1,rb,ln,bw];generalize hL:bf _ _ _ _=L;obtain⟨t1,s1',rfl,p0⟩:=dy hL 0 b.list.length
   (fun i t' s'=>ab t' 15=b.slice 8/\ab t' 16=.i .i64 (b.len:Int)/\ab t' 17=.i .i64 (i:Int)/\F8 s' t' r1 r3 cv (b.slice 8) (b.names.take i))
   (fun t' s'=>F8 s' t' r1 r3 cv (b.slice 8) b.names) (by rw[<-ae.aC];omega)
   ⟨by simp,by simp,by simp,by simp[F0.t1],by simp[F0.t3],F0.c1,F0.lo,by simpa using F0.M⟩
   (by
    rintro i t' s' hi ⟨i15,i16,i17,iF⟩;clear hL;have hil:i<b.len:=by rw[ae.aC];exact hi
    have hin:i<b.names.length:=by rw[eW];exact hil
    have e3:(i:Int)<(b.len:Int):=by omega
    have e4:wr .i64 ((i:Int)+1)=((i+1:Nat):Int):=by rw[aZ (by omega) (by omega)];rfl
    obtain⟨r,r1',r2'⟩:=eR hb.pre (show eD 1+7=8 from rfl) hi;have ix:=dV (P:=prog) underlying23 dn cV b.flat b.len i hil;rw[<-ae.cZ hil,r1',<-Q4]at ix;have hT:=ae.cU hb _ (Q6 hi);have hpr:=ir hT.1;have hnm:b.names[i]=fD (b.list[i].1.headD .un):=by simp[ae.names,gn]
    rw[<-hnm]at hpr;have hce:(b.list[i].1++b.list[i].2.cells).length=8:=by rw[Q9,r2',Ex.aO];rfl
    have hsc:bq (b.list[i].1++b.list[i].2.cells)=true:=gX hT.1.sc (Ex.dH hT.2.wf);have ld:=fun st:St=>kO (st:=st) (r:=r) dn kI cV hce
    have hhd:cut (b.list[i].1++b.list[i].2.cells) 0 1=some [.s b.names[i]]:=by rw[hpr];rfl
    generalize b.list[i].1++b.list[i].2.cells=cl at *;obtain⟨s3,u1,u2,u3,u4⟩:=cO (s:=s') (z:=gL) hce hsc;have n3:=u3.next;have hlo:=iF.lo;have M2:=iF.M.keep u3 hlo.2 (by simp);obtain⟨s4,w1,w2,w3,w4⟩:=M2.set gW b.names[i] (.b true);rw[wX,Z4 hin]at w2;have rn:rd s3 s'.next 0 1=some [.s b.names[i]]:=by rw[au u2,hhd]
    obtain⟨al2,cc⟩:=iF.c1;have cc2:=w3.ce (u3.ce cc hlo.1 hlo.1 (by simp) (by simp)) (by omega) (by omega) (by simp[hne]) (by simp);have zz:bm prog 37=some gL:=sy;simp[i15,i16,i17,iF.t3,e3,e4,ix,ld,aJ,zz,aI dn cV,hce,u1,rn,w1];exact⟨_,_,⟨rfl,rfl⟩,by simp[i15],by simp[i16],by simp,by simp[iF.t1],by simp[iF.t3],⟨_,cc2⟩,⟨by omega,by omega⟩,w2⟩)
   (by rintro t' s' ⟨i15,i16,i17,iF⟩;clear hL;simp[i16,i17,ae.aC];have hM:=iF.M;rw[<-ae.aC,<-eW,Z5]at hM;exact⟨_,_,⟨rfl,rfl⟩,by simp[iF.t1],by simp[iF.t3],iF.c1,iF.lo,hM⟩)
  clear hL;exact⟨t1,s1',by simp,p0⟩
 obtain⟨t1,s3,a1,F1⟩:=loop1;rw[show ao (mo 3) ⟨prog,Tw c N,false,f8.ntmps,N⟩ t0 s2=bT (ao (aq (mo 3)) ⟨prog,Tw c N,false,f8.ntmps,N⟩ t0 s2) (ao (mo 4) ⟨prog,Tw c N,false,f8.ntmps,N⟩) from rfl,a1,dK];have loop2:∃ t s,ao (aq (mo 4)) ⟨prog,Tw c N,false,f8.ntmps,N⟩ t1 s3=.nx t s:=by
  obtain⟨al,c1'⟩:=F1.c1;have rb:rd s3 r1 1 1=some [b.slice 8]:=by rw[au c1'];rfl
  simp[mo,aq,aj,f8,F1.t1,rb,ln,bw];generalize hL:bf _ _ _ _=L;obtain⟨t2,s2',rfl,-⟩:=dy hL 2 b.list.length
   (fun i t' s'=>ab t' 26=b.slice 8/\ab t' 27=.i .i64 (b.len:Int)/\ab t' 28=.i .i64 (i:Int)/\∃ A,F8 s' t' r1 r3 cv (b.slice 8) A/\(A++(dm b i).bC).Nodup)
   (fun t' s'=>True) (by rw[<-ae.aC];omega)
   ⟨by simp,by simp,by simp,b.names,⟨by simp[F1.t1],by simp[F1.t3],F1.c1,F1.lo,F1.M⟩,by simpa[dm]using hd⟩
   (by
    rintro i t' s' hi ⟨i26,i27,i28,A,iF,iN⟩;clear hL;have hil:i<b.len:=by rw[ae.aC];exact hi
    have e3:(i:Int)<(b.len:Int):=by omega
    have e4:wr .i64 ((i:Int)+1)=((i+1:Nat):Int):=by rw[aZ (by omega) (by omega)];rfl
    obtain⟨r,r1',r2'⟩:=eR hb.pre (show eD 1+7=8 from rfl) hi;have ix:=dV (P:=prog) underlying23 dn cV b.flat b.len i hil;rw[<-ae.cZ hil,r1',<-Q4]at ix;have hmem:=Q6 hi;have hT:=ae.cU hb _ hmem;have hsz':=ae.dU hmem;have hpr:=ir hT.1;have hce:(b.list[i].1++b.list[i].2.cells).length=8:=by rw[Q9,r2',Ex.aO];rfl
    have hsc:bq (b.list[i].1++b.list[i].2.cells)=true:=gX hT.1.sc (Ex.dH hT.2.wf);have ld:=fun st:St=>kO (st:=st) (r:=r) dn kI cV hce
    have hcut:cut (b.list[i].1++b.list[i].2.cells) 1 7=some b.list[i].2.cells:=by rw[hpr];have:=nP b.list[i].2.cells [];rw[Ex.aO,List.append_nil]at this;simpa using this
    rw[JA b hi]at iN;have hnx:=tS.1 hn i hi;have hbl0:b.list[i].2.bM.length<=b.bC.length:=by exact QW b i hi
    obtain⟨v,v1,v2⟩:=KG (c:=c) _ hT.2 (by omega) (by omega) N (by omega);generalize b.list[i].1++b.list[i].2.cells=cl at *;obtain⟨s3,u1,u2,u3,u4⟩:=cO (s:=s') (z:=gL) hce hsc;have n3:=u3.next;have hlo:=iF.lo;have M3:=iF.M.keep u3 hlo.2 (by simp);have rx3:rd s3 s'.next 1 7=some b.list[i].2.cells:=by rw[au u2,hcut]
    obtain⟨s4,y1,y2⟩:=Sb (c:=c) _ hT.2.wf s3 N (by omega) (by omega);rw[hnx]at y1;have n4:=y2.next;have rx4:rd s4 s'.next 1 7=some b.list[i].2.cells:=by rw[au (y2.ce u2 u4 u4 (by simp) (by simp)),hcut]
    have M4:=M3.keep y2 (by omega) (by simp);have k4:=(u3.sub (A':=[r3]) (B':=[]) (by simp) (by simp)).trans (y2.sub (A':=[r3]) (B':=[]) (by simp) (by simp));have zz:bm prog 37=some gL:=sy;obtain⟨bn,hbn⟩:∃ x,b.list[i].2.bM=x:=⟨_,rfl⟩;rw[hbn]at v1 iN hbl0;have lnv:=fun s:St=>aY (st:=s) underlying31 v1.len v1.text
    simp only[List.length_map]at lnv;simp[i26,i27,i28,e3,ix,ld,aJ,zz,aI dn cV,hce,u1,aH,rx3,rx4,y1,v2 s4,lnv,bw];generalize hL:bf _ _ _ _=L;obtain⟨t3,s5,rfl,p0⟩:=dy hL 4 bn.length
     (fun j t'' s''=>ab t'' 26=b.slice 8/\ab t'' 27=.i .i64 (b.len:Int)/\ab t'' 28=.i .i64 (i:Int)/\ab t'' 38=v/\ab t'' 39=.i .i64 (bn.length:Int)/\ab t'' 40=.i .i64 (j:Int)/\F8 s'' t'' r1 r3 cv (b.slice 8) (A++bn.take j))
     (fun t'' s''=>ab t'' 26=b.slice 8/\ab t'' 27=.i .i64 (b.len:Int)/\ab t'' 28=.i .i64 (i:Int)/\F8 s'' t'' r1 r3 cv (b.slice 8) (A++bn)) (by omega)
     ⟨by simp[i26],by simp[i27],by simp[i28],by simp,by simp,by simp,by simp[iF.t1],by simp[iF.t3],by obtain⟨al2,cc⟩:=iF.c1;exact⟨_,y2.ce (u3.ce cc hlo.1 hlo.1 (by simp) (by simp)) (by omega) (by omega) (by simp) (by simp)⟩,⟨by omega,by omega⟩,by simpa using M4⟩
     (by
      rintro j t'' s'' hj ⟨q26,q27,q28,q38,q39,q40,qF⟩;clear hL;have f3:(j:Int)<(bn.length:Int):=by omega
      have f4:wr .i64 ((j:Int)+1)=((j+1:Nat):Int):=by rw[aZ (by omega) (by omega)];rfl
      obtain⟨ad,x1,x2⟩:=v1.sat gz nU hj;have hnot:bn[j]∉A++bn.take j:=by
       have h1:((A++bn.take (j+1))++(bn.drop (j+1)++(dm b (i+1)).bC)).Nodup:=by rw[Q4,<-Q4 (bn.take (j+1)),List.take_append_drop];exact iN
       have h2:=(V1.1 h1).1;rw[<-Z4 hj,<-Q4]at h2;exact fun hh=>(V1.1 h2).2.2 _ hh _ (by simp) rfl
      have lk:=qF.M.get gW bn[j];rw[ze,decide_eq_false hnot]at lk;obtain⟨s6,w1,w2,w3,w4⟩:=qF.M.set gW bn[j] (.b true);rw[wX,Q4,Z4 hj]at w2;have qlo:=qF.lo;obtain⟨al2,cc⟩:=qF.c1;simp[q38,q39,q40,qF.t3,f3,f4,x1,x2,lk,w1];exact⟨_,_,⟨rfl,rfl⟩,by simp[q26],by simp[q27],by simp[q28],by simp[q38],by simp[q39],by simp,by simp[qF.t1],by simp[qF.t3],⟨_,w3.ce cc qlo.1 qlo.1 (by simp[hne]) (by simp)⟩,⟨by omega,by omega⟩,w2⟩)
     (by rintro t'' s'' ⟨q26,q27,q28,q38,q39,q40,qF⟩;clear hL;simp[q39,q40];rw[Z5]at qF;exact⟨_,_,⟨rfl,rfl⟩,by simp[q26],by simp[q27],by simp[q28],by simp[qF.t1],by simp[qF.t3],qF.c1,qF.lo,qF.M⟩)
    obtain⟨q26,q27,q28,qF⟩:=p0;clear hL;simp[q28,e4];exact⟨_,_,⟨rfl,rfl⟩,by simp[q26],by simp[q27],by simp,A++bn,⟨by simp[qF.t1],by simp[qF.t3],qF.c1,qF.lo,qF.M⟩,by rw[Q4];exact iN⟩)
   (by rintro t' s' ⟨i26,i27,i28,iF⟩;clear hL;simp[i27,i28,ae.aC])
  clear hL;exact⟨t2,s2',by simp⟩
 obtain⟨t2,s4,a2⟩:=loop2;rw[show ao (mo 4) ⟨prog,Tw c N,false,f8.ntmps,N⟩ t1 s3=bT (ao (aq (mo 4)) ⟨prog,Tw c N,false,f8.ntmps,N⟩ t1 s3) (ao (mo 5) ⟨prog,Tw c N,false,f8.ntmps,N⟩) from rfl,a2,dK];exact⟨s4,by simp[mo,aj,f8,aG,aF]⟩
theorem TO{late:ae}{out:Ex}(h1:dZ strF out=true)(h2:fV strF late=true):dZ strF (kN late out)=true:=by
 cases late with
 |nil f=>exact h1
 |cons p x l=>grind[kN,dZ,pU,fV,lD]
section
variable(T : List ah)(C : ah->Option AV)
mutual
theorem Jm:∀ (x:Ex) (S:bL) (n:Nat) (sc:List (List ah)),gK C x sc=true->dZ strF (bB T x S n).1=true
 |.mk k nm num ps b a l,S,n,sc,h=>by
  simp only[gK,Q0]at h;obtain⟨hh,oa,ob,ol⟩:=h;have F:=Ch hh;unfold bB;by_cases h1:k=1
  ·rw[if_pos h1];simp[dZ,nF]
  ·rw[if_neg h1];simp only;generalize aU T S (ba ps) n=w1;generalize aU T w1.1 b.names w1.2.2=w2;have HB:=Ie b w2.1 w2.2.1 w2.2.2 _ ob;generalize c8 T b w2.1 w2.2.1 w2.2.2=rb at *;have dl:=Fu (T:=T) a w2.1 (fP strF k nm a.len) 0 rb.2;have HA:=Gu a w2.1 (fP strF k nm a.len) (lD strF k nm a.len) 0 rb.2 _ oa (fun j _ hj hk=>by
    unfold lD;split
    ·have:=F.a1 ‹_›;omega
    ·exact hk)
   generalize cg T a w2.1 (fP strF k nm a.len) 0 rb.2=ra at *;have HL:=Mm l w2.1 ra.2.2 _ ol;refine TO ?_ HA.2;simp only[dZ,J3,Q0,decide_eq_true_eq];right;rw[dl];exact⟨⟨F.lo,F.hi⟩,HA.1,HB,HL⟩
theorem Ie:∀ (l:ae) (S:bL) (ns:List ah) (n:Nat) (sc:List (List ah)),eI C l sc=true->fV strF (c8 T l S ns n).1=true
 |.nil _,_,_,_,_,_=>by simp only[c8,fV]
 |.cons p x l,S,ns,n,sc,h=>by simp only[eI,Q0]at h;simp only[c8,fV,Q0];exact⟨Jm x S n sc h.1,Ie l S ns.tail _ sc h.2⟩
theorem Gu:∀ (l:ae) (S:bL) (k f:Int) (i n:Nat) (sc:List (List ah)),eI C l sc=true->(∀ j:Nat,i<=j->j<i+l.len->(j:Int)<k->(j:Int)<f)->pU strF f i (cg T l S k i n).1=true/\fV strF (cg T l S k i n).2.1=true
 |.nil _,_,_,_,_,_,_,_,_=>by simp only[cg,pU,fV];exact⟨trivial,trivial⟩
 |.cons p x l,S,k,f,i,n,sc,h,hf=>by
  simp only[eI,Q0]at h;simp only[ae.len]at hf;have e1:=Jm x S n sc h.1;by_cases hc:k<=(i:Int)/\(bB T x S n).1.atom=false
  ·rw[CX T hc];obtain⟨q1,q2⟩:=Gu l S k f (i+1) (bD T (bB T x S n).2) sc h.2 (fun j h1 h2 h3=>hf j (by omega) (by omega) h3);simp only[pU,fV,Q0,J3,decide_eq_true_eq];exact⟨⟨.inr rfl,by simp[cf,dZ,nF],q1⟩,e1,q2⟩
  ·rw[AY T hc];obtain⟨q1,q2⟩:=Gu l S k f (i+1) (bB T x S n).2 sc h.2 (fun j h1 h2 h3=>hf j (by omega) (by omega) h3);simp only[pU,Q0,J3,decide_eq_true_eq];refine⟨⟨?_,e1,q1⟩,q2⟩;by_cases hk:k<=(i:Int)
   ·right;cases ha:(bB T x S n).1.atom with
    |true=>rfl
    |false=>exact absurd ⟨hk,ha⟩ hc
   ·left;exact hf i (Q1 _) (by omega) (by omega)
theorem Mm:∀ (l:ae) (S:bL) (n:Nat) (sc:List (List ah)),jh C l sc=true->fV strF (dP T l S n).1=true
 |.nil _,_,_,_,_=>by simp only[dP,fV]
 |.cons p x l,S,n,sc,h=>by simp only[jh,Q0]at h;simp only[dP,fV,Q0];exact⟨Jm x _ _ _ h.1,Mm l S _ sc h.2⟩
end
mutual
theorem FL:∀ (x:Ex) (S:bL) (n:Nat),(bB T x S n).1.size+1<=4*x.size
 |.mk k nm num ps b a l,S,n=>by
  unfold bB;by_cases h1:k=1
  ·grind[Ex.size,ae.size]
  ·simp only;generalize aU T S (ba ps) n=w1;generalize aU T w1.1 b.names w1.2.2=w2;have HB:=GK b w2.1 w2.2.1 w2.2.2;generalize c8 T b w2.1 w2.2.1 w2.2.2=rb at *;have HA:=HX a w2.1 (fP strF k nm a.len) 0 rb.2;generalize cg T a w2.1 (fP strF k nm a.len) 0 rb.2=ra at *;have HL:=Me l w2.1 ra.2.2;have hw:∀ (late:ae) (out:Ex),(kN late out).size<=1+late.size+out.size:=fun late out=>by
    cases late with
    |nil f=>simp only[kN,ae.size];omega
    |cons p x l=>grind[kN,Ex.size,ae.size]
   grind[Ex.size]
theorem GK:∀ (l:ae) (S:bL) (ns:List ah) (n:Nat),(c8 T l S ns n).1.size<=4*l.size
 |.nil _,_,_,_=>by simp only[c8,ae.size];omega
 |.cons p x l,S,ns,n=>by have h1:=FL x S n;have h2:=GK l S ns.tail (bB T x S n).2;simp only[c8,ae.size];omega
theorem HX:∀ (l:ae) (S:bL) (k:Int) (i n:Nat),(cg T l S k i n).1.size+(cg T l S k i n).2.1.size<=4*l.size
 |.nil _,_,_,_,_=>by simp only[cg,ae.size];omega
 |.cons p x l,S,k,i,n=>by
  have h1:=FL x S n;by_cases hc:k<=(i:Int)/\(bB T x S n).1.atom=false
  ·rw[CX T hc];have h2:=HX l S k (i+1) (bD T (bB T x S n).2);simp only[ae.size,cf,Ex.size];omega
  ·rw[AY T hc];have h2:=HX l S k (i+1) (bB T x S n).2;simp only[ae.size];omega
theorem Me:∀ (l:ae) (S:bL) (n:Nat),(dP T l S n).1.size<=4*l.size
 |.nil _,_,_=>by simp only[dP,ae.size];omega
 |.cons p x l,S,n=>by simp only[dP,ae.size];have h1:=FL x (aU T S (cD (p,x)).vs n).1 (aU T S (cD (p,x)).vs n).2.2;have h2:=Me l S (bB T x (aU T S (cD (p,x)).vs n).1 (aU T S (cD (p,x)).vs n).2.2).2;omega
end
end
theorem Ia{C:ah->Option AV}(hC:∀ s v,C s=some v->od v<=32):∀ {H pre:List ie}{kind:Int}{typ:ah}{sm:Bool}{seen:List ah},cC C pre H kind typ sm seen=true->∀ a∈H,a.vs.length<=32
 |[],_,_,_,_,_,_,a,ha=>(V2 ha).elim
 |x::l,pre,kind,typ,sm,seen,h,a,ha=>by
  unfold cC at h;simp only[Q0]at h;obtain⟨-,h1,h2,h3⟩:=h;have key:x.vs.length<=32/\∃ kind typ sm seen,cC C (pre++[x]) l kind typ sm seen=true:=by
   by_cases k4:x.k=4
   ·rw[if_pos k4]at h3;simp only[Q0,decide_eq_true_eq]at h3;exact⟨by omega,_,_,_,_,h3.2.2.2.2⟩
   ·rw[if_neg k4]at h3;rw[Q0]at h3;obtain⟨-,h3⟩:=h3;by_cases k1:x.k≠1
    ·rw[if_pos k1]at h3;simp only[Q0,decide_eq_true_eq]at h3;exact⟨by omega,_,_,_,_,h3.2.2.2.2⟩
    ·rw[if_neg k1]at h3;simp only[Q0]at h3;have h4:=h3.2.2.2;cases hc:C x.n with
     |none=>rw[hc]at h4;cases h4
     |some v =>rw[hc]at h4;simp only[Q0,decide_eq_true_eq]at h4;have:=hC _ _ hc;exact⟨by omega,_,_,_,_,h4.2.2⟩
  obtain⟨g1,k',t',s',e',g2⟩:=key;rcases Q8.1 ha with rfl|ha
  ·exact g1
  ·exact Ia hC g2 a ha
mutual
theorem NT(C:ah->Option AV)(hC:∀ s v,C s=some v->od v<=32):∀ (x:Ex) (sc:List (List ah)),gK C x sc=true->x.wt+32<=66*x.size
 |.mk k nm num ps b a l,sc,h=>by
  simp only[gK,Q0]at h;obtain⟨hh,oa,ob,ol⟩:=h;have F:=Ch hh;have h1:=BQ C hC b _ ob;have h2:=BQ C hC a _ oa;have h3:l.kX<=66*l.size:=by
   by_cases k8:k=8
   ·have hA:mN C l.bN=true:=by
     grind[dG]
    unfold mN at hA;rw[Q0]at hA;have:=Ia hC hA.2;exact PY C hC l _ ol (fun p hp=>this _ (by grind[ae.bN]))
   ·obtain⟨f,hf⟩:=lK (F.l8 k8);grind[ae.kX]
  have:=F.p32;simp only[Ex.wt,Ex.size];omega
theorem BQ(C:ah->Option AV)(hC:∀ s v,C s=some v->od v<=32):∀ (l:ae) (sc:List (List ah)),eI C l sc=true->l.len+l.wt<=66*l.size
 |.nil _,_,_=>by simp only[ae.len,ae.wt,ae.size];omega
 |.cons p x l,sc,h=>by simp only[eI,Q0]at h;have h1:=NT C hC x sc h.1;have h2:=BQ C hC l sc h.2;simp only[ae.len,ae.wt,ae.size];omega
theorem PY(C:ah->Option AV)(hC:∀ s v,C s=some v->od v<=32):∀ (l:ae) (sc:List (List ah)),jh C l sc=true->(∀ p∈l.list,(cD p).vs.length<=32)->l.kX<=66*l.size
 |.nil _,_,_,_=>by simp only[ae.kX,ae.size];omega
 |.cons p x l,sc,h,hv=>by simp only[jh,Q0]at h;have h1:=NT C hC x _ h.1;have h2:=PY C hC l sc h.2 (fun q hq=>hv q (by simp only[ae.list];exact Z6 _ hq));have h3:=hv (p,x) (by simp only[ae.list];exact J4);simp only[ae.kX,ae.size];omega
end
def _root_.Go.Ev.ae.nf:ae->Prop
 |.nil f=>f=true
 |.cons ..=>True
mutual
def Gd:Ex->Prop
 |.mk k _ _ ps b a l=>FQ k (ba ps).length b.len a.len l.len/\(k=6->2<=a.len/\a.len<=33)/\(k=5->1<=(ba ps).length)/\(b.nf/\a.nf/\l.nf)/\(∀ q∈l.list.map (·.1),(ba (q.getD 3 .un)).length<=32)/\tT b/\tT a/\tT l
def tT:ae->Prop
 |.nil _=>True
 |.cons _ x l=>Gd x/\tT l
end
theorem xD:∀ {l:ae},tT l↔∀ p∈l.list,Gd p.2
 |.nil _=>by simp[tT,ae.list]
 |.cons p x l=>by simp[tT,ae.list,xD]
def Wl(x:Ex):Prop:=x.Ty/\dZ strF x=true/\Gd x
structure DP(k:Int)(nm:ah)(ps:AV)(b a l:ae):Prop where
 rng:-9223372036854775808<=k/\k<=9223372036854775807
 nms:jY ps
 hd:FQ k (ba ps).length b.len a.len l.len
 app:k=6->2<=a.len/\a.len<=33
 p1:k=5->1<=(ba ps).length
 nf:b.nf/\a.nf/\l.nf
 at':∀ j (h:j<a.list.length),(j:Int)<lD strF k nm a.len\/a.list[j].2.atom=true
 pb:∀ p∈b.list,eO 1 p.1
 pa:∀ p∈a.list,eO 0 p.1
 pl:∀ p∈l.list,eO 4 p.1
 vs:∀ q∈l.list.map (·.1),(ba (q.getD 3 .un)).length<=32
theorem Wl.fN:Wl (.mk k nm num ps b a l)↔DP k nm ps b a l/\(∀ p∈b.list,Wl p.2)/\(∀ p∈a.list,Wl p.2)/\(∀ p∈l.list,Wl p.2):=by
 constructor
 ·rintro⟨hT,hn,hg⟩;obtain⟨hr,hp,tb,ta,tl⟩:=hT;obtain⟨hh,h6,h5,hf,hv,gb,ga,gl⟩:=hg;rw[xD]at gb ga gl;by_cases hk:nF k=true
  ·have h3:k=1\/k=2\/k=3:=by simpa[nF]using hk
   have l0:=hh.b7 (by omega);have l1:=hh.a0 h3;have l2:=hh.l8 (by omega);rw[ae.aC]at l0 l1 l2;have e0:=Q7 l0;have e1:=Q7 l1;have e2:=Q7 l2;refine⟨⟨hr,hp,hh,h6,h5,hf,fun j h=>by grind,?_,?_,?_,hv⟩,?_,?_,?_⟩<;>simp[e0,e1,e2]
  ·simp only[dZ,J3,Q0,decide_eq_true_eq]at hn;obtain⟨-,na,nb,nl⟩:=hn.resolve_left hk;rw[zy]at na;rw[tS]at nb nl;refine⟨⟨hr,hp,hh,h6,h5,hf,fun j h=>by simpa using(na j h).1,fun p h=>(ae.cU tb p h).1,fun p h=>(ae.cU ta p h).1,fun p h=>(ae.cU tl p h).1,hv⟩,fun p h=>?_,fun p h=>?_,fun p h=>?_⟩
   ·obtain⟨j,hj,rfl⟩:=J5 h;exact⟨(ae.cU tb _ h).2,nb j hj,gb _ h⟩
   ·obtain⟨j,hj,rfl⟩:=J5 h;exact⟨(ae.cU ta _ h).2,(na j hj).2,ga _ h⟩
   ·obtain⟨j,hj,rfl⟩:=J5 h;exact⟨(ae.cU tl _ h).2,nl j hj,gl _ h⟩
 ·rintro⟨h,hb,ha,hl⟩;refine⟨?_,?_,?_⟩
  ·exact⟨h.rng,h.nms,ae.Af fun p hp=>⟨h.pb p hp,(hb p hp).1⟩,ae.Af fun p hp=>⟨h.pa p hp,(ha p hp).1⟩,ae.Af fun p hp=>⟨h.pl p hp,(hl p hp).1⟩⟩
  ·simp only[dZ,J3,Q0,decide_eq_true_eq];refine .inr ⟨⟨h.hd.lo,h.hd.hi⟩,zy.2 fun j hj=>⟨by simpa using h.at' j hj,(ha _ (Q6 hj)).2.1⟩,tS.2 fun j hj=>(hb _ (Q6 hj)).2.1,tS.2 fun j hj=>(hl _ (Q6 hj)).2.1⟩
  ·exact⟨h.hd,h.app,h.p1,h.nf,h.vs,xD.2 fun p hp=>(hb p hp).2.2,xD.2 fun p hp=>(ha p hp).2.2,xD.2 fun p hp=>(hl p hp).2.2⟩
structure iY(L L':List (List AV× Ex)):Prop where
 pre:L'.map (·.1)=L.map (·.1)
 atm:∀ (j:Nat) (h:j<L.length) (h':j<L'.length),L[j].2.atom=true->L'[j].2.atom=true
 wl:∀ p∈L',Wl p.2
theorem iY.len(h:iY L L'):L'.length=L.length:=by simpa using congrArg List.length h.pre
theorem iY.eO{L L':List (List AV× Ex)}{m:Nat}(h:iY L L')(hp:∀ p∈L,eO m p.1):∀ p∈L',Go.Ev.eO m p.1:=fun p hp'=>by
 have:p.1∈L.map (·.1):=by rw[<-h.pre];grind
 grind
theorem iY.nil:iY [] []:=⟨rfl,fun _ _ _ h=>h,by simp⟩
theorem iY.snoc{p':List AV× Ex}(h:iY L L')(h1:p'.1=p.1)(h2:p.2.atom=true->p'.2.atom=true)(h3:Wl p'.2):iY (L++[p]) (L'++[p']):=by
 have hl:=h.len;refine⟨by simp[h.pre,h1],fun j hj hj' ha=>?_,fun q hq=>?_⟩
 ·by_cases e:j<L.length
  ·rw[V3 e]at ha;rw[V3 (by omega)];exact h.atm j e (by omega) ha
  grind
 ·rcases Z7.1 hq with hq|hq
  ·exact h.wl q hq
  grind
theorem DP.swap(h:DP k nm ps b a l)(hb:iY b.list b'.list)(ha:iY a.list a'.list)(hl:iY l.list l'.list)(hf:b'.nf/\a'.nf/\l'.nf):DP k nm ps b' a' l':=by
 have eb:b'.len=b.len:=by rw[ae.aC,ae.aC];exact hb.len
 have ea:a'.len=a.len:=by rw[ae.aC,ae.aC];exact ha.len
 have el:l'.len=l.len:=by rw[ae.aC,ae.aC];exact hl.len
 refine⟨h.rng,h.nms,by rw[eb,ea,el];exact h.hd,by rw[ea];exact h.app,h.p1,hf,fun j hj=>?_,hb.eO h.pb,ha.eO h.pa,hl.eO h.pl,by rw[hl.pre];exact h.vs⟩;have hj':j<a.list.length:=by rw[<-ha.len];grind
 rw[ea];exact(h.at' j hj').imp id (ha.atm j hj' hj)
theorem Wl.swap{k:Int}{nm:ah}{num:Int}{ps:AV}{b a l b' a' l':ae}(h:Wl (.mk k nm num ps b a l))(hb:iY b.list b'.list)(ha:iY a.list a'.list)(hl:iY l.list l'.list)(hf:b'.nf/\a'.nf/\l'.nf):Wl (.mk k nm num ps b' a' l'):=
 Wl.fN.2 ⟨(Wl.fN.1 h).1.swap hb ha hl hf,hb.wl,ha.wl,hl.wl⟩
def cL(s:ah)(L:List (List AV× Ex)):Nat:=(L.map fun p=>p.2.bM.count s).sum
def vL(s:ah)(L:List (List AV)):Nat:=(L.map fun p=>(ba (p.getD 3 .un)).count s).sum
theorem wD(s:ah):∀ l:ae,l.bC.count s=cL s l.list
 |.nil _=>by simp[ae.bC,cL,ae.list]
 |.cons p x l=>by have:=wD s l;simp only[ae.bC,Z8,this,cL,ae.list,Q2,Q3]
theorem Lv(s:ah):∀ l:ae,l.iX.count s=vL s (l.list.map (·.1))+cL s l.list
 |.nil _=>by simp[ae.iX,cL,vL,ae.list]
 |.cons p x l=>by have:=Lv s l;simp only[ae.iX,Z8,this,cL,vL,ae.list,Q2,Q3,cD];omega
theorem aaF(s:ah)(l:ae):l.gY.count s=((l.list.map (·.1)).map fun q=>fD (q.headD .un)).count s+cL s l.list:=by rw[(Dg l).count_eq,Z8,wD,V4];rfl
theorem Bl(s:ah)(k:Int)(nm:ah)(num:Int)(ps:AV)(b a l:ae):(Ex.mk k nm num ps b a l).bM.count s=(ba ps).count s+((b.list.map (·.1)).map fun q=>fD (q.headD .un)).count s+vL s (l.list.map (·.1))+(cL s b.list+cL s a.list+cL s l.list):=by grind[Ex.bM,aaF,wD,Lv]
theorem NI(s:ah)(hb:iY b.list b'.list)(hl:iY l.list l'.list):
  (Ex.mk k nm num ps b' a' l').bM.count s+(cL s b.list+cL s a.list+cL s l.list)=(Ex.mk k nm num ps b a l).bM.count s+(cL s b'.list+cL s a'.list+cL s l'.list):=by
 rw[Bl,Bl,hb.pre,hl.pre];omega
mutual
def _root_.Go.Ev.Ex.lw:Ex->Nat
 |.mk k _ _ _ b a l=>(if k=6 then 34+a.xm else 1+a.lw)+b.lw+l.lw
def _root_.Go.Ev.ae.lw:ae->Nat
 |.nil _=>0
 |.cons _ x l=>x.lw+l.lw
def _root_.Go.Ev.ae.xm:ae->Nat
 |.nil _=>0
 |.cons _ x _=>x.lw
end
def wL(L:List (List AV× Ex)):Nat:=(L.map fun p=>p.2.lw).sum
theorem qa:∀ l:ae,l.lw=wL l.list
 |.nil _=>by simp[ae.lw,wL,ae.list]
 |.cons p x l=>by have:=qa l;simp only[ae.lw,this,wL,ae.list,Q2,Q3]
theorem Zd:∀ x:Ex,1<=x.lw
 |.mk k nm num ps b a l=>by simp only[Ex.lw];grind
theorem NO:∀ L:List (List AV× Ex),L.length<=wL L
 |[]=>by grind
 |p::L=>by have h1:=NO L;have h2:=Zd p.2;simp only[wL,Q2,Q3,J6]at h1|-;omega
theorem Ay:∀ {L:List (List AV× Ex)}{p:List AV× Ex},p∈L->p.2.lw<=wL L
 |[],p,h=>by grind
 |q::L,p,h=>by
  simp only[wL,Q2,Q3];rcases Q8.1 h with rfl|h
  ·omega
  ·have:=Ay h;simp only[wL]at this;omega
theorem Ae(h:Wl x)(ha:x.atom=true):x.lw=1/\x.size=1/\x.bM=[]:=by
 obtain⟨k,nm,num,ps,b,a,l⟩:=x;obtain⟨hh,-⟩:=Wl.fN.1 h;have ha:nF k=true:=ha;have h3:k=1\/k=2\/k=3:=by simpa[nF]using ha
 obtain⟨f,rfl⟩:=lK (hh.hd.b7 (by omega));obtain⟨f,rfl⟩:=lK (hh.hd.a0 h3);obtain⟨f,rfl⟩:=lK (hh.hd.l8 (by omega));have hp:=Q7 (hh.hd.p5 (by omega));grind[Ex.lw,ae.lw,Ex.size,ae.size,Ex.bM,ae.gY,ae.bC,ae.iX]
theorem AL(h:Wl (.mk 6 nm num ps b a l)):∃ p,∃ x,∃ t:ae,a=.cons p x t/\(∀ q∈t.list,q.2.atom=true/\Wl q.2)/\Wl x:=by
 obtain⟨hh,-,ha,-⟩:=Wl.fN.1 h;have h6:=hh.app rfl;cases a with
 |nil f=>simp only[ae.len]at h6;omega
 |cons p x t =>refine⟨p,x,t,rfl,fun q hq=>⟨?_,ha q (by simp[ae.list,hq])⟩,ha (p,x) (by simp[ae.list])⟩;obtain⟨j,hj,rfl⟩:=J5 hq;have:=hh.at' (j+1) (by simpa[ae.list]using hj);grind[ae.list,lD,fP]
theorem Py:∀ {L:List (List AV× Ex)},(∀ q∈L,q.2.lw=1)->wL L=L.length
 |[],_=>by simp[wL]
 |p::L,h=>by
  have h1:=Py fun q hq=>h q (Z6 _ hq)
  have h2:=h p (J4 ..);simp only[wL,Q2,Q3,J6]at h1|-;omega
theorem NC(h:Wl (.mk k nm num ps b a l))(hb:iY b.list b'.list)(ha:iY a.list a'.list)(hl:iY l.list l'.list)
  (hw:wL b'.list+wL a'.list+wL l'.list+e<=wL b.list+wL a.list+wL l.list):(Ex.mk k nm num ps b' a' l').lw+e<=(Ex.mk k nm num ps b a l).lw:=by
 by_cases hk:k=6
 ·subst hk;obtain⟨p,x,t,rfl,ht,-⟩:=AL h;obtain⟨hh,-⟩:=Wl.fN.1 h;obtain⟨f,rfl⟩:=lK (hh.hd.b7 (by omega));obtain⟨f,rfl⟩:=lK (hh.hd.l8 (by omega));have lb:=hb.len;have ll:=hl.len;have la:=ha.len;have e1:=Q7 lb;have e2:=Q7 ll;cases a' with
  |nil f=>simp[ae.list]at la
  |cons p' x' t' =>
   have w1:=Py fun q hq=>(Ae (ht q hq).2 (ht q hq).1).1
   have w2:=NO t'.list;simp only[ae.list,J6]at la;simp only[Ex.lw,ae.xm,qa,e1,e2,ae.list,if_pos];simp only[e1,e2,ae.list,wL,Q2,Q3,List.map_nil,List.sum_nil]at hw w1 w2|-;omega
 grind[Ex.lw,qa]
theorem MJ:∀ {L:List (List AV× Ex)},(∀ q∈L,q.2.size=1)->(L.map fun p=>p.2.size).sum=L.length
 |[],_=>rfl
 |p::L,h=>by
  have h1:=MJ fun q hq=>h q (Z6 _ hq)
  have h2:=h p (J4 ..);simp only[Q2,Q3,J6];omega
theorem sI:∀ x:Ex,Wl x->x.size<=x.lw:=by
 refine Ex.ind fun k nm num ps b a l hb ha hl=>?_
 intro h;obtain⟨hh,kb,ka,kl⟩:=Wl.fN.1 h;have one:∀ q:ae,(∀ p∈q.list,Wl p.2->p.2.size<=p.2.lw)->(∀ p∈q.list,Wl p.2)->q.size<=wL q.list:=by
  intro q h1 h2;rw[ae.size_eq];unfold wL;generalize q.list=L at *;induction L with
  |nil=>simp
  |cons p L ih =>grind
 by_cases hk:k=6
 ·subst hk;obtain⟨p,x,t,rfl,ht,hx⟩:=AL h;have h1:=ha (p,x) (by simp[ae.list]) hx;have h6:=hh.app rfl;simp only[ae.len]at h6;have st:t.size=t.len:=by
   rw[ae.size_eq,ae.aC];exact MJ fun q hq=>(Ae (ht q hq).2 (ht q hq).1).2.1
  grind[Ex.size,ae.size,Ex.lw,ae.xm,qa]
 grind[Ex.size,Ex.lw,qa]
theorem RN:∀ x:Ex,x.lw<=34*x.size:=by
 refine Ex.ind fun k nm num ps b a l hb ha hl=>?_
 have one:∀ q:ae,(∀ p∈q.list,p.2.lw<=34*p.2.size)->wL q.list<=34*q.size:=by
  intro q h1;rw[ae.size_eq];unfold wL;generalize q.list=L at *;induction L with
  |nil=>simp
  |cons p L ih =>grind
 have hH:a.xm<=a.lw:=by cases a<;>simp[ae.xm,ae.lw]
 grind[qa,Ex.size,Ex.lw]
theorem zh(s:ah)(L M:List (List AV× Ex)):cL s (L++M)=cL s L+cL s M:=by simp[cL]
theorem EK(L M:List (List AV× Ex)):wL (L++M)=wL L+wL M:=by simp[wL]
theorem LK(s:ah)(p:List AV× Ex):cL s [p]=p.2.bM.count s:=by simp[cL]
theorem QY(p:List AV× Ex):wL [p]=p.2.lw:=by simp[wL]
structure Sm(x x':Ex):Prop where
 wl:Wl x'
 atm:x.atom=true->x'.atom=true
 cnt:∀ s,x'.bM.count s=x.bM.count s
 lw:x'.lw<=x.lw
theorem Sm.refl(h:Wl x):Sm x x:=⟨h,id,fun _=>rfl,Q1 _⟩
theorem Sm.trans{x y z:Ex}(h:Sm x y)(k:Sm y z):Sm x z:=⟨k.wl,fun ha=>k.atm (h.atm ha),fun s=>(k.cnt s).trans (h.cnt s),Nat.le_trans k.lw h.lw⟩
theorem Gg{G:Ex->Ex}(h:∀ p∈L,Sm p.2 (G p.2)):iY L (L.map fun p=>(p.1,G p.2))/\(∀ s,cL s (L.map fun p=>(p.1,G p.2))=cL s L)/\wL (L.map fun p=>(p.1,G p.2))<=wL L:=by
 refine⟨⟨by simp,fun j hj hj' ha=>?_,fun q hq=>?_⟩,fun s=>?_,?_⟩
 ·simp only[List.getElem_map];exact(h _ (Q6 hj)).atm ha
 ·obtain⟨p,hp,rfl⟩:=Z9.1 hq;exact(h p hp).wl
 ·unfold cL;rw[V4];exact congrArg List.sum (List.map_congr_left fun p hp=>(h p hp).cnt s)
 ·induction L with
  |nil=>grind
  |cons p L ih =>have:=(h p (J4 ..)).lw;grind[wL]
mutual
def fF(F:Ex->Ex):Ex->Ex
 |.mk k nm num ps b a l=>F (.mk k nm num ps (lO F b) (lO F a) (lO F l))
def lO(F:Ex->Ex):ae->ae
 |.nil f=>.nil f
 |.cons p x l=>.cons p (fF F x) (lO F l)
end
theorem yG(F:Ex->Ex):∀ l:ae,(lO F l).list=l.list.map fun p=>(p.1,fF F p.2)
 |.nil _=>rfl
 |.cons p x l=>by simp[lO,ae.list,yG F l]
theorem zj(h:l.nf):(lO F l).nf:=by cases l<;>exact h
theorem Gm(h:Wl (.mk k nm num ps b a l))(hb:∀ p∈b.list,Sm p.2 (fF F p.2))(ha:∀ p∈a.list,Sm p.2 (fF F p.2))(hl:∀ p∈l.list,Sm p.2 (fF F p.2)):
  Sm (.mk k nm num ps b a l) (.mk k nm num ps (lO F b) (lO F a) (lO F l)):=by
 obtain⟨b1,b2,b3⟩:=Gg hb;obtain⟨a1,a2,a3⟩:=Gg ha;obtain⟨l1,l2,l3⟩:=Gg hl;rw[<-yG]at b1 b3 a1 a3 l1 l3;have hs:=NC (e:=0) h b1 a1 l1 (by omega);have hf:=(Wl.fN.1 h).1.nf;refine⟨h.swap b1 a1 l1 ⟨zj hf.1,zj hf.2.1,zj hf.2.2⟩,id,fun s=>?_,by omega⟩;have e:=NI s (k:=k) (nm:=nm) (num:=num) (ps:=ps) (a:=a) (a':=lO F a) b1 l1;grind[yG]
def gN(ns gs fr:List ah)(x:Ex):Ex:=match hQ x with
 |some s=>if s∈ns then .mk 6 [] 0 .sn (.nil true) (aX (([],cf (gs.getD (jy ns s 0).toNat []))::((fr.map fun y=>([],cf y))++(kD x).list.tail))) (.nil true) else x
 |none=>x
def pN(to:ah->Option ah):Ex->Ex
 |.mk k nm num ps b a l=>if k=1 then .mk k ((to nm).getD nm) num ps b a l else .mk k nm num ps b a l
theorem OK{s:ah}(h:hQ x=some s):∃ nm num ps b p z t l,x=.mk 6 nm num ps b (.cons p z t) l/\z.kind=1/\s=iw z:=by
 obtain⟨k,nm,num,ps,b,a,l⟩:=x;simp only[hQ]at h;by_cases hk:k=6
 ·rw[if_pos hk]at h;cases a with
  |nil f=>cases h
  |cons p z t =>
   simp only[ae.list]at h;by_cases hz:z.kind=1
   ·rw[if_pos hz]at h;cases h;exact⟨_,_,_,_,_,_,_,_,by rw[hk],hz,rfl⟩
   grind
 grind
theorem OV{s:ah}(h:hQ x=some s)(hs:s∈ns):gN ns gs fr x=.mk 6 [] 0 .sn (.nil true) (aX (([],cf (gs.getD (jy ns s 0).toNat []))::((fr.map fun y=>([],cf y))++(kD x).list.tail))) (.nil true):=by unfold gN;grind
theorem Dk(h:fh ns x=false):gN ns gs fr x=x:=by grind[gN,fh]
theorem acI(ns gs fr:List ah)(x:Ex):(gN ns gs fr x).kind=x.kind:=by
 unfold gN;cases h:hQ x with
 |none=>rfl
 |some s =>obtain⟨nm,num,ps,b,p,z,t,l,rfl,-,-⟩:=OK h;simp only;split<;>rfl
theorem acd:∀ x:Ex,(fF (gN ns gs fr) x).kind=x.kind
 |.mk ..=>by simp only[fF,acI];rfl
theorem BM(s:ah):Wl (cf s):=Wl.fN.2 ⟨⟨by omega,⟨[],.inl ⟨rfl,rfl⟩,by simp⟩,by constructor<;>simp[ba,ae.len],by omega,by omega,⟨rfl,rfl,rfl⟩,by simp[ae.list],by simp[ae.list],by simp[ae.list],by simp[ae.list],by simp[ae.list]⟩,by simp[ae.list],by simp[ae.list],by simp[ae.list]⟩
theorem Mj(h:∀ q∈L,q.2.atom=true/\Wl q.2)(s:ah):cL s L=0:=by
 induction L with
 |nil=>rfl
 |cons q L ih =>simp_all[Ae,cL]
theorem pg(l:ae):l.list.length=l.len:=(ae.aC l).symm
theorem TF(h:Wl x)(hn:fh ns x=true->(kD x).len+fr.length<=33):Sm x (gN ns gs fr x):=by
 by_cases hc:fh ns x=true
 case neg =>rw[Dk (by grind)];exact .refl h
 have hn:=hn hc;unfold fh at hc;cases hh:hQ x with
 |none=>grind
 |some s =>
  rw[hh]at hc;rw[OV hh (by grind)];obtain⟨nm,num,ps,b,p,z,t,l,rfl,hz,-⟩:=OK hh;obtain⟨hh',-,ha,-⟩:=Wl.fN.1 h;obtain⟨p',x',t',e,ht,hx⟩:=AL h;cases e;have h6:=hh'.app rfl;simp only[ae.len,kD]at h6 hn;obtain⟨f,rfl⟩:=lK (hh'.hd.b7 (by omega));obtain⟨f,rfl⟩:=lK (hh'.hd.l8 (by omega));have hp:=Q7 (hh'.hd.p5 (by omega));have za:z.atom=true:=by unfold Ex.atom;rw[hz];rfl
  simp only[kD,ae.list,List.tail_cons];generalize gs.getD (jy ns s 0).toNat []=g;have hat:∀ q∈(([],cf g)::((fr.map fun y=>(([]:List AV),cf y))++t.list)),q.2.atom=true/\Wl q.2:=by
   intro q hq;rcases Q8.1 hq with rfl|hq
   ·exact⟨rfl,BM _⟩
   ·rcases Z7.1 hq with hq|hq
    ·obtain⟨y,-,rfl⟩:=Z9.1 hq;exact⟨rfl,BM _⟩
    grind
  have hpr:∀ q∈(([],cf g)::((fr.map fun y=>(([]:List AV),cf y))++t.list)),eO 0 q.1:=by
   intro q hq;rcases Q8.1 hq with rfl|hq
   ·rfl
   ·rcases Z7.1 hq with hq|hq
    ·obtain⟨y,-,rfl⟩:=Z9.1 hq;rfl
    ·exact hh'.pa q (by simp[ae.list,hq])
  obtain⟨L,hL⟩:∃ L,(([],cf g)::((fr.map fun y=>(([]:List AV),cf y))++t.list))=L:=⟨_,rfl⟩;have hlen:L.length=1+(fr.length+t.len):=by rw[<-hL];simp[pg];omega
  rw[hL]at hat hpr|-;have hol:(aX L).len=1+(fr.length+t.len):=by rw[ae.aC,fC,hlen]
  refine⟨Wl.fN.2 ⟨⟨by omega,⟨[],.inl ⟨rfl,rfl⟩,by simp⟩,?_,fun _=>by grind,by omega,⟨rfl,by rw[<-hL];trivial,rfl⟩,fun j hj=>.inr ?_,by simp[ae.list],by rw[fC];exact hpr,by simp[ae.list],by simp[ae.list]⟩,by simp[ae.list],by rw[fC];exact fun q hq=>(hat q hq).2,by simp[ae.list]⟩,by simp[Ex.atom,Ex.kind,nF],fun s=>?_,?_⟩
  ·constructor<;>simp[ba,ae.len]<;>omega
  ·simp only[fC]at hj|-;exact(hat _ (Q6 hj)).1
  ·rw[Bl,Bl];have e1:cL s (aX L).list=0:=by rw[fC];exact Mj hat s
   have e2:cL s (ae.cons p z t).list=0:=Mj (fun q hq=>by
    rcases Q8.1 hq with rfl|hq
    ·exact⟨za,hx⟩
    ·exact ht q hq) s
   rw[e1,e2,hp];simp[ae.list,cL,vL,ba]
  grind[cf,Ae,Ex.lw,aX,ae.xm,ae.lw]
theorem ph(h:p∈b.list\/p∈a.list\/p∈l.list):∀ y∈cP p.2,y∈cP (.mk k nm num ps b a l):=by grind[AE,cP]
theorem yt:∀ x:Ex,Wl x->(∀ y∈cP x,fh ns y=true->(kD y).len+fr.length<=33)->Sm x (fF (gN ns gs fr) x):=by
 refine Ex.ind fun k nm num ps b a l hb ha hl=>?_
 intro h hy;obtain⟨hh,wb,wa,wl⟩:=Wl.fN.1 h;have key:=Gm h (fun p hp=>hb p hp (wb p hp) fun y h1=>hy y (ph (.inl hp) y h1)) (fun p hp=>ha p hp (wa p hp) fun y h1=>hy y (ph (.inr (.inl hp)) y h1)) (fun p hp=>hl p hp (wl p hp) fun y h1=>hy y (ph (.inr (.inr hp)) y h1));refine key.trans ?_;refine TF key.wl fun hc=>?_
 have e:fh ns (.mk k nm num ps b a l)=true:=by
  cases a with
  |nil f=>exact hc
  |cons p z t =>
   unfold fh hQ at hc|-;simp only[lO,ae.list,acd]at hc|-;by_cases hk:k=6
   ·by_cases hz:z.kind=1
    ·have:iw (fF (gN ns gs fr) z)=iw z:=by
      obtain⟨kz,nz,mz,pz,bz,az,lz⟩:=z;cases hz;rfl
     grind
    grind
   grind
 grind[cP,yG,pg,kD]
theorem Sr(h:Wl x):Sm x (pN to x):=by
 obtain⟨k,nm,num,ps,b,a,l⟩:=x;simp only[pN];by_cases hk:k=1
 ·rw[if_pos hk];obtain⟨hh,r⟩:=Wl.fN.1 h;refine⟨Wl.fN.2 ⟨⟨hh.rng,hh.nms,hh.hd,hh.app,hh.p1,hh.nf,fun j hj=>?_,hh.pb,hh.pa,hh.pl,hh.vs⟩,r⟩,fun ha=>ha,fun s=>rfl,Q1 _⟩;have:=hh.hd.a0 (.inl hk);rw[ae.aC]at this;omega
 ·rw[if_neg hk];exact .refl h
theorem Ii:∀ x:Ex,Wl x->Sm x (fF (pN to) x):=by
 refine Ex.ind fun k nm num ps b a l hb ha hl=>?_
 intro h;obtain⟨hh,wb,wa,wl⟩:=Wl.fN.1 h;have key:=Gm h (fun p hp=>hb p hp (wb p hp)) (fun p hp=>ha p hp (wa p hp)) (fun p hp=>hl p hp (wl p hp));exact key.trans (Sr key.wl)
def ib(st:St)(n0:Nat)(v:AV)(z:Nat)(l:ae):Prop :=
 v=l.slice z\/(l.len≠0/\∃ r g al,v=.sl r 0 l.len z none/\st.ce r=some (l.flat,g,al)/\r<st.next/\g<st.next/\n0<=r/\n0<=g)
section
variable {z : Nat}
theorem ib.keep(h:ib st n0 v z l)(k:Kp [] [] st s):ib s n0 v z l:=by
 rcases h with h|⟨h0,r,g,al,h1,h2,h3,h4,h5,h6⟩
 ·exact .inl h
 ·exact .inr ⟨h0,r,g,al,h1,k.ce h2 h3 h4 (by simp) (by simp),J8 h3 k.next,J8 h4 k.next,h5,h6⟩
theorem ib.Df(h:ib st n0 v z l){X:List Nat}(hX:∀ x,x∈X->x<n0):cH st X v z l:=by
 rcases h with h|⟨h0,r,g,al,h1,h2,h3,h4,h5,h6⟩
 ·exact .inl h
 ·exact .inr ⟨h0,r,g,al,_,h1,h2,h3,h4,fun hh=>by grind,fun hh=>by grind⟩
theorem ib.fz(h:ib st n0 v z l)(hT:l.Ty m)(hz:eD m+7=z):Fz n0 st v (l.slice z):=by
 rcases h with rfl|⟨h0,r,g,al,rfl,h2,h3,h4,h5,h6⟩
 ·exact .pure (ae.mg hT z)
 ·rw[ae.cZ (i:=0) (by omega)];exact .slice h2 (py hT.pre hz).symm h6 (.pure (ae.oF hT)) h0
theorem ib.sc(h:ib st n0 v z l):bS v=true:=(h.Df (X:=[]) (by simp)).sc
end
def BN(st:St)(n0:Nat)(v:AV):Ex->Prop
 |.mk k nm num ps b a l=>∃ bv av lv,v=.ag [.i .i64 k,.s nm,.i .i64 num,ps,bv,av,lv]/\ib st n0 bv 8 b/\ib st n0 av 7 a/\ib st n0 lv 11 l
theorem BN.pure(st:St)(n0:Nat):∀ x:Ex,BN st n0 (.ag x.cells) x
 |.mk k nm num ps b a l=>⟨_,_,_,rfl,.inl rfl,.inl rfl,.inl rfl⟩
theorem BN.keep{s:St}(k:Kp [] [] st s):∀ {x:Ex},BN st n0 v x->BN s n0 v x
 |.mk ..,⟨bv,av,lv,h1,h2,h3,h4⟩=>⟨bv,av,lv,h1,h2.keep k,h3.keep k,h4.keep k⟩
theorem BN.fz:∀ {x:Ex},x.Ty->BN st n0 v x->Fz n0 st v (.ag x.cells)
 |.mk k nm num ps b a l,hT,⟨bv,av,lv,h1,h2,h3,h4⟩=>by subst h1;exact .ag (.cons (.pure rfl) (.cons (.pure rfl) (.cons (.pure rfl) (.cons (.pure hT.2.1.pure) (.cons (h2.fz hT.2.2.1 rfl) (.cons (h3.fz hT.2.2.2.1 rfl) (.cons (h4.fz hT.2.2.2.2 rfl) .nil)))))))
theorem ib.head{t:ae}(hT:(ae.cons [] z t).Ty 0)(h:ib st n0 v 7 (.cons [] z t)):
  ∃ ad a0 a1,indexAddr prog 32 v (.i .i64 0)=some ad/\(∀ s,fieldAt 0 s ad=some (a0,s))/\(∀ s,fieldAt 1 s ad=some (a1,s))/\∀ s,Kp [] [] st s->loadAt prog 3 s a0=some (.i .i64 z.kind)/\loadAt prog 9 s a1=some (.s (iw z)):=by
 obtain⟨k,nm,num,ps,b,a,l⟩:=z;have hl:(ae.cons [] (Ex.mk k nm num ps b a l) t).len=t.len+1:=rfl;rcases h with rfl|⟨h0,r,g,al,rfl,h2,h3,h4,h5,h6⟩
 ·have ix:=dV underlying32 cI aH (ae.cons [] (Ex.mk k nm num ps b a l) t).flat (t.len+1) 0 (by omega);refine⟨.rp (ae.cons [] (Ex.mk k nm num ps b a l) t).flat,.rp (ae.cons [] (Ex.mk k nm num ps b a l) t).flat,.rp ((ae.cons [] (Ex.mk k nm num ps b a l) t).flat.drop 1),?_,fun s=>rfl,fun s=>rfl,fun s _=>⟨?_,?_⟩⟩
  ·rw[ae.cZ (i:=0) (by omega),hl];grind
  ·rw[wN nS EJ];simp[ae.flat,Ex.cells,Ex.kind]
  ·rw[wN jT nU];simp[ae.flat,Ex.cells,iw]
 ·have ix:=kQ jk.und jk.inf jk.sz r 0 (t.len+1) 0 none (by omega);refine⟨.p r (0+0*7),.p r (0+0*7+0),.p r (0+0*7+1),ix,fun s=>rfl,fun s=>rfl,fun s k=>?_⟩;have hc:=k.ce h2 h3 h4 (by simp) (by simp);rw[oE nS EJ,oE jT nU,au hc,au hc];simp[ae.flat,Ex.cells,Ex.kind,iw]
theorem wY:∀ {l:ae}{m:Nat},l.Ty m->bq l.flat=true
 |.nil _,_,_=>rfl
 |.cons p x l,m,h=>by exact gX (gX h.1.sc (Ex.dH h.2.1.wf)) (wY h.2.2)
theorem jw.slice{l:ae}(hT:l.Ty 0):jw st 7 (l.slice 7) l.len l.flat:=by
 have hl:=py hT.pre (z:=7) rfl;refine⟨l.bK 7,l.bJ 7,?_,l.Mw 7,l.yu 7,hl,?_,ae.oF hT,fun s _=>?_⟩
 ·cases l with
  |nil f=>cases f<;>rfl
  |cons p x t=>rfl
 ·exact wY hT
 ·cases l with
  |nil f=>cases f<;>rfl
  |cons p x t =>
   rw[ae.cZ (i:=0) (by simp[ae.len])];show cut _ 0 _=_
   rw[cQ,<-hl,dD]
theorem jw.row{o k:Nat}{q:Option Nat}{l:List AV}(h:bA st [] r l)(hc:cut l o (k*7)=some cs)(hl:cs.length=k*7)(hs:bq cs=true)(hp:aQ cs=true):jw st 7 (.sl r o k 7 q) k cs:=by
 refine⟨rfl,rfl,rfl,by simp,rfl,hl,hs,hp,fun s hk=>?_⟩;show @Bool.rec (fun _=>Option (List AV)) (rd s r o (k*7)) (some []) (Nat.beq k 0)=_
 by_cases h0:k=0
 ·simp_all
 ·have:Nat.beq k 0=false:=by rw[bu];grind
  rw[this];rw[(h.keep hk (by simp) (by simp)).rd,hc]
theorem abG:gO prog 172 32 1:=⟨Cc,by decide,⟨_,(by kernel_rfl:bm prog 32=some [.sn]),rfl⟩,by decide,by kernel_rfl,J1 (by kernel_rfl),J1 (by kernel_rfl)⟩
theorem DE{l:List AV}(h:l.length=1):∃ a,l=[a]:=by
 match l,h with
 |[a],_=>grind
theorem ZV{P:Program}{ty:Nat}(T:gO P ty e 1){x w:Operand}{a b d:AV}(hx:ai t x=a)(hy:ai t y=b)(hz:ai t w=d)(ha:a.cells=some [a])(hb:b.cells=some [b])(hd:d.cells=some [d]):
  bH (.buildSlice ty 3 #[(0,x),(1,y),(2,w)]) P S t st=some (.sl st.next 0 3 1 (some 3),st.aw [a,b,d]):=by
 obtain⟨zs,hzz,hzl⟩:=T.zero;obtain⟨z0,rfl⟩:=DE hzl;show(match ez P ty with
 |none=>none
 |some e=>match bm P e with
  |none=>none
  |some z=>(@Bool.rec (fun _=>aR) none (uq st 3 (aD P e) (fill (jB (aD P e)) (rep 3 z) [(0,ai t x),(1,ai t y),(2,ai t w)])) (J9 (3*aD P e) 16777216)))=_
 rw[T.el,hx,hy,hz];simp only[hzz,T.sl.sz];have h2:fill (jB 1) (rep 3 [z0]) [(0,a),(1,b),(2,d)]=some [a,b,d]:=by simp only[fill,jB,ha,hb,hd];rfl
 rw[h2];rfl
theorem acb{x:Operand}{a:AV}(hx:ai t x=.i .i64 k)(hz:ai t y=a)(ha:a.cells=some [a]):bH (.build 35 #[(0,x),(5,y)]) prog S t st=some (.ag [.i .i64 k,.s [],.i .i64 0,.sn,.sn,a,.sn],st):=by
 obtain⟨fs,h1,h2,h3,h4,h5,h6⟩:=Ah;show @Bool.rec (fun _=>aR) none (df prog 35 [(0,ai t x),(5,ai t y)] st) (fu prog 35)=_
 rw[yF,hx,hz];show df prog 35 _ st=_
 unfold df;rw[h1];simp only[sQ,iQ,jg,fill,h2,h6,yk,ha];rfl
theorem Uy{t:ae}(hT:(ae.cons [] z t).Ty 0)(h:ib st n0 v 7 (.cons [] z t)):∃ w,(∀ s,ia prog s 32 v (some (.i .i64 1)) none none=some w)/\∀ s,Kp [] [] st s->jw s 7 w t.len t.flat:=by
 have hl:(ae.cons [] z t).len=t.len+1:=rfl;have hf:(ae.cons [] z t).flat=z.cells++t.flat:=by simp[ae.flat]
 have hT':t.Ty 0:=by simp only[ae.Ty]at hT;grind
 have hfl:=py hT'.pre (z:=7) rfl;have hb:gy (t.len+1) (t.len+1) (some (.i .i64 1)) none none=some (1,t.len+1,t.len+1):=by
  show @Bool.rec (fun _=>Option (Nat× Nat× Nat)) none (some (1,t.len+1,t.len+1)) (J9 1 (t.len+1)&&J9 (t.len+1) (t.len+1)&&J9 (t.len+1) (t.len+1)&&true)=_
  simp_all[Nat.ble_eq_true_of_le]
 have hs:=KF jk;rcases h with rfl|⟨h0,r,g,al,rfl,h2,h3,h4,h5,h6⟩
 ·refine⟨.rs t.flat t.len 7,fun s=>?_,fun s _=>?_⟩
  ·rw[ae.cZ (i:=0) (by omega),hl,hf];unfold ia;have:Go.Ev.slice prog 32 (.rs (z.cells++t.flat) (t.len+1) 7) (some (.i .i64 1)) none none=some (.rs t.flat t.len 7):=by
    unfold Go.Ev.slice;have:(z.cells++t.flat).drop (1*7)=t.flat:=by rw[V0,<-z.aO,V6]
    simp_all
   grind
  ·refine⟨rfl,rfl,rfl,by simp,rfl,hfl,wY hT',ae.oF hT',fun s' _=>?_⟩;show cut _ 0 _=_
   rw[cQ,<-hfl,dD]
 ·refine⟨.sl r (0+1*7) (t.len+1-1) 7 none,fun s=>?_,fun s k=>?_⟩
  ·simp_all[ia,Go.Ev.slice]
  ·rw[Nat.zero_add,V0,Nat.add_sub_cancel];refine jw.row ⟨g,al,k.ce h2 h3 h4 (by simp) (by simp),J8 h3 k.next,J8 h4 k.next,by simp,by simp⟩ ?_ hfl (wY hT') (ae.oF hT');have h8:(z.cells++t.flat).drop 7=t.flat:=by rw[<-z.aO,V6]
   rw[hf,lJ _ _ _ (by rw[Q9,z.aO,hfl];grind),h8,<-hfl,Z5]
noncomputable def BP:Array Oper:=Fre.kT (aq (aj (aj (aj (f85.body.getD .skip)))))
noncomputable def HS(l:List Oper):List Oper:=[2,3,0,1,4,5,6,7,8,9,10].filterMap fun i=>l[i]?
noncomputable def zq:List Oper:=HS (eZ BP.toList)
theorem aal{rx rr r6 rF:Nat}{xc:List AV}{av:AV}{tl:ae}{g:ah}(t3:ab t 3=.p rF 0)(t4:ab t 4=.p rx 0)(t5:ab t 5=.p rr 0)(t6:ab t 6=.p r6 0)
  (hF:bA s [] rF [fv]) (hS:eV s [] fv fr) (hl:fr.length<=1000) (htl:tl.len<=1000) (h6:bA s [] r6 (cf g).cells) (hx:bA s [] rx xc) (hc5:cut xc 5 1=some [av]) (hT:(ae.cons [] z tl).Ty 0) (hA:ib s n0 av 7 (.cons [] z tl)) (hr:∃ l al,s.ce rr=some (l,rr,al)/\l.length=7) (hrl:rr<s.next) (hN:4000000<=N):
  ∃ t' s',kc ⟨prog,Tw c (N+2),false,f85.ntmps,N+2⟩ BP t s=.nx t' s'/\ab t' 5=.p rr 0/\s'.ce rr=some ((Ex.mk 6 [] 0 .sn (.nil true) (aX (([],cf g)::(eF fr++tl.list))) (.nil true)).cells,rr,[rr])/\Kp [rr] [rr] s s':=by
 obtain⟨l0,al0,hr0,hr7⟩:=hr;have q6:rd s r6 0 7=some (cf g).cells:=by rw[h6.rd,cQ,<-(cf g).aO,dD]
 have qF:∀ {s':St},Kp [] [] s s'->rd s' rF 0 1=some [fv]:=fun k=>by rw[(hF.keep k (by simp) (by simp)).rd];rfl
 have qx:∀ {s':St},Kp [] [] s s'->rd s' rx 5 1=some [av]:=fun k=>by rw[(hx.keep k (by simp) (by simp)).rd,hc5]
 have q6':∀ {s':St},Kp [] [] s s'->rd s' r6 0 7=some (cf g).cells:=fun k=>by rw[(h6.keep k (by simp) (by simp)).rd,cQ,<-(cf g).aO,dD]
 obtain⟨s1,v1,k1⟩:=WM (c:=c) hS (by omega) (N:=N+1) (by omega);have k2:Kp [] [] s1 (s1.aw (cf g).cells):=.aw _ _ _;have A2:=bA.new s1 [] (cf g).cells (by simp);obtain⟨w,sw,cw⟩:=Uy hT hA;obtain⟨s2,hs2⟩:∃ s2,s1.aw (cf g).cells=s2:=⟨_,rfl⟩;obtain⟨r2,hr2⟩:∃ r,s1.next=r:=⟨_,rfl⟩;rw[hs2]at k2 A2;rw[hr2]at A2;have b1:=fun(t:Tr AV) (h:ai t (.tmp 40)=.ag (cf g).cells)=>gT (S:=Tw c (N+2)) (st:=s1) lX (cs:=(cf g).cells) (by rw[h];exact j9 _) (Ex.aO _)
 rw[hs2,hr2]at b1;have K2:=k1.trans k2;obtain⟨vs,hvs⟩:∃ vs,(aX (eF fr)).slice 7=vs:=⟨_,rfl⟩;have cv:=jw.slice (st:=s2) (OE fr);rw[hvs]at cv v1;have cw2:=cw s2 K2;have c1:jw s2 7 (.sl r2 0 1 7 (some 1)) 1 (cf g).cells:=jw.row (k:=1) A2 (by rw[cQ,<-(cf g).aO,V0,dD]) (Ex.aO _) (Ex.dH (BM g).1.wf) (Ex.nX (BM g).1);have b3:=fun(t:Tr AV) (h1:ai t (.tmp 41)=.sl r2 0 1 7 (some 1)) (h2:ai t (.tmp 43)=vs) (h3:ai t (.tmp 46)=w)=>ZV (S:=Tw c (N+2)) (st:=s2) abG (t:=t) (x:=.tmp 41) (y:=.tmp 43) (w:=.tmp 46) h1 h2 h3 (by simp) cv.cells cw2.cells
 have k3:Kp [] [] s2 (s2.aw [.sl r2 0 1 7 (some 1),vs,w]):=.aw _ _ _;have A3:=bA.new s2 [] [.sl r2 0 1 7 (some 1),vs,w] (by simp);obtain⟨s3,hs3⟩:∃ s3,s2.aw [.sl r2 0 1 7 (some 1),vs,w]=s3:=⟨_,rfl⟩;obtain⟨r3,hr3⟩:∃ r,s2.next=r:=⟨_,rfl⟩;rw[hs3]at k3 A3 b3;rw[hr3]at A3 b3;have hvl:(aX (eF fr)).len=fr.length:=by rw[kh];simp[eF]
 have hks:cu [(.sl r2 0 1 7 (some 1),1,(cf g).cells),(vs,(aX (eF fr)).len,(aX (eF fr)).flat),(w,tl.len,tl.flat)]=(eF fr++tl.list).length+1:=by
  show 1+((aX (eF fr)).len+(tl.len+0))=_
  rw[hvl,Q9,pg,show(eF fr).length=fr.length by simp[eF]];omega
 have hkc:gu [(.sl r2 0 1 7 (some 1),1,(cf g).cells),(vs,(aX (eF fr)).len,(aX (eF fr)).flat),(w,tl.len,tl.flat)]=(cf g).cells++(aX (eF fr++tl.list)).flat:=by
  have:(aX (eF fr++tl.list)).flat=(aX (eF fr)).flat++tl.flat:=by rw[ae.sU,ae.sU,ae.sU tl,fC,fC];simp
  rw[this];simp[gu]
 obtain⟨s4,v4,k4⟩:=acy (c:=c) (st:=s3) (vs:=[(.sl r2 0 1 7 (some 1),1,(cf g).cells),(vs,(aX (eF fr)).len,(aX (eF fr)).flat),(w,tl.len,tl.flat)]) (by
  intro q hq;simp only[Q8,V2,or_false]at hq;rcases hq with rfl|rfl|rfl
  ·exact c1.keep k3
  ·exact cv.keep k3
  ·exact cw2.keep k3) (r:=r3) (q:=some 3) A3 (by simp) (by rw[hks];omega) (by rw[hks];simp[eF,pg];omega) (N:=N) (by omega)
 rw[hks,hkc]at v4;have v4':(Tw c (N+2)).call 86 [.sl r3 0 3 1 (some 3)] s3=some (.rs ((cf g).cells++(aX (eF fr++tl.list)).flat) ((eF fr++tl.list).length+1) 7,s4):=v4;have bo:=fun(t:Tr AV) (h:ai t (.tmp 48)=.rs ((cf g).cells++(aX (eF fr++tl.list)).flat) ((eF fr++tl.list).length+1) 7)=>acb (S:=Tw c (N+2)) (st:=s4) (t:=t) (x:=.const (.int .i64 6)) (y:=.tmp 48) (k:=6) rfl h (by simp)
 have K4:=((k1.trans k2).trans k3).trans k4;have hr4:=K4.ce hr0 hrl hrl (by simp) (by simp);obtain⟨cs,hcs⟩:∃ cs,(Ex.mk 6 [] 0 .sn (.nil true) (aX (([],cf g)::(eF fr++tl.list))) (.nil true)).cells=cs:=⟨_,rfl⟩;have hcs':[AV.i .i64 6,.s [],.i .i64 0,.sn,.sn,.rs ((cf g).cells++(aX (eF fr++tl.list)).flat) ((eF fr++tl.list).length+1) 7,.sn]=cs:=by rw[<-hcs];simp[Ex.cells,aX,ae.slice,kh]
 have hw:=bP hr4 0 cs (by rw[<-hcs,Ex.aO,hr7];exact Q1 _) (by rw[<-hcs'];rfl);rw[gZ,jG (by rw[<-hcs,Ex.aO,hr7])]at hw;rw[hcs']at bo;have sto:=aI cI aH s4 rr 0 cs (by rw[<-hcs,Ex.aO]);rw[hcs];have eA:∃ t',bR prog (Tw c (N+2)) f85.ntmps zq.toArray zq t s=.nx t' (s4.ax rr cs rr)/\ab t' 5=.p rr 0:=by simp[zq,HS,eZ,strip,BP,Fre.kT,aq,aj,f85,t3,t4,t5,t6,aH,qF (.refl _ _ _),v1,q6' k1,b1,qx K2,sw,b3,v4',bo,sto,hw]
 obtain⟨tA,eA,eT⟩:=eA;have hD:=acD (x:=⟨prog,Tw c (N+2),false,f85.ntmps,N+2⟩) (ops:=BP) (L:=zq) (fl:=[(2,0),(5,0),(5,2),(6,0),(6,2)]) (t:=t) (st:=s) (by kernel_rfl) (by kernel_rfl) (by kernel_rfl) eA (by
  intro R hR;simp[zq,HS,eZ,strip,BP,Fre.kT,aq,aj,f85,t3,t4,t5,t6,aH,qF (.refl _ _ _),v1,q6' k1,b1,qx K2,sw,b3,v4',bo,sto,hw]at hR;subst hR;simp only[V7,V8,V9,Q0];refine⟨bV rfl rfl rfl (s:=s) ?_,bV rfl rfl rfl (s:=s) ?_,bV rfl rfl rfl (s:=s1) ?_,bV rfl rfl rfl (s:=s) ?_,bV rfl rfl rfl (s:=s1) ?_⟩
  ·show bH (.load 35 (.tmp 6)) prog (Tw c (N+2)) _ s=_
   simp[t6,aH,q6]
  ·show bH (.load 32 (.tmp 44)) prog (Tw c (N+2)) _ s=_
   simp[qx (.refl _ _ _)]
  ·show bH (.load 32 (.tmp 44)) prog (Tw c (N+2)) _ s1=_
   simp[qx k1]
  ·show bH (.slice 32 (.tmp 45) (some (.const (.int .i64 1))) none none) prog (Tw c (N+2)) _ s=_
   simp[sw]
  ·show bH (.slice 32 (.tmp 45) (some (.const (.int .i64 1))) none none) prog (Tw c (N+2)) _ s1=_
   simp[sw])
 exact⟨tA,_,hD,eT,cj _ _ _,(K4.sub (by simp) (by simp)).trans (.ax (by simp) (by simp))⟩
theorem wK(h:jY v):bS v=true:=by rcases h.sl.1 with ⟨h,-⟩|h<;>rw[h]<;>rfl
theorem tQ{n:Nat}(h:ab t n=.p r 0)(hr:rd s r 0 7=some cs):eE prog [.cell n 35] (.rt t s)=some (.ag cs,s):=by simp[aG,aF,oT,IT h,aH,hr]
noncomputable def iV:Nat->Code
 |0=>f85.body.getD .skip
 |k+1=>aj (iV k)
theorem wI(s:St)(xc:List AV):∃ s0 s1 rx rr,s.next=rx/\s.aw xc=s0/\s0.next=rr/\s0.aw eM=s1/\s1.ce rx=some (xc,rx,[rx])/\s1.ce rr=some (eM,rr,[rr])/\rx<rr/\rr<s1.next/\s.next<=rx/\Kp [] [] s s1:=by have c0:=cz (st:=s) xc;have k0:Kp [] [] s (s.aw xc):=.aw _ _ _;have k1:Kp [] [] (s.aw xc) ((s.aw xc).aw eM):=.aw _ _ _;exact⟨_,_,_,_,rfl,rfl,rfl,rfl,k1.ce c0 (Z3 _) (Z3 _) (by simp) (by simp),cz _,Z3 _,Z3 _,Q1 _,k0.trans k1⟩
def wq(o:Option (AV× St))(s:St)(n0:Nat)(x:Ex):Prop:=∃ s' v',o=some (v',s')/\BN s' n0 v' x/\Kp [] [] s s'
theorem SY{re rN rF:Nat}{cells:List AV}{E:Ex}{nv:AV}(hE:E.Ty)(hEs:E.size<=1000000)(h7:cells.length=7)(hre:bA s [] re cells)(hB:Bx s [] (.ag cells) E)(hNv:bA s [] rN [nv])(hG:eV s [] nv gs)(hgl:gs.length=(aN E).names.length)(hF:bA s [] rF [fv])(hFr:eV s [] fv fr)(hl:fr.length<=1000)(hx:Wl x)(hv:BN s n0 v x)(hM:4000000<=N):
  wq ((Tw c (N+3)).call 85 [v,.p re 0,.p rN 0,.p rF 0] s) s n0 (gN (aN E).names gs fr x):=by
 rw[dt rfl func85 rfl (J1 rfl)];unfold aV;obtain⟨k,nm,num,ps,b,a,l⟩:=x;obtain⟨hh,-⟩:=Wl.fN.1 hx;have hTx:=hx.1;simp only[Ex.Ty]at hTx;obtain⟨bv,av,lv,rfl,g2,g3,g4⟩:=id hv;have sps:bS ps=true:=wK hh.nms;obtain⟨xc,hxc⟩:∃ xc:List AV,[AV.i .i64 k,.s nm,.i .i64 num,ps,bv,av,lv]=xc:=⟨_,rfl⟩;have hx7:xc.length=7:=by rw[<-hxc];rfl
 have hxs:bq xc=true:=by rw[<-hxc];simp[sps,g2.sc,g3.sc,g4.sc]
 rw[hxc]at hv|-;obtain⟨s0,s1,rx,rr,hrx,hs0,hrr,hs1,cx,cr,lx,lr,lo,K1⟩:=wI s xc;show wq (eE prog f85.results.toList (ao (iV 0) ⟨prog,Tw c (N+2),false,f85.ntmps,N+2⟩ (tmpsOf [.ag xc,.p re 0,.p rN 0,.p rF 0] 0 .lf) s)) s n0 _
 have zz:bm prog 35=some eM:=qH;have a0:∃ t,ao (aq (iV 0)) ⟨prog,Tw c (N+2),false,f85.ntmps,N+2⟩ (tmpsOf [.ag xc,.p re 0,.p rN 0,.p rF 0] 0 .lf) s=.nx t s1/\ab t 1=.p re 0/\ab t 2=.p rN 0/\ab t 3=.p rF 0/\ab t 4=.p rx 0/\ab t 5=.p rr 0:=by simp[iV,aq,f85,hrx,hs0,aJ,zz,hrr,hs1]
 obtain⟨t0,a0,b1,b2,b3,b4,b5⟩:=a0;rw[dw rfl a0,show aj (iV 0)=iV 1 from rfl];have x0:rd s1 rx 0 1=some [.i .i64 k]:=by rw[au cx,<-hxc];rfl
 have x5:rd s1 rx 5 1=some [av]:=by rw[au cx,<-hxc];rfl
 have x7:rd s1 rx 0 7=some xc:=by rw[au cx,cQ,<-hx7,dD]
 have hw:=bP cr 0 xc (by rw[hx7];exact Q1 _) hxs;rw[gZ,jG (by rw[hx7];rfl)]at hw;have sto:=aI cI aH s1 rr 0 xc hx7;have kr:Kp [] [] s (s1.ax rr xc rr):=dz K1 (.ax (A:=[rr]) (B:=[rr]) (by simp) (by simp)) (by simp;omega) (by simp;omega);have same:(∃ t,ao (aq (iV 1)) ⟨prog,Tw c (N+2),false,f85.ntmps,N+2⟩ t0 s1=.rt t (s1.ax rr xc rr)/\ab t 5=.p rr 0)->gN (aN E).names gs fr (.mk k nm num ps b a l)=.mk k nm num ps b a l->
   wq (eE prog f85.results.toList (ao (iV 1) ⟨prog,Tw c (N+2),false,f85.ntmps,N+2⟩ t0 s1)) s n0 (gN (aN E).names gs fr (.mk k nm num ps b a l)):=by
  rintro⟨t,e1,e2⟩ e;rw[BH rfl e1,e];refine⟨_,.ag xc,tQ e2 (by rw[au (cj _ _ _),cQ,<-hx7,dD]),hv.keep kr,kr⟩
 by_cases hk:k=6
 case neg =>refine same ?_ (Dk (by simp[fh,hQ,hk]));simp[iV,aq,aj,f85,br];rw[dj (by kernel_rfl)];simp[b4,b5,aH,x0,x7,hk,sto,hw]
 subst hk;obtain⟨p,z,tl,rfl,ht,hz⟩:=AL hx;have hp0:p=[]:=hh.pa (p,z) (by simp[ae.list]);subst hp0;have hTa:=hTx.2.2.2.1;obtain⟨ad,p0,p1,ix,f0,f1,ld⟩:=g3.head hTa;obtain⟨l0,l1⟩:=ld s1 K1;by_cases hzk:z.kind=1
 case neg =>refine same ?_ (Dk (by simp[fh,hQ,ae.list,hzk]));simp[iV,aq,aj,f85,br];rw[dj (by kernel_rfl)];simp[b4,b5,aH,x0,x5,x7,ix,f0,l0,hzk,sto,hw]
 have re7:rd s1 re 0 7=some cells:=by rw[(hre.keep K1 (by simp) (by simp)).rd,cQ,<-h7,dD]
 have hpl:=DU (c:=c) hE hEs (hB.keep K1 (by simp) (by simp)) (iw z) (N:=N+2) (by omega);have hm:=Jd (aN E).names (iw z);by_cases hin:iw z∈(aN E).names
 case neg =>
  have hneg:jy (aN E).names (iw z) 0<0:=by
   have h:¬ (0<=jy (aN E).names (iw z) 0):=fun h=>hin (hm.1 h)
   omega
  refine same ?_ (Dk (by simp[fh,hQ,ae.list,hzk,hin]));simp[iV,aq,aj,f85,br];rw[dj (by kernel_rfl)];simp[b1,b4,b5,aH,x0,x5,x7,re7,ix,f0,f1,l0,l1,hzk,hpl,hneg,sto,hw]
 obtain⟨j,hj,hj1,hj2⟩:=Pl hin;rw[hj1]at hpl;have hjn:¬ ((j:Int)<0):=by omega
 have a1:∃ t,ao (aq (iV 1)) ⟨prog,Tw c (N+2),false,f85.ntmps,N+2⟩ t0 s1=.nx t s1/\ab t 1=.p re 0/\ab t 2=.p rN 0/\ab t 3=.p rF 0/\ab t 4=.p rx 0/\ab t 5=.p rr 0:=by simp[iV,aq,aj,f85,br];rw[dj (by kernel_rfl)];simp[b1,b2,b3,b4,b5,aH,x0,x5,re7,ix,f0,f1,l0,l1,hzk,hpl,hjn]
 obtain⟨t1,a1,d1,d2,d3,d4,d5⟩:=a1;rw[dw (cd:=iV 1) rfl a1,show aj (iV 1)=iV 2 from rfl];have hjg:j<gs.length:=by omega
 have rn:rd s1 rN 0 1=some [nv]:=by rw[(hNv.keep K1 (by simp) (by simp)).rd];rfl
 obtain⟨ag,ixg,ldg⟩:=hG.at hjg;have lg:=ldg [] [] s1 K1 (by simp) (by simp);obtain⟨g,hg⟩:∃ g,gs[j]=g:=⟨_,rfl⟩;rw[hg]at lg;have bv':=fun(t:Tr AV) (h:ai t (.tmp 38)=.s g)=>Ir (S:=Tw c (N+2)) (st:=s1) (t:=t) (x:=.const (.int .i64 1)) (y:=.tmp 38) (k:=1) (nm:=g) rfl h
 obtain⟨s2,w1,w2,w3,w4⟩:=cO (s:=s1) (z:=eM) (cells:=(cf g).cells) (by rw[Ex.aO];rfl) (Ex.dH (BM g).1.wf);obtain⟨r6,hr6⟩:∃ r,s1.next=r:=⟨_,rfl⟩;rw[hr6]at w1 w2 w4;have sto6:=aI cI aH (s1.aw eM) r6 0 (cf g).cells (Ex.aO _);have a2:∃ t,ao (aq (iV 2)) ⟨prog,Tw c (N+2),false,f85.ntmps,N+2⟩ t1 s1=.nx t s2/\ab t 3=.p rF 0/\ab t 4=.p rx 0/\ab t 5=.p rr 0/\ab t 6=.p r6 0:=by
  rw[Mn]at sto6 w1;simp[iV,aq,aj,f85,br];rw[eJ (fl:=[(0,8)])]
  ·simp[d1,d2,d3,d4,d5,aH,x5,re7,rn,ix,f1,l1,hpl,ixg,lg,bv',aJ,zz,hr6,sto6,w1]
  ·kernel_rfl
  ·intro R hR;simp[d1,d2,d4,aH,x5,re7,rn,ix,f1,l1,hpl,ixg,lg,bv',aJ,zz,hr6,sto6,w1]at hR;subst hR;simp only[V7,V8,V9];refine bV rfl rfl rfl (s:=s1) ?_;show bH (.load 31 (.tmp 2)) prog (Tw c (N+2)) _ s1=_
   simp[d2,rn]
 obtain⟨t2,a2,e3,e4,e5,e6⟩:=a2;rw[dw (cd:=iV 2) rfl a2,show aj (iV 2)=iV 3 from rfl];have K2:=K1.trans w3;have htl:tl.len<=1000:=by have:=hh.app rfl;simp only[ae.len]at this;omega
 have cx2:=w3.ce cx (by omega) (by omega) (by simp) (by simp);have cr2:=w3.ce cr lr lr (by simp) (by simp);have n2:=w3.next;obtain⟨t3,s3,q1,q2,q3,q4⟩:=aal (c:=c) (N:=N) (g:=g) (n0:=n0) (xc:=xc) e3 e4 e5 e6 (hF.keep K2 (by simp) (by simp)) (hFr.keep K2 (by simp) (by simp)) hl htl ⟨_,_,w2,by omega,by omega,by simp,by simp⟩ ⟨_,_,cx2,by omega,by omega,by simp,by simp⟩ (by rw[<-hxc];rfl) hTa (g3.keep K2) ⟨_,_,cr2,rfl⟩ (by omega) hM;have q1':ao (aq (iV 3)) ⟨prog,Tw c (N+2),false,f85.ntmps,N+2⟩ t2 s2=.nx t3 s3:=q1;rw[dw (cd:=iV 3) rfl q1'];have hX:gN (aN E).names gs fr (.mk 6 nm num ps b (.cons [] z tl) l)=.mk 6 [] 0 .sn (.nil true) (aX (([],cf g)::(eF fr++tl.list))) (.nil true):=by
  rw[OV (s:=iw z) (by simp[hQ,ae.list,hzk]) hin,hj1];have:gs.getD (j:Int).toNat []=g:=by rw[Int.toNat_natCast,<-hg];simp[List.getD,hjg]
  rw[this];rfl
 rw[hX];exact⟨s3,_,tQ q2 (by rw[au q3,cQ,<-Ex.aO (Ex.mk 6 [] 0 .sn (.nil true) (aX (([],cf g)::(eF fr++tl.list))) (.nil true)),dD]),BN.pure _ _ _,dz K2 q4 (by simp;omega) (by simp;omega)⟩
@[simp] theorem VG:bp prog 85=true:=by kernel_rfl
@[simp] theorem afj:et prog 85=false:=by kernel_rfl
theorem VV:aD prog 85=1:=by kernel_rfl
theorem FU:rz prog 85 9 (.s []):=⟨⟨9,underlying85,underlying9⟩,by kernel_rfl⟩
theorem Tm{rT mt:Nat}(hR:bA s [] rT [.m mt])(hm:cS s mt (fun y=>(to y).map .s))(hml:mt < s.next)(hx:Wl x)(hv:BN s n0 v x) :
  wq ((Tw c (N+1)).call 90 [v,.p rT 0] s) s n0 (pN to x):=by
 rw[dt rfl func90 rfl (J1 rfl)];unfold aV;obtain⟨k,nm,num,ps,b,a,l⟩:=x;obtain⟨hh,-⟩:=Wl.fN.1 hx;obtain⟨bv,av,lv,rfl,g2,g3,g4⟩:=id hv;show wq (eE prog f90.results.toList (ao (f90.body.getD .skip) ⟨prog,Tw c N,false,f90.ntmps,N⟩ (tmpsOf [.ag [.i .i64 k,.s nm,.i .i64 num,ps,bv,av,lv],.p rT 0] 0 .lf) s)) s n0 _
 have sps:bS ps=true:=wK hh.nms;have hxs:∀ nm':ah,bq [AV.i .i64 k,.s nm',.i .i64 num,ps,bv,av,lv]=true:=fun nm'=>by simp[sps,g2.sc,g3.sc,g4.sc]
 obtain⟨s0,s1,rx,rr,hrx,hs0,hrr,hs1,cx,cr,lx,lr,lo,K1⟩:=wI s [AV.i .i64 k,.s nm,.i .i64 num,ps,bv,av,lv];have zz:bm prog 35=some eM:=qH;have x0:rd s1 rx 0 1=some [.i .i64 k]:=by rw[au cx];rfl
 have x1:rd s1 rx 1 1=some [.s nm]:=by rw[au cx];rfl
 have x7:rd s1 rx 0 7=some [AV.i .i64 k,.s nm,.i .i64 num,ps,bv,av,lv]:=by rw[au cx];rfl
 have rT1:rd s1 rT 0 1=some [.m mt]:=by rw[(hR.keep K1 (by simp) (by simp)).rd];rfl
 have lk:=(hm.keep K1 hml (by simp)).uu FU nm;have ho:∀ nm':ah,over eM [AV.i .i64 k,.s nm',.i .i64 num,ps,bv,av,lv]=[AV.i .i64 k,.s nm',.i .i64 num,ps,bv,av,lv]:=fun nm'=>jG rfl
 have hw:=bP cr 0 _ (by exact Q1 _) (hxs nm);rw[gZ,ho]at hw;have sto:=aI cI aH s1 rr 0 _ (show[AV.i .i64 k,.s nm,.i .i64 num,ps,bv,av,lv].length=7 from rfl);have kr:Kp [] [] s (s1.ax rr [AV.i .i64 k,.s nm,.i .i64 num,ps,bv,av,lv] rr):=dz K1 (.ax (A:=[rr]) (B:=[rr]) (by simp) (by simp)) (by simp;omega) (by simp;omega);have e7:∀ nm':ah,rd (s1.ax rr [AV.i .i64 k,.s nm',.i .i64 num,ps,bv,av,lv] rr) rr 0 7=some [AV.i .i64 k,.s nm',.i .i64 num,ps,bv,av,lv]:=fun nm'=>by rw[au (cj _ _ _)];rfl
 have done:∀ {nm':ah} {s':St},(∃ t,ao (f90.body.getD .skip) ⟨prog,Tw c N,false,f90.ntmps,N⟩ (tmpsOf [.ag [.i .i64 k,.s nm,.i .i64 num,ps,bv,av,lv],.p rT 0] 0 .lf) s=.rt t s'/\ab t 3=.p rr 0)->rd s' rr 0 7=some [AV.i .i64 k,.s nm',.i .i64 num,ps,bv,av,lv]->Kp [] [] s s'->pN to (.mk k nm num ps b a l)=.mk k nm' num ps b a l->
   wq (eE prog f90.results.toList (ao (f90.body.getD .skip) ⟨prog,Tw c N,false,f90.ntmps,N⟩ (tmpsOf [.ag [.i .i64 k,.s nm,.i .i64 num,ps,bv,av,lv],.p rT 0] 0 .lf) s)) s n0 (pN to (.mk k nm num ps b a l)):=by
  rintro nm' s' ⟨t,e1,e2⟩ e3 e4 e5;rw[e1,e5];exact⟨_,_,tQ e2 e3,⟨bv,av,lv,rfl,g2.keep e4,g3.keep e4,g4.keep e4⟩,e4⟩
 by_cases hk:k=1
 ·subst hk;cases hto:to nm with
  |none =>rw[hto]at lk;refine done ?_ (e7 nm) kr (by simp only[pN,if_pos,hto,Option.getD_none]);simp[f90,hrx,hs0,aJ,zz,hrr,hs1,rT1,x1,lk,aH,x7,sto,hw]
  |some y =>
   rw[hto]at lk;have hwx:=bP cx 1 [.s y] (by simp) rfl;have kx:Kp [rx] [rx] s1 (s1.ax rx [AV.i .i64 1,.s y,.i .i64 num,ps,bv,av,lv] rx):=.ax (by simp) (by simp);have hwx:wt s1 rx 1 [.s y]=some (s1.ax rx [AV.i .i64 1,.s y,.i .i64 num,ps,bv,av,lv] rx):=hwx;have cx2:=cj rx [AV.i .i64 1,.s y,.i .i64 num,ps,bv,av,lv] rx (st:=s1);have cr2:=kx.ce cr lr lr (by simp;omega) (by simp;omega);obtain⟨s2,hs2⟩:∃ s2,s1.ax rx [AV.i .i64 1,.s y,.i .i64 num,ps,bv,av,lv] rx=s2:=⟨_,rfl⟩;rw[hs2]at hwx kx cx2 cr2;have n2:=kx.next;have x7':rd s2 rx 0 7=some [AV.i .i64 1,.s y,.i .i64 num,ps,bv,av,lv]:=by rw[au cx2];rfl
   have hw2:=bP cr2 0 _ (by exact Q1 _) (hxs y);rw[gZ,ho]at hw2;have sto2:=aI cI aH s2 rr 0 _ (show[AV.i .i64 1,.s y,.i .i64 num,ps,bv,av,lv].length=7 from rfl);have stx:=db jT oO s1 rx 1 (.s y) (by simp);have e72:rd (s2.ax rr [AV.i .i64 1,.s y,.i .i64 num,ps,bv,av,lv] rr) rr 0 7=some [AV.i .i64 1,.s y,.i .i64 num,ps,bv,av,lv]:=by rw[au (cj _ _ _)];rfl
   have kr2:Kp [] [] s (s2.ax rr [AV.i .i64 1,.s y,.i .i64 num,ps,bv,av,lv] rr):=dz (dz K1 kx (by simp;omega) (by simp;omega)) (.ax (A:=[rr]) (B:=[rr]) (by simp) (by simp)) (by simp;omega) (by simp;omega);refine done ?_ e72 kr2 (by simp only[pN,if_pos,hto,Option.getD_some]);simp[f90,hrx,hs0,aJ,zz,hrr,hs1,rT1,x0,x1,lk,aH,stx,hwx,x7',sto2,hw2]
 ·refine done ?_ (e7 nm) kr (by simp only[pN,if_neg hk]);cases hto:to nm with
  |none =>rw[hto]at lk;simp[f90,hrx,hs0,aJ,zz,hrr,hs1,rT1,x1,lk,aH,x7,sto,hw]
  |some y =>rw[hto]at lk;simp[f90,hrx,hs0,aJ,zz,hrr,hs1,rT1,x0,x1,lk,aH,hk,x7,sto,hw]
