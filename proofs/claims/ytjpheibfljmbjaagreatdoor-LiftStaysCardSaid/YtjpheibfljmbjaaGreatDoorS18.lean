/- A part of the proof. -/
import Derived.Test.YtjpheibfljmbjaaGreatDoorS17
set_option maxRecDepth 100000
set_option maxHeartbeats 1000000
open Nat renaming le_refl->Q0, le_of_ble_eq_true->Q6, ble->Q9, lt_of_lt_of_le->J5, beq->J6, mul_one->Z4, sub_zero->Z8, ble_eq_true_of_le->Z9, zero_add->V0, lt_succ_self->V4, sub_mul->V8
open Bool renaming and_eq_true->Q1, and_true->J4
open List renaming getElem_mem->Q2, length_append->Q3, append_nil->Q4, append_assoc->Q7, eq_nil_of_length_eq_zero->Q8, take_append_getElem->J1, take_length->J3, drop_eq_getElem_cons->J8, all_cons->J9, all_nil->Z3, length_map->Z5, nil_append->Z6, length->Z7, nodup_append->V1, mem_cons_self->V2, map_drop->V3, mem_of_mem_take->V6, length_drop->V7
open Go.Proofs.Tryz
noncomputable section
open Go.Ev
namespace Go.Proofs.YtjpheibfljmbjaaGreatDoor
variable {C : ah->Option AV}{L M T : List ah}{N e i k lo m mr n r r2 rE tr ty z : Nat}{P : Program}{S : bL}{a b l late : ae}{al ale : List Nat}{bv cv ps v w x : AV}{c : Option Self}{cs p zs : List AV}{ds : List cK}{nm : ah}{num : Int}{out : Ex}{q : Option Nat}{s s' s0 st : St}{sc cX : List (List ah)}{t : Tr AV}{vs : List (AV× Nat× List AV)}
theorem ZL{r1:Nat}(h:F6 st s t r1 r2 cv bv):
  ∃ t' s' mr tr,ao (aq (dQ 2)) ⟨prog,Tw c N,false,f6.ntmps,N⟩ t s=.nx t' s'/\F6 st s' t' r1 r2 cv bv/\ab t' 5=.p mr 0/\(∃ al,s'.ce mr=some ([.m tr,.i .i64 0],mr,al))/\cS s' tr (iD [])/\tr=s.next/\mr=s.next+1/\mr<s'.next:=by
 have m0:=cS.new s;have k1:=Kp.new (st:=s) [] [] (.mp [] 0);obtain⟨s1,hs1⟩:∃ x,s.new (.mp [] 0)=x:=⟨_,rfl⟩;have n1:s1.next=s.next+1:=by rw[<-hs1];rfl
 rw[hs1]at m0 k1;have bo:=fun(t:Tr AV) (hx:ai t (.tmp 18)=.m s.next)=>aaB (st:=s1) (S:=Tw c N) hx
 have c2:=cz (st:=s1) [.m s.next,.i .i64 0];have k2:=Kp.aw (st:=s1) [] [] [.m s.next,.i .i64 0];obtain⟨s2,hs2⟩:∃ x,s1.aw [.m s.next,.i .i64 0]=x:=⟨_,rfl⟩;have n2:s2.next=s1.next+1:=by rw[<-hs2];rfl
 rw[hs2]at c2 k2;have key:∃ t',ao (aq (dQ 2)) ⟨prog,Tw c N,false,f6.ntmps,N⟩ t s=.nx t' s2/\ab t' 1=.p r1 0/\ab t' 2=.p r2 0/\ab t' 5=.p s1.next 0:=by simp[dQ,aq,aj,f6,h.t1,h.t2,hs1,bo,hs2]
 obtain⟨t',q0,q1,q2,q3⟩:=key;exact⟨t',s2,s1.next,s.next,q0,h.keep (k1.trans k2) (by simp) (by simp) q1 q2,q3,⟨_,c2⟩,Bg (m0.keep k2 (by omega) (by simp)) (fun x=>by simp[iD]),rfl,n1,by omega⟩
theorem RC{r1:Nat}(hb:b.Ty 1)(hl:b.len<=1000000)(h:F6 st s t r1 r2 cv (b.slice 8))(h5:ab t 5=.p mr 0)(hm:∃ al,s.ce mr=some ([.m tr,.i .i64 0],mr,al))(hM:cS s tr (iD []))(hr:r2<tr/\tr<mr/\mr<s.next)(hT:mI s)(_:0<st.next)(hN:2000000<=N):
  ∃ t' s',ao (aq (dQ 3)) ⟨prog,Tw c N,false,f6.ntmps,N⟩ t s=.nx t' s'/\F6 st s' t' r1 r2 cv (b.slice 8)/\ab t' 5=.p mr 0/\Mk s' mr tr b.names 0/\s.next<=s'.next:=by
 obtain⟨l1,l2,l3⟩:=h.lo;obtain⟨a1,c1⟩:=h.c1;obtain⟨am,cm⟩:=hm;have rb:rd s r1 1 1=some [b.slice 8]:=by rw[au c1];rfl
 have ln:=fun st:St=>aY (st:=st) underlying23 (b.bK 8) (b.bJ 8)
 have key:∃ t' s',ao (aq (dQ 3)) ⟨prog,Tw c N,false,f6.ntmps,N⟩ t s=.nx t' s'/\ab t' 1=.p r1 0/\ab t' 2=.p r2 0/\ab t' 5=.p mr 0/\cS s' tr (iD b.names)/\Kp [tr] [] s s':=by
  simp[dQ,aq,aj,f6,h.t1,rb,ln,bw];generalize hL:bf _ _ _ _=L;obtain⟨t1,s1,rfl,p1,p2,p5,pM,pK⟩:=dy hL 0 b.list.length
   (fun i t' s'=>ab t' 1=.p r1 0/\ab t' 2=.p r2 0/\ab t' 5=.p mr 0/\ab t' 22=b.slice 8/\ab t' 23=.i .i64 (b.len:Int)/\ab t' 24=.i .i64 (i:Int)/\cS s' tr (iD (b.names.take i))/\Kp [tr] [] s s')
   (fun t' s'=>ab t' 1=.p r1 0/\ab t' 2=.p r2 0/\ab t' 5=.p mr 0/\cS s' tr (iD b.names)/\Kp [tr] [] s s') (by rw[<-ae.aC];omega)
   ⟨by simp[h.t1],by simp[h.t2],by simp[h5],by simp,by simp,by simp,by simpa using hM,.refl _ _ _⟩
   (by
    rintro i t' s' hi ⟨i1,i2,i5,i22,i23,i24,iM,iK⟩;clear hL;have hil:i<b.len:=by rw[ae.aC];exact hi
    have hin:i<b.names.length:=by rw[eW];exact hil
    have e3:(i:Int)<(b.len:Int):=by omega
    have e4:wr .i64 ((i:Int)+1)=((i+1:Nat):Int):=by rw[aZ (by omega) (by omega)];rfl
    obtain⟨r,r1',r2'⟩:=eR hb.pre (show eD 1+7=8 from rfl) hi;have ix:=dV underlying23 dn cV b.flat b.len i hil;rw[<-ae.cZ hil,r1',<-Q7]at ix;have hT:=ae.cU hb _ (Q2 hi);have hpr:=ir hT.1;have hnm:b.names[i]=fD (b.list[i].1.headD .un):=by simp[ae.names,gn]
    rw[<-hnm]at hpr;have hce:(b.list[i].1++b.list[i].2.cells).length=8:=by rw[Q3,r2',Ex.aO];rfl
    have hsc:bq (b.list[i].1++b.list[i].2.cells)=true:=gX hT.1.sc (Ex.dH hT.2.wf);have ld:=fun st:St=>kO (st:=st) (r:=r) dn kI cV hce
    have hhd:cut (b.list[i].1++b.list[i].2.cells) 0 1=some [.s b.names[i]]:=by rw[hpr];rfl
    generalize b.list[i].1++b.list[i].2.cells=cl at *;obtain⟨s2,u1,u2,u3,u4⟩:=cO (s:=s') (z:=gL) hce hsc;have n1:=iK.next;have n2:=u3.next;have M2:=iM.keep u3 (by omega) (by simp);obtain⟨s3,w1,w2,w3,w4⟩:=M2.set gW b.names[i] (.b true);rw[wX,J1 hin]at w2;have cm2:=u3.ce (iK.ce cm (by omega) (by omega) (by simp;omega) (by simp)) (by omega) (by omega) (by simp) (by simp);have rm:rd s2 mr 0 1=some [.m tr]:=by rw[au cm2];rfl
    have rn:rd s2 s'.next 0 1=some [.s b.names[i]]:=by rw[au u2,hhd]
    have zz:bm prog 37=some gL:=sy;simp[i22,i23,i24,e3,ix,ld,aJ,zz,aI dn cV,hce,u1,br];rw[dj (by kernel_rfl)];simp[i5,i24,e4,rm,rn,w1];exact⟨_,_,⟨rfl,rfl⟩,by simp[i1],by simp[i2],by simp[i5],by simp[i22],by simp[i23],by simp,w2,ig (ig iK u3 (by simp) (by simp)) w3 (by simp) (by simp)⟩)
   (by rintro t' s' ⟨i1,i2,i5,i22,i23,i24,iM,iK⟩;clear hL;simp[i23,i24,ae.aC];refine⟨_,_,⟨rfl,rfl⟩,by simp[i1],by simp[i2],by simp[i5],?_,iK⟩;rw[<-ae.aC,<-eW,J3]at iM;exact iM)
  clear hL;exact⟨t1,s1,by simp,p1,p2,p5,pM,pK⟩
 obtain⟨t',s',q0,q1,q2,q5,qM,qK⟩:=key;obtain⟨ty,hty⟩:=hT;have n1:=qK.next;refine⟨t',s',q0,h.keep qK (by simp;omega) (by simp) q1 q2,q5,⟨⟨am,qK.ce cm (by omega) (by omega) (by simp;omega) (by simp)⟩,by omega,by omega,by omega,⟨_,qM,fun j _=>ze _ _⟩,⟨ty,?_⟩,by omega,by omega⟩,n1⟩;rw[qK.get 0 (by omega) (by simp;omega)];exact hty
theorem Xu{r1:Nat}(hv:iq cv ds)(hl:ds.length<=1000000)(h:F6 st s t r1 r2 cv bv)(h5:ab t 5=.p mr 0)(hM:Mk s mr tr T n)(hN:1<=N):
  ∃ t' s' v r8 hi,ao (aq (dQ 4)) ⟨prog,Tw c N,false,f6.ntmps,N⟩ t s=.nx t' s'/\F6 st s' t' r1 r2 cv bv/\ab t' 5=.p mr 0/\ab t' 8=.p r8 0/\(∃ al,s'.ce r8=some ([v,.sn],r8,al))/\Mk s' mr tr T n/\qm s' s.next hi 4 cv v/\hi<=r8/\s.next<=hi/\r8<s'.next:=by
 obtain⟨l1,l2,l3⟩:=h.lo;obtain⟨a1,c1⟩:=h.c1;have rc:rd s r1 0 1=some [cv]:=by rw[au c1];rfl
 obtain⟨v,s1,f1,f2,f3⟩:=Nv (c:=c) (st:=s) hv hl hN;have f2w:=f2.w;have cc:=f2.cells;have bo:=fun(t:Tr AV) (hx:ai t (.tmp 37)=v)=>LQ (st:=s1) (S:=Tw c N) hx cc.1
 obtain⟨s2,u1,u2,u3,u4⟩:=cO (s:=s1) (z:=[.sn,.sn]) (cells:=[v,.sn]) rfl (by simp[cc.2]);have key:∃ t',ao (aq (dQ 4)) ⟨prog,Tw c N,false,f6.ntmps,N⟩ t s=.nx t' s2/\ab t' 1=.p r1 0/\ab t' 2=.p r2 0/\ab t' 5=.p mr 0/\ab t' 8=.p s1.next 0:=by simp[dQ,aq,aj,f6,h.t1,h.t2,h5,rc,f1,bo,aJ,yf,aI lI eP,u1]
 obtain⟨t',q0,q1,q2,q5,q8⟩:=key;have k:Kp [] [] s s2:=f3.trans u3;exact⟨t',s2,v,s1.next,s1.next,q0,h.keep k (by simp) (by simp) q1 q2,q5,q8,⟨_,u2⟩,hM.keep k (by simp) (by simp) (by simp) (by simp),f2w.keep u3 (by simp) (by simp),Q0 _,f3.next,u4⟩
def kZ:bL:=fun _=>none
def gB(b:ae):ae:=(c8 b.names b kZ b.names 0).1
structure L6(s0 s':St)(t':Tr AV)(r1 r2 mr tr r8 hi:Nat)(T:List ah)(n:Nat)(cv v v4:AV):Prop where
 t1:ab t' 1=.p r1 0
 t2:ab t' 2=.p r2 0
 t5:ab t' 5=.p mr 0
 t8:ab t' 8=.p r8 0
 co:∃ al,s'.ce r8=some ([v,v4],r8,al)
 M:Mk s' mr tr T n
 K:Kp [mr,tr,r8] [mr,r8] s0 s'
def B6(s0:St)(r1 r2 mr tr r8 hi:Nat)(cv v:AV)(b:ae)(i:Nat)(t':Tr AV)(s':St):Prop :=
 ∃ v4 ni,L6 s0 s' t' r1 r2 mr tr r8 hi b.names ni cv v v4/\Qf s' s0.next b.names kZ b b.names 0 v4 i ni
theorem WT{r1 r8 hi:Nat}(hb:b.Ty 1)(hs:b.size<=1000000)(h:F6 st s t r1 r2 cv (b.slice 8))(h5:ab t 5=.p mr 0)(h8:ab t 8=.p r8 0)(hc8:∃ al,s.ce r8=some ([v,.sn],r8,al))(hM:Mk s mr tr b.names 0)
  (hr:r2<tr/\tr<mr/\mr<r8/\r8<s.next) (_:v.cells=some [v]/\bS v=true) (hp:bG b.names 0+b.wt<1000000) (hN:b.size+4000000<=N):
  ∃ t' s' v4,ao (aq (dQ 5)) ⟨prog,Tw c N,false,f6.ntmps,N⟩ t s=.nx t' s'/\F6 st s' t' r1 r2 cv (b.slice 8)/\ab t' 8=.p r8 0/\(∃ al,s'.ce r8=some ([v,v4],r8,al))/\ew s' s.next 8 v4 (gB b).len (gB b).flat/\(∃ L,gB b=aX L)/\Kp [mr,tr,r8] [mr,r8] s s':=by
 obtain⟨l1,l2,l3⟩:=h.lo;obtain⟨a1,c1⟩:=h.c1;have hbl:=b.bZ;have rb:rd s r1 1 1=some [b.slice 8]:=by rw[au c1];rfl
 have ln:=fun st:St=>aY (st:=st) underlying23 (b.bK 8) (b.bJ 8)
 have key:∃ t' s',ao (aq (dQ 5)) ⟨prog,Tw c N,false,f6.ntmps,N⟩ t s=.nx t' s'/\B6 s r1 r2 mr tr r8 hi cv v b b.list.length t' s':=by
  simp[dQ,aq,aj,f6,h.t1,rb,ln,bw];generalize hL:bf _ _ _ _=L;obtain⟨t1,s1,rfl,p0⟩:=dy hL 2 b.list.length
   (fun i t' s'=>ab t' 40=b.slice 8/\ab t' 41=.i .i64 (b.len:Int)/\ab t' 42=.i .i64 (i:Int)/\B6 s r1 r2 mr tr r8 hi cv v b i t' s')
   (fun t' s'=>B6 s r1 r2 mr tr r8 hi cv v b b.list.length t' s') (by rw[<-ae.aC];omega)
   ⟨by simp,by simp,by simp,.sn,0,⟨by simp[h.t1],by simp[h.t2],by simp[h5],by simp[h8],hc8,hM,.refl _ _ _⟩,[],rfl,⟨none,fun _=>rfl,.nil _ _ _⟩,by simp[mR,dm],by simp[dm]⟩
   (by
    rintro i t' s' hi' ⟨i40,i41,i42,v4,ni,iL,acc,q1,⟨g,q0,qO⟩,q3,q4⟩;clear hL;have hil:i<b.len:=by rw[ae.aC];exact hi'
    have hin:i<b.names.length:=by rw[eW];exact hil
    have e3:(i:Int)<(b.len:Int):=by omega
    have e4:wr .i64 ((i:Int)+1)=((i+1:Nat):Int):=by rw[aZ (by omega) (by omega)];rfl
    obtain⟨r,r1',r2'⟩:=eR hb.pre (show eD 1+7=8 from rfl) hi';have ix:=dV underlying23 dn cV b.flat b.len i hil;rw[<-ae.cZ hil,r1',<-Q7]at ix;have hmem:=Q2 hi';have hT:=ae.cU hb _ hmem;have hsz':=ae.dU hmem;have hpr:=ir hT.1;have hnm:b.names[i]=fD (b.list[i].1.headD .un):=by simp[ae.names,gn]
    rw[<-hnm]at hpr;have hce:(b.list[i].1++b.list[i].2.cells).length=8:=by rw[Q3,r2',Ex.aO];rfl
    have hsc:bq (b.list[i].1++b.list[i].2.cells)=true:=gX hT.1.sc (Ex.dH hT.2.wf);have ld:=fun st:St=>kO (st:=st) (r:=r) dn kI cV hce
    have hhd:cut (b.list[i].1++b.list[i].2.cells) 0 1=some [.s b.names[i]]:=by rw[hpr];rfl
    have hcut:cut (b.list[i].1++b.list[i].2.cells) 1 7=some b.list[i].2.cells:=by rw[hpr];have:=nP b.list[i].2.cells [];rw[Ex.aO,Q4]at this;simpa using this
    generalize b.list[i].1++b.list[i].2.cells=cl at *;obtain⟨s2,u1,u2,u3,u4⟩:=cO (s:=s') (z:=gL) hce hsc;obtain⟨al3,co⟩:=iL.co;have n1:=iL.K.next;have n2:=u3.next;have co2:=u3.ce co (by omega) (by omega) (by simp) (by simp);have rO2:rd s2 r8 1 1=some [v4]:=by rw[au co2];rfl
    have rx:rd s2 s'.next 1 7=some b.list[i].2.cells:=by rw[au u2,hcut]
    have rn:rd s2 s'.next 0 1=some [.s b.names[i]]:=by rw[au u2,hhd]
    rw[vV b i hi']at q3 q4;simp only[c8,ae.wt]at q3 q4;have qpot:=qY b.names b.list[i].2 kZ ni;obtain⟨s3,f1,f2,f3⟩:=VR (c:=c) b.list[i].2 hT.2 (by omega) s2 mr tr ni b.names .mn kZ N (iL.M.keep u3 (by simp) (by simp) (by simp) (by simp)) (.inl ⟨rfl,fun _=>rfl⟩) (by omega) (by omega);obtain⟨R,hR⟩:∃ R,bB b.names b.list[i].2 kZ ni=R:=⟨_,rfl⟩;have tR:=xd b.names b.list[i].2 kZ ni hT.2;rw[hR]at f1 f2 q3 qpot tR;have cR:=R.1.aO;have n3:=f3.next;have co3:=f3.ce co2 (by omega) (by omega) (by simp;omega) (by simp;omega);have rO3:rd s3 r8 1 1=some [v4]:=by rw[au co3];rfl
    have u2':=f3.ce u2 (by omega) (by omega) (by simp;omega) (by simp;omega);have rn3:rd s3 s'.next 0 1=some [.s b.names[i]]:=by rw[au u2',hhd]
    have bo:=fun(t:Tr AV) (h1:ai t (.tmp 49)=.s b.names[i]) (h2:ai t (.tmp 53)=.ag R.1.cells)=>yD (S:=Tw c N) (st:=s3) (t:=t) h1 h2 cR
    have bo2:=fun(t:Tr AV) (h:ai t (.tmp 54)=.ag (.s b.names[i]::R.1.cells))=>gT (S:=Tw c N) (t:=t) (st:=s3) mJ (x:=.tmp 54) (cs:=.s b.names[i]::R.1.cells) (by rw[h];exact j9 _) (by simp[cR])
    have sR:bq (.s b.names[i]::R.1.cells)=true:=by simp[Ex.dH tR.wf]
    have O3:=(qO.keep u3 (by simp) (by simp)).keep f3 (by simp;omega) (fun x hx=>.inl (by simp at hx;omega));obtain⟨v',g',s4,w1,w2,w3,w4⟩:=O3.mc mJ (new:=.s b.names[i]::R.1.cells) sR (by simp[cR]) (by omega) (by omega);have hgl:=qO.fJ;have hB4:∀ x,x∈g.toList->s.next<=x:=fun x hx=>(hgl x (by simpa using hx)).1
    have n4:=w3.next;have co4:=w3.ce co3 (by omega) (by omega) (by simp) (fun hh=>by have:=hB4 _ hh;omega);have hw:=bP co4 1 [v'] (by simp) (by simp[w2.sc]);simp at hw;have k5:Kp [r8] [r8] s4 (s4.ax r8 [v,v'] r8):=.ax (by simp) (by simp);have c5:(s4.ax r8 [v,v'] r8).ce r8=some ([v,v'],r8,[r8]):=cj _ _ _;obtain⟨s5,hs5⟩:∃ x,s4.ax r8 [v,v'] r8=x:=⟨_,rfl⟩;rw[hs5]at hw k5 c5;have hz:=iL.M.z1;have M5:=((f2.keep w3 (by simp) (by simp) (fun hh=>by have:=hB4 _ hh;omega) (by simp)).keep k5 (by simp;omega) (by simp;omega) (by simp;omega) (by simp;omega));have K5:=ig (ig (ig (ig iL.K u3 (by simp) (by simp)) f3 (by simp) (by simp)) w3 (by simp) (fun x hx=>.inr (hB4 x hx))) k5 (by simp) (by simp);have G5:ew s5 s.next 8 v' (i+1) (aX (acc++[([.s b.names[i]],R.1)])).flat:=by
     refine⟨g',fun hh=>by omega,?_⟩;rw[wm];have hg':g'≠some r8:=by
      rcases w4 with rfl|⟨x,rfl,hx⟩
      ·exact fun hh=>by have:=hgl r8 hh;omega
      ·intro hh;cases hh;omega
     exact w2.keep k5 (by simp;omega) (fun x hx=>.inr (by simp at hx;subst hx;exact hg'))
    have zz:bm prog 37=some gL:=sy;simp[i40,i41,i42,e3,ix,ld,aJ,zz,aI dn cV,hce,u1,br];rw[eJ (fl:=[(1,8),(3,8)])]
    ·simp[i42,iL.t5,iL.t8,e4,rO2,rn,aH,rx,f1,bo,bo2,w1,db nH pI,w2.cells,hw];refine⟨_,_,⟨rfl,rfl⟩,by simp[i40],by simp[i41],by simp,v',R.2,⟨by simp[iL.t1],by simp[iL.t2],by simp[iL.t5],by simp[iL.t8],⟨_,c5⟩,M5,K5⟩,acc++[([.s b.names[i]],R.1)],by simp[q1],G5,?_,by omega⟩;rw[q3,vF,List.tail_drop];have hh:(b.names.drop i).headD []=b.names[i]:=by rw[J8 hin];rfl
     rw[hh];rfl
    ·kernel_rfl
    ·intro R' hR';simp[iL.t5,iL.t8,rO2,rn,aH,rx,f1,bo,bo2,w1,db nH pI,w2.cells,hw]at hR';subst hR';simp only[J9,Z3,J4,Q1];refine⟨bV rfl rfl rfl (s:=s3) ?_,bV rfl rfl rfl (s:=s3) ?_⟩
     ·simp[rO3]
     ·simp[rn3])
   (by rintro t' s' ⟨i40,i41,i42,v4,ni,iL,iB⟩;clear hL;simp[i41,i42,ae.aC];exact⟨_,_,⟨rfl,rfl⟩,v4,ni,⟨by simp[iL.t1],by simp[iL.t2],by simp[iL.t5],by simp[iL.t8],iL.co,iL.M,iL.K⟩,iB⟩)
  clear hL;exact⟨t1,s1,by simp,p0⟩
 obtain⟨t',s',q1,v4,ni,q2,acc,a1',a2,a4,a5⟩:=key;obtain⟨f,hf⟩:=tK b;rw[hf]at a4;simp only[c8,BI]at a4;have hpb:gB b=aX acc:=by unfold gB;rw[a4]
 refine⟨t',s',v4,q1,h.keep q2.K (by simp;omega) (by simp;omega) q2.t1 q2.t2,q2.t8,q2.co,?_,⟨acc,hpb⟩,q2.K⟩;rw[hpb,kh,a1'];exact a2
def VM(o:Option (AV× St))(st:St)(a:AV)(e:Int):Prop:=∃ s',o=some (.tu [a,.i .i64 e],s')/\Kp [] [] st s'
theorem Hv{t':Tr AV}{y:AV}{e:Int}(h2:ab t' 2=.p r2 0)(h3:ab t' 3=.i .i64 e)(hc:s'.ce r2=some ([x,y],r2,al)):eE prog f6.results.toList (.rt t' s')=some (.tu [.ag [x,y],.i .i64 e],s'):=by
 have r:rd s' r2 0 2=some [x,y]:=by rw[au hc];rfl
 have r1:oT prog t' s' (.cell 2 25)=some (.ag [x,y]):=by rw[Jj h2 (by simp),lS lI An,eP,r];rfl
 simp[f6,aG,aF,r1,h3]
theorem VT{e1 e2:Int}(hv:iq cv ds)(hl:ds.length<=1000000)(hb:b.Ty 1)(hs:b.size<=1000000)(hT:mI st)(h0:0<st.next)(hC1:oz c cv b e1)(hC2:e1=0->oz c cv (gB b) e2)(hp:e1=0->bG b.names 0+b.wt<1000000)(hN:b.size+5000000<=N):
  VM ((Tw c N).call 6 [.ag [cv,b.slice 8]] st) st (if e1≠0 then .ag [.sn,.sn] else if e2≠0 then .ag [.sn,.sn] else .ag [cv,(gB b).slice 8]) (if e1≠0 then e1 else e2):=by
 obtain⟨N,rfl⟩:∃ N',N=N'+1:=⟨N-1,by omega⟩;have hbl:=b.bZ;have hcs:cv.cells=some [cv]/\bS cv=true/\bg cv=true:=⟨by rcases hv.1 with ⟨rfl,-⟩|rfl<;>simp,by rcases hv.1 with ⟨rfl,-⟩|rfl<;>rfl,hv.pure⟩;obtain⟨A1,A2⟩:=Su hcs hb hC1 (N:=N) (by omega)
 suffices hh:∃ v1 s1,aV c N f6 (f6.body.getD .skip) [.ag [cv,b.slice 8]] st=some (v1,s1)/\Fz st.next s1 v1 (.tu [(if e1≠0 then .ag [.sn,.sn] else if e2≠0 then .ag [.sn,.sn] else .ag [cv,(gB b).slice 8]),.i .i64 (if e1≠0 then e1 else e2)])/\Kp [] [] st s1 by obtain⟨v1,s1,q1,q2,q3⟩:=hh;exact⟨_,vi rfl rfl rfl rfl rfl (by decide) func6 rfl (Q6 rfl) q1 q2,q3.shut (Q0 _)⟩
 unfold aV;show ∃ v1 s1,eE prog f6.results.toList (ao (dQ 0) ⟨prog,Tw c N,false,f6.ntmps,N⟩ (tmpsOf [.ag [cv,b.slice 8]] 0 .lf) st)=some (v1,s1)/\_
 by_cases he:e1=0
 case neg =>obtain⟨t,s,r2,q1,q2,⟨al,q3⟩,q4,q5⟩:=A1 he;have hA:(if e1≠0 then(AV.ag [.sn,.sn]) else if e2≠0 then .ag [.sn,.sn] else .ag [cv,(gB b).slice 8])=.ag [.sn,.sn]:=if_pos he;have hE:(if e1≠0 then e1 else e2)=e1:=if_pos he;rw[q1,Hv q2 q4 q3,hA,hE];exact⟨_,_,rfl,.pure rfl,q5⟩
 obtain⟨t0,s0,r1,r2,q0,h0'⟩:=A2 he;have hA:(if e1≠0 then(AV.ag [.sn,.sn]) else if e2≠0 then .ag [.sn,.sn] else .ag [cv,(gB b).slice 8])=(if e2≠0 then .ag [.sn,.sn] else .ag [cv,(gB b).slice 8]):=if_neg (by simp[he]);have hE:(if e1≠0 then e1 else e2)=e2:=if_neg (by simp[he]);rw[hA,hE,q0];obtain⟨t1,s1,mr,tr,a1,h1,b1,c1,d1,e1',e2',f1⟩:=ZL h0';have lo0:=h0'.lo;have lo1:=h1.lo;have T1:mI s1:=by obtain⟨ty,ht⟩:=hT;exact⟨ty,by rw[h1.K.get 0 h0 (by simp)];exact ht⟩
 obtain⟨t2,s2,a2,h2,b2,M2,n2⟩:=RC hb (by omega) h1 b1 c1 d1 ⟨by omega,by omega,f1⟩ T1 h0 (N:=N) (by omega);obtain⟨t3,s3,v,r8,hi,a3,h3,b3,c3,d3,M3,W3,n3,n3',n3''⟩:=Xu hv hl h2 b2 M2 (N:=N) (by omega);have lo2:=h2.lo;have wc:=W3.cells;obtain⟨t4,s4,v4,a4,h4,b4,⟨al8,c4⟩,G4,⟨L4,e4⟩,k4⟩:=WT (hi:=hi) hb hs h3 b3 c3 d3 M3 ⟨by omega,by omega,by omega,n3''⟩ wc (hp he) (N:=N) (by omega);have W4:=W3.keep k4 (by simp;omega) (by simp;omega);have tp:(gB b).Ty 1:=AC b.names b kZ b.names 0 hb;have gc:=zP G4;have ra:rd s4 r8 0 2=some [v,v4]:=by rw[au c4];rfl
 have ck:=hC2 he s4 (.ag [v,v4]) N (by omega) (.ag (.cons W4.jP (.cons (G4.jP e4 tp) .nil)));rw[show ao (dQ 2) ⟨prog,Tw c N,false,f6.ntmps,N⟩ t0 s0=bT (ao (aq (dQ 2)) ⟨prog,Tw c N,false,f6.ntmps,N⟩ t0 s0) (ao (dQ 3) ⟨prog,Tw c N,false,f6.ntmps,N⟩) from rfl,a1,dK];rw[show ao (dQ 3) ⟨prog,Tw c N,false,f6.ntmps,N⟩ t1 s1=bT (ao (aq (dQ 3)) ⟨prog,Tw c N,false,f6.ntmps,N⟩ t1 s1) (ao (dQ 4) ⟨prog,Tw c N,false,f6.ntmps,N⟩) from rfl,a2,dK];rw[show ao (dQ 4) ⟨prog,Tw c N,false,f6.ntmps,N⟩ t2 s2=bT (ao (aq (dQ 4)) ⟨prog,Tw c N,false,f6.ntmps,N⟩ t2 s2) (ao (dQ 5) ⟨prog,Tw c N,false,f6.ntmps,N⟩) from rfl,a3,dK];rw[show ao (dQ 5) ⟨prog,Tw c N,false,f6.ntmps,N⟩ t3 s3=bT (ao (aq (dQ 5)) ⟨prog,Tw c N,false,f6.ntmps,N⟩ t3 s3) (ao (dQ 6) ⟨prog,Tw c N,false,f6.ntmps,N⟩) from rfl,a4,dK];obtain⟨alr,cr⟩:=h4.c2;have lo4:=h4.lo;by_cases h20:e2=0
 case neg =>
  have hA2:(if e2≠0 then(AV.ag [.sn,.sn]) else .ag [cv,(gB b).slice 8])=.ag [.sn,.sn]:=if_pos h20;rw[hA2];have hw:=bP cr 0 [.sn,.sn] (by simp) (by simp);simp at hw;have k5:Kp [r2] [r2] s4 (s4.ax r2 [.sn,.sn] r2):=.ax (by simp) (by simp);have key:∃ t',ao (dQ 6) ⟨prog,Tw c N,false,f6.ntmps,N⟩ t4 s4=.rt t' (s4.ax r2 [.sn,.sn] r2)/\ab t' 2=.p r2 0/\ab t' 3=.i .i64 e2:=by simp[dQ,aj,f6,h4.t2,b4,eP,ra,ck,h20,JE,aI lI eP,hw]
  obtain⟨t',q1,q2,q3⟩:=key;rw[q1,Hv q2 q3 (cj _ _ _)];exact⟨_,_,rfl,.pure rfl,dz h4.K k5 (by simp;omega) (by simp;omega)⟩
 ·have hA2:(if e2≠0 then(AV.ag [.sn,.sn]) else .ag [cv,(gB b).slice 8])=.ag [cv,(gB b).slice 8]:=if_neg (by simp[h20]);rw[hA2];have hw:=bP cr 0 [v,v4] (by simp) (by simp[wc.2,gc.2]);simp at hw;have k5:Kp [r2] [r2] s4 (s4.ax r2 [v,v4] r2):=.ax (by simp) (by simp);obtain⟨s5,hs5⟩:∃ x,s4.ax r2 [v,v4] r2=x:=⟨_,rfl⟩;have c5:(s4.ax r2 [v,v4] r2).ce r2=some ([v,v4],r2,[r2]):=cj _ _ _;rw[hs5]at hw k5 c5;have key:∃ t',ao (dQ 6) ⟨prog,Tw c N,false,f6.ntmps,N⟩ t4 s4=.rt t' s5/\ab t' 2=.p r2 0/\ab t' 3=.i .i64 0:=by
   simp[dQ,aj,f6,h4.t2,b4,eP,ra,ck,h20,aI lI eP,hw]
  obtain⟨t',q1,q2,q3⟩:=key;rw[q1,Hv q2 q3 c5,h20];refine⟨_,_,rfl,.tu (.cons (.ag (.cons ?_ (.cons ?_ .nil))) (.cons (.pure rfl) .nil)),dz h4.K k5 (by simp;omega) (by simp;omega)⟩
  ·exact(W4.keep k5 (by simp;omega) (by simp;omega)).fz (by omega)
  ·exact(G4.Bi k5 (by simp;omega) (by simp;omega)).part e4 (by omega) (by decide) tp
mutual
def _root_.Go.Ev.Ex.bM:Ex->List ah
 |.mk _ _ _ ps b a l=>ba ps++(b.gY++(a.bC++l.iX))
def _root_.Go.Ev.ae.gY:ae->List ah
 |.nil _=>[]
 |.cons p x l=>gn (p,x)::(x.bM++l.gY)
def _root_.Go.Ev.ae.bC:ae->List ah
 |.nil _=>[]
 |.cons _ x l=>x.bM++l.bC
def _root_.Go.Ev.ae.iX:ae->List ah
 |.nil _=>[]
 |.cons p x l=>(cD (p,x)).vs++(x.bM++l.iX)
end
theorem EN{l:List AV}(h:de v l):lenOf v=some l.length/\firstCells st 1 l.length v=some l/\gk v=none:=by
 rcases h with ⟨rfl,rfl⟩|rfl
 ·exact⟨rfl,rfl,rfl⟩
 ·refine⟨rfl,?_,rfl⟩;show cut l 0 (l.length*1)=_
  rw[cQ,Z4,dD]
def sM(s:St)(lo:Nat)(v:AV)(L:List ah):Prop:=∃ g,aW s lo 1 v L.length (L.map .s) g
def lU(lo:Nat)(s s':St):Prop:=s.next<=s'.next/\∀ r l g al,r<lo->g<lo->s.ce r=some (l,g,al)->r<s.next->g<s.next->s'.ce r=some (l,g,al)
theorem lU.of{A B:List Nat}(k:Kp A B s s')(hA:∀ x,x∈A->lo<=x)(hB:∀ x,x∈B->lo<=x):lU lo s s' :=
 ⟨k.next,fun r l g al h1 h2 h3 h4 h5=>k.ce h3 h4 h5 (fun hh=>by have:=hA _ hh;omega) (fun hh=>by have:=hB _ hh;omega)⟩
theorem lU.trans{a b d:St}(h:lU lo a b)(k:lU lo b d):lU lo a d :=
 ⟨Nat.le_trans h.1 k.1,fun r l g al h1 h2 h3 h4 h5=>k.2 r l g al h1 h2 (h.2 r l g al h1 h2 h3 h4 h5) (J5 h4 h.1) (J5 h5 h.1)⟩
theorem lU.refl(lo:Nat)(s:St):lU lo s s:=⟨Q0 _,fun _ _ _ _ _ _ h _ _=>h⟩
theorem sM.one(h0:sM s0 lo v L)(k:Kp [] [] s0 s)(x:ah)(hl:L.length<1000000)(hlo:lo<=s.next):∃ v' s' g,gS prog (s.aw [.s x]) [31,31] [v,.sl s.next 0 1 1 (some 1)]=some (v',s')/\sM s' lo v' (L++[x])/\Kp [] g s s'/\(∀ x,x∈g->lo<=x/\x<s0.next):=by obtain⟨g,h0⟩:=h0;have h:=h0.keep k (by simp) (by simp);obtain⟨v',g',s',w1,w2,w3,w4⟩:=h.mc fM (new:=[.s x]) rfl rfl (by omega) hlo;exact⟨v',s',g.toList,w1,⟨g',by simpa using w2⟩,w3,fun x hx=>h0.fJ x (by simpa using hx)⟩
theorem sM.more(h0:sM s0 lo v L)(k:Kp [] [] s0 s)(hw:de w (M.map .s))(hl:L.length+M.length<=1000000)(hlo:lo<=s.next):∃ v' s' g,gS prog s [31,31] [v,w]=some (v',s')/\sM s' lo v' (L++M)/\Kp [] g s s'/\(∀ x,x∈g->lo<=x/\x<s0.next):=by obtain⟨g,h0⟩:=h0;have h:=h0.keep k (by simp) (by simp);obtain⟨a1,a2,a3⟩:=EN hw;rw[Z5]at a1 a2;obtain⟨v',g',s',w1,w2,w3,w4⟩:=h.app fM a1 a2 a3 (uD M) (by simp) (by omega) hlo;exact⟨v',s',g.toList,w1,⟨g',by simpa using w2⟩,w3,fun x hx=>h0.fJ x (by simpa using hx)⟩
theorem Sz{l:List ah}(hv:de v (l.map .s))(hl:l.length<=1000000)(hN:1<=N):∃ w s',(Tw c N).call 59 [v] st=some (w,s')/\sM s' st.next w l/\Kp [] [] st s':=by
 obtain⟨N,rfl⟩:∃ N',N=N'+1:=⟨N-1,by omega⟩;rw[dt rfl func59 rfl (Q6 rfl)];unfold aV;rcases hv with ⟨rfl,h⟩|rfl
 ·have:l=[]:=by simpa using h
  subst this;refine⟨.sn,st,?_,⟨none,.nil _ _ _⟩,.refl _ _ _⟩;simp[f59,zk underlying31,aG,aF]
 ·have h0:sM (st.aw []) st.next (.sl st.next 0 0 1 (some 0)) []:=⟨none,.inr (.inl ⟨_,rfl,rfl,rfl,rfl⟩)⟩;obtain⟨v',s',g,w1,w2,w3,w4⟩:=h0.more (.refl _ _ _) (.inr rfl) (by simpa using hl) (Nat.le_succ _);rw[Z6]at w2;rw[Z5]at w1;refine⟨v',s',?_,w2,?_⟩
  ·simp[f59,vn underlying31,vj fM,w1,aG,aF]
  ·have k1:=Kp.aw (st:=st) [] [] [];exact dz k1 w3 (by simp) (fun x hx=>(w4 x hx).1)
noncomputable def gh:Nat->Code
 |0=>f29.body.getD .skip
 |k+1=>aj (gh k)
def Xo(c:Option Self)(N:Nat)(x:Ex)(v:AV):Prop:=∀ st:St,(Tw c N).call 29 [.ag x.cells] st=some (v,st)
def Fh(c:Option Self)(x:Ex):Prop:=x.Ty->x.size<=1000000->x.bM.length<=1000000->∀ N,x.size+2000000<=N->∃ v,de v (x.bM.map .s)/\Xo c N x v
def pD(s0 s':St)(lo rE:Nat)(t':Tr AV)(L:List ah):Prop:=ab t' 1=.p rE 0/\sM s' lo (ab t' 3) L/\lU lo s0 s'/\lo<=s'.next
theorem XE(b:ae)(h:i<b.list.length):(dm b i).gY=gn b.list[i]::(b.list[i].2.bM++(dm b (i+1)).gY):=by rw[vV b i h];rfl
theorem JA(b:ae)(h:i<b.list.length):(dm b i).bC=b.list[i].2.bM++(dm b (i+1)).bC:=by rw[vV b i h];rfl
theorem YK(b:ae)(h:i<b.list.length):(dm b i).iX=(cD b.list[i]).vs++(b.list[i].2.bM++(dm b (i+1)).iX):=by rw[vV b i h];rfl
theorem Ud{al:Nat}{k:Int}(hb:b.Ty 1)(hs:b.size<=1000000)(hIH:∀ p∈b.list,Fh c p.2)(h1:pD s s lo rE t L)(ce:s.ce rE=some ((Ex.mk k nm num ps b a l).cells,rE,ale))(_:rE<lo)(hlen:L.length+b.gY.length<=1000000)(hN:b.size+2000000<=N):
  ∃ t' s',ao (aq (gh 2)) ⟨prog,Tw c N,false,f29.ntmps,N⟩ t s=.nx t' s'/\pD s s' lo rE t' (L++b.gY):=by
 have hbl:=b.bZ;obtain⟨h11,h12,h13,h14⟩:=h1;have rb:=(iv ce).b;have ln:=fun st:St=>aY (st:=st) underlying23 (b.bK 8) (b.bJ 8)
 simp[gh,aq,aj,f29,h11,rb,ln,bw];generalize hL:bf _ _ _ _=Lo;obtain⟨t1,s1,rfl,p0⟩:=dy hL 0 b.list.length
  (fun i t' s'=>ab t' 14=b.slice 8/\ab t' 15=.i .i64 (b.len:Int)/\ab t' 16=.i .i64 (i:Int)/\∃ M,pD s s' lo rE t' M/\M++(dm b i).gY=L++b.gY)
  (fun t' s'=>pD s s' lo rE t' (L++b.gY)) (by rw[<-ae.aC];omega)
  ⟨by simp,by simp,by simp,L,⟨by simp[h11],by simpa using h12,.refl _ _,h14⟩,by simp[dm]⟩
  (by
   rintro i t' s' hi ⟨i14,i15,i16,M,⟨j1,j2,j3,j4⟩,jE⟩;clear hL;have hil:i<b.len:=by rw[ae.aC];exact hi
   have e3:(i:Int)<(b.len:Int):=by omega
   have e4:wr .i64 ((i:Int)+1)=((i+1:Nat):Int):=by rw[aZ (by omega) (by omega)];rfl
   obtain⟨r,r1',r2'⟩:=eR hb.pre (show eD 1+7=8 from rfl) hi;have ix:=dV underlying23 dn cV b.flat b.len i hil;rw[<-ae.cZ hil,r1',<-Q7]at ix;have hmem:=Q2 hi;have hT:=ae.cU hb _ hmem;have hsz':=ae.dU hmem;have hpr:=ir hT.1;rw[show fD (b.list[i].1.headD .un)=gn b.list[i] from rfl]at hpr;rw[XE b hi]at jE;have jl:=congrArg Z7 jE;simp only[Q3,List.length_cons]at jl;obtain⟨bn,hbn⟩:∃ x,gn b.list[i]=x:=⟨_,rfl⟩;rw[hbn]at hpr jE;have hce:(b.list[i].1++b.list[i].2.cells).length=8:=by rw[Q3,r2',Ex.aO];rfl
   have hsc:bq (b.list[i].1++b.list[i].2.cells)=true:=gX hT.1.sc (Ex.dH hT.2.wf);have ld:=fun st:St=>kO (st:=st) (r:=r) dn kI cV hce
   have hhd:cut (b.list[i].1++b.list[i].2.cells) 0 1=some [.s bn]:=by rw[hpr];rfl
   have hcut:cut (b.list[i].1++b.list[i].2.cells) 1 7=some b.list[i].2.cells:=by rw[hpr];have:=nP b.list[i].2.cells [];rw[Ex.aO,Q4]at this;simpa using this
   obtain⟨v,v1,v2⟩:=hIH _ hmem hT.2 (by omega) (by omega) N (by omega);generalize b.list[i].1++b.list[i].2.cells=cl at *;obtain⟨s2,u1,u2,u3,u4⟩:=cO (s:=s') (z:=gL) hce hsc;have n2:=u3.next;have rx:rd s2 s'.next 1 7=some b.list[i].2.cells:=by rw[au u2,hcut]
   have rn:rd s2 s'.next 0 1=some [.s bn]:=by rw[au u2,hhd]
   obtain⟨va,hva⟩:∃ va,ab t' 3=va:=⟨_,rfl⟩;rw[hva]at j2;have bo:=fun(t:Tr AV) (h:ai t (.tmp 22)=.s bn)=>gT (S:=Tw c N) (st:=s2) fM (cs:=[.s bn]) (by rw[h];simp) rfl
   obtain⟨v',s3,g,w1,w2,w3,w4⟩:=j2.one u3 bn (by omega) (by omega);have n3:=w3.next;have hg:s'.next∉g:=fun hh=>by have:=w4 _ hh;omega
   have rx3:rd s3 s'.next 1 7=some b.list[i].2.cells:=by rw[au (w3.ce u2 u4 u4 (by simp) hg),hcut]
   obtain⟨v'',s4,g',y1,y2,y3,y4⟩:=w2.more (.refl _ _ _) v1 (by simp;omega) (by omega);have zz:bm prog 37=some gL:=sy;simp[i14,i15,i16,e3,ix,ld,aJ,zz,aI dn cV,hce,u1,br];rw[eJ (fl:=[(6,0)])]
   ·simp[i16,hva,e4,rn,bo,w1,aH,rx3,v2 s3,y1];refine⟨_,_,⟨rfl,rfl⟩,by simp[i14],by simp[i15],by simp,M++[bn]++b.list[i].2.bM,⟨by simp[j1],by simpa using y2,j3.trans ((lU.of u3 (by simp) (by simp)).trans ((lU.of w3 (by simp) (fun x hx=>(w4 x hx).1)).trans (lU.of y3 (by simp) (fun x hx=>(y4 x hx).1)))),by have:=y3.next;omega⟩,?_⟩;simpa using jE
   ·kernel_rfl
   ·intro R' hR';simp[hva,rn,bo,w1,aH,rx3,v2 s3,y1]at hR';subst hR';simp only[J9,Z3,J4];refine bV rfl rfl rfl (s:=s2) ?_;simp[aH,rx])
  (by rintro t' s' ⟨i14,i15,i16,M,⟨j1,j2,j3,j4⟩,jE⟩;clear hL;simp[i15,i16,ae.aC];obtain⟨f,hf⟩:=tK b;rw[hf]at jE;simp only[ae.gY,Q4]at jE;rw[jE]at j2;exact⟨_,_,⟨rfl,rfl⟩,by simp[j1],by simpa using j2,j3,j4⟩)
 clear hL;exact⟨t1,s1,by simp,p0⟩
theorem Yb{k:Int}(hb:a.Ty 0)(hs:a.size<=1000000)(hIH:∀ p∈a.list,Fh c p.2)(h1:pD s s lo rE t L)(ce:s.ce rE=some ((Ex.mk k nm num ps b a l).cells,rE,ale))(hlen:L.length+a.bC.length<=1000000)(hN:a.size+2000000<=N):
  ∃ t' s',ao (aq (gh 3)) ⟨prog,Tw c N,false,f29.ntmps,N⟩ t s=.nx t' s'/\pD s s' lo rE t' (L++a.bC):=by
 have hbl:=a.bZ;obtain⟨h11,h12,h13,h14⟩:=h1;have rb:=(iv ce).a;have ln:=fun st:St=>aY (st:=st) underlying32 (a.bK 7) (a.bJ 7)
 simp[gh,aq,aj,f29,h11,rb,ln,bw];generalize hL:bf _ _ _ _=Lo;obtain⟨t1,s1,rfl,p0⟩:=dy hL 2 a.list.length
  (fun i t' s'=>ab t' 31=a.slice 7/\ab t' 32=.i .i64 (a.len:Int)/\ab t' 33=.i .i64 (i:Int)/\∃ M,pD s s' lo rE t' M/\M++(dm a i).bC=L++a.bC)
  (fun t' s'=>pD s s' lo rE t' (L++a.bC)) (by rw[<-ae.aC];omega)
  ⟨by simp,by simp,by simp,L,⟨by simp[h11],by simpa using h12,.refl _ _,h14⟩,by simp[dm]⟩
  (by
   rintro i t' s' hi ⟨i14,i15,i16,M,⟨j1,j2,j3,j4⟩,jE⟩;clear hL;have hil:i<a.len:=by rw[ae.aC];exact hi
   have e3:(i:Int)<(a.len:Int):=by omega
   have e4:wr .i64 ((i:Int)+1)=((i+1:Nat):Int):=by rw[aZ (by omega) (by omega)];rfl
   obtain⟨r,r1',r2'⟩:=eR hb.pre (show eD 0+7=7 from rfl) hi;have ix:=dV underlying32 cI aH a.flat a.len i hil;rw[<-ae.cZ hil,r1',Q8 r2',Z6]at ix;have hmem:=Q2 hi;have hT:=ae.cU hb _ hmem;have hsz':=ae.dU hmem;rw[JA a hi]at jE;have jl:=congrArg Z7 jE;simp only[Q3]at jl;have hce:=a.list[i].2.aO;have hsc:=Ex.dH hT.2.wf;have ld:=fun st:St=>kO (st:=st) (r:=r) cI qQ aH hce
   have hcut:cut a.list[i].2.cells 0 7=some a.list[i].2.cells:=by have:=nP a.list[i].2.cells [];rw[Ex.aO,Q4]at this;simpa using this
   obtain⟨v,v1,v2⟩:=hIH _ hmem hT.2 (by omega) (by omega) N (by omega);obtain⟨s2,u1,u2,u3,u4⟩:=cO (s:=s') (z:=iQ) hce hsc;have n2:=u3.next;have rx:rd s2 s'.next 0 7=some a.list[i].2.cells:=by rw[au u2,hcut]
   obtain⟨va,hva⟩:∃ va,ab t' 3=va:=⟨_,rfl⟩;rw[hva]at j2;obtain⟨v'',s4,g',y1,y2,y3,y4⟩:=j2.more u3 v1 (by omega) (by omega);have zz:bm prog 35=some iQ:=sQ;simp[i14,i15,i16,hva,e3,e4,ix,ld,aJ,zz,aI cI aH,hce,u1,aH,rx,v2 s2,y1];refine⟨_,_,⟨rfl,rfl⟩,by simp[i14],by simp[i15],by simp,M++a.list[i].2.bM,⟨by simp[j1],by simpa using y2,j3.trans ((lU.of u3 (by simp) (by simp)).trans (lU.of y3 (by simp) (fun x hx=>(y4 x hx).1))),by have:=y3.next;omega⟩,?_⟩;simpa using jE)
  (by rintro t' s' ⟨i14,i15,i16,M,⟨j1,j2,j3,j4⟩,jE⟩;clear hL;simp[i15,i16,ae.aC];obtain⟨f,hf⟩:=tK a;rw[hf]at jE;simp only[ae.bC,Q4]at jE;rw[jE]at j2;exact⟨_,_,⟨rfl,rfl⟩,by simp[j1],by simpa using j2,j3,j4⟩)
 clear hL;exact⟨t1,s1,by simp,p0⟩
theorem Se{k:Int}(hb:l.Ty 4)(hs:l.size<=1000000)(hIH:∀ p∈l.list,Fh c p.2)(h1:pD s s lo rE t L)(ce:s.ce rE=some ((Ex.mk k nm num ps b a l).cells,rE,ale))(hlen:L.length+l.iX.length<=1000000)(hN:l.size+2000000<=N):
  ∃ t' s',ao (aq (gh 4)) ⟨prog,Tw c N,false,f29.ntmps,N⟩ t s=.nx t' s'/\pD s s' lo rE t' (L++l.iX):=by
 have hbl:=l.bZ;obtain⟨h11,h12,h13,h14⟩:=h1;have rb:=(iv ce).l;have ln:=fun st:St=>aY (st:=st) underlying33 (l.bK 11) (l.bJ 11)
 simp[gh,aq,aj,f29,h11,rb,ln,bw];generalize hL:bf _ _ _ _=Lo;obtain⟨t1,s1,rfl,p0⟩:=dy hL 4 l.list.length
  (fun i t' s'=>ab t' 43=l.slice 11/\ab t' 44=.i .i64 (l.len:Int)/\ab t' 45=.i .i64 (i:Int)/\∃ M,pD s s' lo rE t' M/\M++(dm l i).iX=L++l.iX)
  (fun t' s'=>pD s s' lo rE t' (L++l.iX)) (by rw[<-ae.aC];omega)
  ⟨by simp,by simp,by simp,L,⟨by simp[h11],by simpa using h12,.refl _ _,h14⟩,by simp[dm]⟩
  (by
   rintro i t' s' hi ⟨i14,i15,i16,M,⟨j1,j2,j3,j4⟩,jE⟩;clear hL;have hil:i<l.len:=by rw[ae.aC];exact hi
   have e3:(i:Int)<(l.len:Int):=by omega
   have e4:wr .i64 ((i:Int)+1)=((i+1:Nat):Int):=by rw[aZ (by omega) (by omega)];rfl
   obtain⟨r,r1',r2'⟩:=eR hb.pre (show eD 4+7=11 from rfl) hi;have ix:=dV underlying33 cy bU l.flat l.len i hil;rw[<-ae.cZ hil,r1',<-Q7]at ix;have hmem:=Q2 hi;have hT:=ae.cU hb _ hmem;have hsz':=ae.dU hmem;obtain⟨vs,p1,p2,p3⟩:=Jt hT.1;rw[YK l hi]at jE;have jl:=congrArg Z7 jE;simp only[Q3]at jl;obtain⟨H,hH⟩:∃ H,cD l.list[i]=H:=⟨_,rfl⟩;rw[hH]at p1 p3 jE jl;have hce:(l.list[i].1++l.list[i].2.cells).length=11:=by rw[Q3,r2',Ex.aO];rfl
   have hsc:bq (l.list[i].1++l.list[i].2.cells)=true:=gX hT.1.sc (Ex.dH hT.2.wf);have ld:=fun st:St=>kO (st:=st) (r:=r) cy zn bU hce
   have c3:cut (l.list[i].1++l.list[i].2.cells) 3 1=some [vs]:=by rw[p1];rfl
   have hcut:cut (l.list[i].1++l.list[i].2.cells) 4 7=some l.list[i].2.cells:=by rw[p1];have:=nP l.list[i].2.cells [];rw[Ex.aO,Q4]at this;simpa using this
   obtain⟨v,v1,v2⟩:=hIH _ hmem hT.2 (by omega) (by omega) N (by omega);generalize l.list[i].1++l.list[i].2.cells=cl at *;obtain⟨s2,u1,u2,u3,u4⟩:=cO (s:=s') (z:=yI) hce hsc;have n2:=u3.next;have rx:rd s2 s'.next 4 7=some l.list[i].2.cells:=by rw[au u2,hcut]
   have rn:rd s2 s'.next 3 1=some [vs]:=by rw[au u2,c3]
   obtain⟨va,hva⟩:∃ va,ab t' 3=va:=⟨_,rfl⟩;rw[hva]at j2;obtain⟨v',s3,g,w1,w2,w3,w4⟩:=j2.more u3 (M:=H.vs) (by rw[p3];exact CF p2) (by omega) (by omega);have n3:=w3.next;have hg:s'.next∉g:=fun hh=>by have:=w4 _ hh;omega
   have rx3:rd s3 s'.next 4 7=some l.list[i].2.cells:=by rw[au (w3.ce u2 u4 u4 (by simp) hg),hcut]
   obtain⟨v'',s4,g',y1,y2,y3,y4⟩:=w2.more (.refl _ _ _) v1 (by simp;omega) (by omega);have zz:bm prog 93=some yI:=FE;simp[i14,i15,i16,e3,ix,ld,aJ,zz,aI cy bU,hce,u1,br];rw[eJ (fl:=[(5,0)])]
   ·simp[i16,hva,e4,rn,w1,aH,rx3,v2 s3,y1];refine⟨_,_,⟨rfl,rfl⟩,by simp[i14],by simp[i15],by simp,M++H.vs++l.list[i].2.bM,⟨by simp[j1],by simpa using y2,j3.trans ((lU.of u3 (by simp) (by simp)).trans ((lU.of w3 (by simp) (fun x hx=>(w4 x hx).1)).trans (lU.of y3 (by simp) (fun x hx=>(y4 x hx).1)))),by have:=y3.next;omega⟩,?_⟩;simpa using jE
   ·kernel_rfl
   ·intro R' hR';simp[hva,rn,w1,aH,rx3,v2 s3,y1]at hR';subst hR';simp only[J9,Z3,J4];refine bV rfl rfl rfl (s:=s2) ?_;simp[aH,rx])
  (by rintro t' s' ⟨i14,i15,i16,M,⟨j1,j2,j3,j4⟩,jE⟩;clear hL;simp[i15,i16,ae.aC];obtain⟨f,hf⟩:=tK l;rw[hf]at jE;simp only[ae.iX,Q4]at jE;rw[jE]at j2;exact⟨_,_,⟨rfl,rfl⟩,by simp[j1],by simpa using j2,j3,j4⟩)
 clear hL;exact⟨t1,s1,by simp,p0⟩
theorem KG:∀ x,Fh c x:=by
 refine Ex.ind fun k nm num ps b a l hb ha hl=>?_
 intro hT hs hbn N hN;obtain⟨N,rfl⟩:∃ N',N=N'+1:=⟨N-1,by omega⟩;have hsz:(Ex.mk k nm num ps b a l).size=1+b.size+a.size+l.size:=by simp only[Ex.size]
 have hTy:=hT;simp only[Ex.Ty]at hT;obtain⟨hkb,hps,hTb,hTa,hTl⟩:=hT;have hbe:(Ex.mk k nm num ps b a l).bM=ba ps++(b.gY++(a.bC++l.iX)):=by simp only[Ex.bM]
 rw[hbe]at hbn;simp only[Q3]at hbn
 suffices hh:∃ v1 s1,aV c N f29 (f29.body.getD .skip) [.ag (Ex.mk k nm num ps b a l).cells] aK=some (v1,s1)/\sM s1 1 v1 ((Ex.mk k nm num ps b a l).bM) by
  obtain⟨v1,s1,q1,g,q2⟩:=hh;obtain⟨w,h3,h4⟩:=q2.fz (Nat.zero_le _) (Q0 1) (fB.pure (jD _));have hw:de w ((Ex.mk k nm num ps b a l).bM.map .s):=by
   rcases h4 with ⟨rfl,h5,h6⟩|rfl
   ·exact .inl ⟨rfl,h6⟩
   ·right;rw[Z5]
  exact⟨w,hw,fun st=>Em rfl rfl rfl rfl (by decide) (by simp[aQ,bg,Ex.nX hTy]) func29 rfl (Q6 rfl) (hw.pure (jD _)) ⟨_,_,q1,h3⟩⟩
 unfold aV;show ∃ v1 s1,eE prog f29.results.toList (ao (gh 0) ⟨prog,Tw c N,false,f29.ntmps,N⟩ (tmpsOf [.ag (Ex.mk k nm num ps b a l).cells] 0 .lf) aK)=some (v1,s1)/\_
 have c1:=cz (st:=aK) (Ex.mk k nm num ps b a l).cells;obtain⟨s1,hs1⟩:∃ s,aK.aw (Ex.mk k nm num ps b a l).cells=s:=⟨_,rfl⟩;have n1:s1.next=1:=by rw[<-hs1];rfl
 rw[hs1]at c1;have r3:rd s1 aK.next 3 1=some [ps]:=by rw[au c1];rfl
 obtain⟨w,s2,f1,f2,f3⟩:=Sz (c:=c) (CF hps) (by omega) (N:=N) (by omega);rw[n1]at f2;have c2:=f3.ce c1 (by rw[n1];decide) (by rw[n1];decide) (by simp) (by simp);have cl:(AV.ag (Ex.mk k nm num ps b a l).cells).cells=some (Ex.mk k nm num ps b a l).cells:=j9 _;generalize hcl:(Ex.mk k nm num ps b a l).cells=cells at *;have a0:∃ t,ao (aq (gh 0)) ⟨prog,Tw c N,false,f29.ntmps,N⟩ (tmpsOf [.ag cells] 0 .lf) aK=.nx t s1/\ab t 1=.p aK.next 0:=by simp[gh,aq,f29,hs1]
 obtain⟨t1,a0,d1⟩:=a0;have a1:∃ t,ao (aq (gh 1)) ⟨prog,Tw c N,false,f29.ntmps,N⟩ t1 s1=.nx t s2/\ab t 1=.p aK.next 0/\ab t 3=w:=by simp[gh,aq,aj,f29,d1,r3,f1]
 obtain⟨t2,a1,e1,e3⟩:=a1;have n2:=f3.next;rw[<-hcl]at c2;have z0:aK.next<1:=Nat.one_pos;obtain⟨t3,s3,a2,B3⟩:=Ud (al:=0) hTb (by omega) hb ⟨e1,by rw[e3];exact f2,.refl _ _,by omega⟩ c2 z0 (by omega) (N:=N) (by omega);have c3:=B3.2.2.1.2 _ _ _ _ z0 z0 c2 (by omega) (by omega);obtain⟨t4,s4,a3,B4⟩:=Yb hTa (by omega) ha ⟨B3.1,B3.2.1,.refl _ _,B3.2.2.2⟩ c3 (by simp;omega) (N:=N) (by omega);have c4:=B4.2.2.1.2 _ _ _ _ z0 z0 c3 (by have:=B3.2.2.2;omega) (by have:=B3.2.2.2;omega);obtain⟨t5,s5,a4,B5⟩:=Se hTl (by omega) hl ⟨B4.1,B4.2.1,.refl _ _,B4.2.2.2⟩ c4 (by simp;omega) (N:=N) (by omega);rw[show ao (gh 0) ⟨prog,Tw c N,false,f29.ntmps,N⟩ (tmpsOf [.ag cells] 0 .lf) aK=bT (ao (aq (gh 0)) ⟨prog,Tw c N,false,f29.ntmps,N⟩ (tmpsOf [.ag cells] 0 .lf) aK) (ao (gh 1) ⟨prog,Tw c N,false,f29.ntmps,N⟩) from rfl,a0,dK];rw[show ao (gh 1) ⟨prog,Tw c N,false,f29.ntmps,N⟩ t1 s1=bT (ao (aq (gh 1)) ⟨prog,Tw c N,false,f29.ntmps,N⟩ t1 s1) (ao (gh 2) ⟨prog,Tw c N,false,f29.ntmps,N⟩) from rfl,a1,dK];rw[show ao (gh 2) ⟨prog,Tw c N,false,f29.ntmps,N⟩ t2 s2=bT (ao (aq (gh 2)) ⟨prog,Tw c N,false,f29.ntmps,N⟩ t2 s2) (ao (gh 3) ⟨prog,Tw c N,false,f29.ntmps,N⟩) from rfl,a2,dK];rw[show ao (gh 3) ⟨prog,Tw c N,false,f29.ntmps,N⟩ t3 s3=bT (ao (aq (gh 3)) ⟨prog,Tw c N,false,f29.ntmps,N⟩ t3 s3) (ao (gh 4) ⟨prog,Tw c N,false,f29.ntmps,N⟩) from rfl,a3,dK];rw[show ao (gh 4) ⟨prog,Tw c N,false,f29.ntmps,N⟩ t4 s4=bT (ao (aq (gh 4)) ⟨prog,Tw c N,false,f29.ntmps,N⟩ t4 s4) (ao (gh 5) ⟨prog,Tw c N,false,f29.ntmps,N⟩) from rfl,a4,dK];refine⟨ab t5 3,s5,?_,?_⟩
 ·simp[gh,aj,f29,aG,aF]
 ·rw[hbe];have:=B5.2.1;simpa using this
structure jw(st:St)(z:Nat)(v:AV)(k:Nat)(cs:List AV):Prop where
 len:lenOf v=some k
 txt:lH v=false
 nat:gk v=none
 cells:v.cells=some [v]
 sca:bS v=true
 clen:cs.length=k*z
 sc:bq cs=true
 pur:aQ cs=true
 first:∀ s,Kp [] [] st s->firstCells s z k v=some cs
theorem jw.keep(h:jw st z v k cs)(hk:Kp [] [] st s):jw s z v k cs :=
 ⟨h.len,h.txt,h.nat,h.cells,h.sca,h.clen,h.sc,h.pur,fun s' h'=>h.first s' (hk.trans h')⟩
theorem OX{R f:Nat}{new:List AV}(T:gO P ty e z)(hc:st.ce R=some (cs++zs,f,al))(hcs:cs.length=n*z)(hzs:zs.length=m*z)(hk:k<=m)(h1:lenOf x=some k)(h2:firstCells st z k x=some new)(h3:gk x=none)(hs:bq new=true)(hl:new.length=k*z):
  ∃ s',gS P st [ty,ty] [.sl R 0 n z none,x]=some (.sl R 0 (n+k) z none,s')/\(∃ al',s'.ce R=some (cs++new++zs.drop (k*z),f,al'))/\Kp [R] [f] st s':=by
 have e0:(pJ P [ty,ty]&&bp P e&&bq new)=true:=by rw[T.plain,T.sl.inf,hs];rfl
 have eb:gS P st [ty,ty] [.sl R 0 n z none,x]=append P st [ty,ty] (.sl R 0 n z none) x:=by
  show uY P st [ty,ty] (.sl R 0 n z none) x (gk x)=_
  rw[h3];rfl
 have e3:J6 z z=true:=by simp_all
 rw[eb];by_cases h0:k=0
 ·subst h0;have hnew:new=[]:=Q8 (by omega);refine⟨st,?_,⟨al,by grind⟩,.refl _ _ _⟩;unfold append;simp only[T.el,h1,T.sl.sz,h2,e0];simp_all
 ·have hb0:J6 k 0=false:=by rw[bu];grind
  have hz1:=T.z1;have hm:n*z+k*z<=n*z+m*z:=Nat.add_le_add_left (Nat.mul_le_mul_right z hk) _;have hw:=bP hc (n*z) new (by grind) hs;have hov:bO (cs++zs) (n*z) new=cs++new++zs.drop (k*z):=by grind[kg,List.drop_drop,List.drop_left]
  refine⟨_,?_,⟨[R],cj _ _ _⟩,.ax (by simp) (by simp)⟩;unfold append;simp only[T.el,h1,T.sl.sz,h2,e0,hb0];rw[e3];have e2:Q9 (n+k) (qR st R 0 z)=true:=by
   have:qR st R 0 z=n+m:=by
    unfold qR;rw[hc];show((cs++zs).length-0) / z=n+m
    rw[Z8,Q3,hcs,hzs,<-Nat.add_mul,Nat.mul_div_cancel _ (by omega)]
   exact Z9 (by omega)
  unfold Ej;rw[e2,V0];grind
theorem Kx(T:gO P ty e z)(hz:bm P e=some zs)(hi:xQ P 3=true)(h0:0<n)(hn:n<=10000000):gS P st [ty,3] [.sn,.i .i64 (n:Int)]=some (.sl st.next 0 n z none,st.aw (rep n zs)):=by
 have e1:(xQ P 3&&bp P e&&Q9 n 281474976710656)=true:=by rw[hi,T.sl.inf,Z9 (by omega)];rfl
 have e2:J6 n 0=false:=by rw[bu];grind
 show Dd P st 3 n (ez P ty)=_
 rw[T.el];show @Bool.rec (fun _=>aR) none (@Bool.rec (fun _=>aR) (Cl P st e n (bm P e)) (some (.sn,st)) (J6 n 0)) (xQ P 3&&bp P e&&Q9 n 281474976710656)=_
 rw[e1,e2,hz];show @Bool.rec (fun _=>aR) none (some (.sl st.next 0 n (aD P e) none,st.aw (rep n zs))) (fits P e n)=_
 rw[T.fit hn,T.sl.sz]
theorem KF(T:jv P ty e z):pY P ty z=true:=by unfold pY ez;simp only[T.und,T.inf,T.sz];simp_all
theorem NU(T:jv P ty e z):ia P st ty .sn none (some (.i .i64 0)) none=some .sn:=by
 have h3:slice P ty .sn none (some (.i .i64 0)) none=some .sn:=by
  unfold slice ez;simp only[T.und];show @Bool.rec (fun _=>Option AV) none (some .sn) (bp P e)=_
  rw[T.inf]
 unfold ia;grind
theorem KZ(T:jv P ty e z):ia P st ty (.sl r 0 n z none) none (some (.i .i64 0)) none=some (.sl r 0 0 z none):=by
 have h2:gy n n none (some (.i .i64 0)) none=some (0,0,n):=by
  show @Bool.rec (fun _=>Option (Nat× Nat× Nat)) none (some (0,0,n)) (Q9 0 0&&Q9 0 n&&Q9 n n&&true)=_
  simp_all[Z9]
 have h3:slice P ty (.sl r 0 n z none) none (some (.i .i64 0)) none=some (.sl r 0 0 z none):=by unfold slice;simp only[h2,KF T];simp
 unfold ia;grind
theorem QE{P:Program}{S:Self}{t:Tr AV}{as1:Array Operand}{ts:Array TypeId}:bH (.call { callee:=.builtin .cap,args:=as1,argTypes:=ts }) P S t st=zR P st ts.toList (args t as1.toList):=rfl
theorem JP:xQ prog 3=true:=by kernel_rfl
theorem Oc(h:P.underlying ty=some (.slice e)):zR P st [ty] [.sn]=some (.i .i64 0,st):=by
 show(match ez P ty with|some _=>AG st .sn|none=>none)=_
 unfold ez;rw[h];rfl
def cu(vs:List (AV× Nat× List AV)):Nat:=(vs.map fun p=>p.2.1).sum
def gu(vs:List (AV× Nat× List AV)):List AV:=(vs.map fun p=>p.2.2).flatten
theorem abD(vs:List (AV× Nat× List AV))(p:AV× Nat× List AV):cu (vs++[p])=cu vs+p.2.1:=by simp[cu]
theorem Nl(vs:List (AV× Nat× List AV))(p:AV× Nat× List AV):gu (vs++[p])=gu vs++p.2.2:=by simp[gu]
theorem Dy(vs:List (AV× Nat× List AV))(h:i<vs.length):cu (vs.take (i+1))=cu (vs.take i)+vs[i].2.1:=by grind[J1,abD]
theorem Zz(vs ws:List (AV× Nat× List AV)):cu (vs++ws)=cu vs+cu ws:=by simp[cu]
theorem Fb(vs:List (AV× Nat× List AV))(i:Nat):cu (vs.take i)<=cu vs:=by grind[Zz,List.take_append_drop]
def Lh(s:St)(R:Nat)(cs:List AV)(m:Nat):Prop:=∃ zs al,zs.length=m/\s.ce R=some (cs++zs,R,al)
def Qw(o:Option (AV× St))(st:St)(z n:Nat)(cs:List AV):Prop:=∃ s1 R f al,o=some (.sl R 0 n z none,s1)/\s1.ce R=some (cs,f,al)/\st.next<=R/\st.next<=f/\Kp [] [] st s1
theorem El(hv:∀ p∈vs,jw st z p.1 p.2.1 p.2.2):(gu vs).length=cu vs*z:=by
 induction vs with
 |nil=>simp[gu,cu]
 |cons p vs ih =>have h2:=(hv p (V2 ..)).clen;grind[gu,cu]
theorem KJ(hv:∀ p∈vs,jw st z p.1 p.2.1 p.2.2):aQ (gu vs)=true:=by
 induction vs with
 |nil=>rfl
 |cons p vs ih =>have h2:=(hv p (V2 ..)).pur;grind[gu,uP]
theorem Cc:jv prog 172 32 1:=⟨underlying172,o9,sP⟩
theorem abX(h0:0<n)(hn:n<=1000000)(N:Nat):(Tw c (N+1)).call 129 [.sn,.i .i64 (n:Int)] st=some (.sl st.next 0 0 7 none,st.aw (rep n eM)):=by
 rw[dt rfl func129 rfl (Q6 rfl)];unfold aV;have e1:¬ ((n:Int)<0):=by omega
 have e2:wr .i64 ((n:Int)-0)=(n:Int):=by rw[aZ (by omega) (by omega)];omega
 have w0:wr .i64 0=0:=aZ (by omega) (by omega);have l0:=fun st:St=>aY (st:=st) (v:=.sn) underlying32 rfl rfl
 have c0:=fun st:St=>Oc (st:=st) underlying32
 have g0:=fun st:St=>Kx (st:=st) lX qH JP h0 (by omega)
 have s0:=fun st:St=>NU (st:=st) jk
 have s1:=fun(st:St) (r:Nat)=>KZ (st:=st) (r:=r) (n:=n) jk
 simp at e2;simp[f129,QE,h0,e1,e2,w0,l0,c0,g0,s0,s1,aG,aF]
theorem acy(hv:∀ p∈vs,jw st 7 p.1 p.2.1 p.2.2)(hr:bA st [] r (vs.map (·.1)))(hl:vs.length<=1000)(h1:1<=cu vs)(ht:cu vs<=1000000)(hN:10000<=N):
  ∃ st',(Tw c (N+2)).call 86 [.sl r 0 vs.length 1 q] st=some (.rs (gu vs) (cu vs) 7,st')/\Kp [] [] st st':=by
 have key:Qw (aV c (N+1) f86 (f86.body.getD .skip) [.sl r 0 vs.length 1 q] st) st 7 (cu vs) (gu vs):=by
  unfold aV;have ln:=fun s:St=>aY (st:=s) (v:=.sl r 0 vs.length 1 q) underlying172 rfl rfl
  have ix:∀ (i:Nat) (hi:i<vs.length),indexAddr prog 172 (.sl r 0 vs.length 1 q) (.i .i64 (i:Int))=some (.p r i):=fun i hi=>by
   have:=kQ Cc.und Cc.inf Cc.sz r 0 vs.length i q hi
   rwa [V0,Z4]at this
  have ld:∀ (s:St) (i:Nat) (hi:i<vs.length),Kp [] [] st s->rd s r i 1=some [vs[i].1]:=fun s i hi hk=>by rw[(hr.keep hk (by simp) (by simp)).rd,lJ _ _ _ (by simp;omega),<-V3,J8 hi];rfl
  simp[f86,ln,bw];generalize hL:bf _ _ _ _=L;obtain⟨t1,s1,rfl,rfl,u0,u3⟩:=dy hL 0 vs.length
   (fun i t s=>s=st/\ab t 0=.sl r 0 vs.length 1 q/\ab t 3=.i .i64 (cu (vs.take i):Int)/\ab t 9=.sl r 0 vs.length 1 q/\ab t 10=.i .i64 (vs.length:Int)/\ab t 11=.i .i64 (i:Int))
   (fun t s=>s=st/\ab t 0=.sl r 0 vs.length 1 q/\ab t 3=.i .i64 (cu vs:Int)) (by omega)
   ⟨rfl,by simp,by simp[cu],by simp,by simp,by simp⟩
   (by
    rintro i t s hi ⟨rfl,i0,i3,i9,il,ii⟩;clear hL;have e5:(i:Int)<(vs.length:Int):=by omega
    have e7:wr .i64 ((i:Int)+1)=((i+1:Nat):Int):=by rw[aZ (by omega) (by omega)];rfl
    have hC:=hv vs[i] (Q2 hi);have lx:=aY (st:=s) underlying32 hC.len hC.txt;have hk:=Dy vs hi;have hle:=Fb vs (i+1);have e8:wr .i64 ((cu (vs.take i):Int)+(vs[i].2.1:Int))=(cu (vs.take (i+1)):Int):=by rw[aZ (by omega) (by omega)];omega
    have e9:¬ ((cu (vs.take (i+1)):Int)<0):=by omega
    simp[i3,i9,il,ii,e5,e7,ix i hi,ld s i hi (.refl _ _ _),lx,e8,e9];exact⟨_,_,⟨rfl,rfl⟩,rfl,by simp[i0],by simp,by simp[i9],by simp[il],by simp⟩)
   (by rintro t s ⟨rfl,i0,i3,i9,il,ii⟩;clear hL;rw[J3]at i3;simp[il,ii];exact⟨_,_,⟨rfl,rfl⟩,rfl,by simp[i0],by simp[i3]⟩)
  clear hL;have gw:=abX (c:=c) (st:=s1) (by omega) ht N;have c0:=cz (st:=s1) (rep (cu vs) eM);have k0:Kp [] [] s1 (s1.aw (rep (cu vs) eM)):=.aw _ _ _;have hrl:(rep (cu vs) eM).length=cu vs*7:=wT _ _;have hRl:s1.next<(s1.aw (rep (cu vs) eM)).next:=V4 _;simp[u0,u3,gw,ln,bw];generalize hL:bf _ _ _ _=L;obtain⟨t2,s2,rfl,u6,⟨al2,uc⟩,uK⟩:=dy hL 2 vs.length
   (fun i t s=>ab t 6=.sl s1.next 0 (cu (vs.take i)) 7 none/\ab t 25=.sl r 0 vs.length 1 q/\ab t 26=.i .i64 (vs.length:Int)/\ab t 27=.i .i64 (i:Int)/\Lh s s1.next (gu (vs.take i)) ((cu vs-cu (vs.take i))*7)/\s1.next<s.next/\Kp [] [] s1 s)
   (fun t s=>ab t 6=.sl s1.next 0 (cu vs) 7 none/\(∃ al,s.ce s1.next=some (gu vs,s1.next,al))/\Kp [] [] s1 s) (by omega)
   ⟨by simp[cu],by simp,by simp,by simp,⟨rep (cu vs) eM,[s1.next],by rw[show cu (vs.take 0)=0 from rfl,Z8];exact hrl,by rw[show gu (vs.take 0)=[] from rfl];exact c0⟩,hRl,k0⟩
   (by
    rintro i t s hi ⟨i6,i25,il,ii,⟨zs,al,hzl,hce⟩,hlt,iK⟩;clear hL;have e5:(i:Int)<(vs.length:Int):=by omega
    have e7:wr .i64 ((i:Int)+1)=((i+1:Nat):Int):=by rw[aZ (by omega) (by omega)];rfl
    have hC:=hv vs[i] (Q2 hi);have hk:=Dy vs hi;have hle:=Fb vs (i+1);obtain⟨s',w1,⟨al',w2⟩,w3⟩:=OX lX hce (El (fun p hp=>hv p (V6 hp))) hzl (by omega) hC.len (hC.first s iK) hC.nat hC.sc hC.clen;have hkc:gu (vs.take i)++vs[i].2.2=gu (vs.take (i+1)):=by rw[<-J1 hi,Nl]
    rw[<-hk]at w1;rw[hkc]at w2;simp[i6,i25,il,ii,e5,e7,ix i hi,ld s i hi iK,w1];refine⟨_,_,⟨rfl,rfl⟩,by simp,by simp[i25],by simp[il],by simp,⟨zs.drop (vs[i].2.1*7),al',?_,w2⟩,J5 hlt w3.next,dz iK w3 (by simp) (by simp)⟩;rw[V7,hzl,<-V8];congr 1;omega)
   (by rintro t s ⟨i6,i25,il,ii,⟨zs,al,hzl,hce⟩,hlt,iK⟩;clear hL;rw[J3]at i6 hzl hce;have:zs=[]:=Q8 (by rw[hzl];simp);subst this;rw[Q4]at hce;simp[il,ii];exact⟨_,_,⟨rfl,rfl⟩,by simp[i6],⟨_,hce⟩,iK⟩)
  clear hL;exact⟨s2,s1.next,s1.next,al2,by simp[u6,aG,aF],uc,Q0 _,Q0 _,uK⟩
 obtain⟨s1,R,f,al,h2,h3,h4,h5,h6⟩:=key;have hz:Fz st.next s1 (.sl R 0 (cu vs) 7 none) (.rs (gu vs) (cu vs) 7):=.slice h3 (El hv).symm h5 (.pure (KJ hv)) (by omega);exact⟨_,vi rfl rfl rfl rfl rfl (by decide) func86 rfl (Q6 rfl) h2 hz,h6.shut (Q0 _)⟩
theorem EA:jv prog 174 31 1:=⟨underlying174,qS,vX⟩
theorem aaE(h0:0<n)(hn:n<=1000000)(N:Nat):(Tw c (N+1)).call 130 [.sn,.i .i64 (n:Int)] st=some (.sl st.next 0 0 1 none,st.aw (rep n v8)):=by
 rw[dt rfl func130 rfl (Q6 rfl)];unfold aV;have e1:¬ ((n:Int)<0):=by omega
 have e2:wr .i64 ((n:Int)-0)=(n:Int):=by rw[aZ (by omega) (by omega)];omega
 have w0:wr .i64 0=0:=aZ (by omega) (by omega);have l0:=fun st:St=>aY (st:=st) (v:=.sn) underlying31 rfl rfl
 have c0:=fun st:St=>Oc (st:=st) underlying31
 have g0:=fun st:St=>Kx (st:=st) fM LN JP h0 (by omega)
 have s0:=fun st:St=>NU (st:=st) gz
 have s1:=fun(st:St) (r:Nat)=>KZ (st:=st) (r:=r) (n:=n) gz
 simp at e2;simp[f130,QE,h0,e1,e2,w0,l0,c0,g0,s0,s1,aG,aF]
theorem aaV(hv:∀ p∈vs,jw st 1 p.1 p.2.1 p.2.2)(hr:bA st [] r (vs.map (·.1)))(hl:vs.length<=1000)(h1:1<=cu vs)(ht:cu vs<=1000000)(hN:10000<=N):
  ∃ st',(Tw c (N+2)).call 91 [.sl r 0 vs.length 1 q] st=some (.rs (gu vs) (cu vs) 1,st')/\Kp [] [] st st':=by
 have key:Qw (aV c (N+1) f91 (f91.body.getD .skip) [.sl r 0 vs.length 1 q] st) st 1 (cu vs) (gu vs):=by
  unfold aV;have ln:=fun s:St=>aY (st:=s) (v:=.sl r 0 vs.length 1 q) underlying174 rfl rfl
  have ix:∀ (i:Nat) (hi:i<vs.length),indexAddr prog 174 (.sl r 0 vs.length 1 q) (.i .i64 (i:Int))=some (.p r i):=fun i hi=>by
   have:=kQ EA.und EA.inf EA.sz r 0 vs.length i q hi
   rwa [V0,Z4]at this
  have ld:∀ (s:St) (i:Nat) (hi:i<vs.length),Kp [] [] st s->rd s r i 1=some [vs[i].1]:=fun s i hi hk=>by rw[(hr.keep hk (by simp) (by simp)).rd,lJ _ _ _ (by simp;omega),<-V3,J8 hi];rfl
  simp[f91,ln,bw];generalize hL:bf _ _ _ _=L;obtain⟨t1,s1,rfl,rfl,u0,u3⟩:=dy hL 0 vs.length
   (fun i t s=>s=st/\ab t 0=.sl r 0 vs.length 1 q/\ab t 3=.i .i64 (cu (vs.take i):Int)/\ab t 9=.sl r 0 vs.length 1 q/\ab t 10=.i .i64 (vs.length:Int)/\ab t 11=.i .i64 (i:Int))
   (fun t s=>s=st/\ab t 0=.sl r 0 vs.length 1 q/\ab t 3=.i .i64 (cu vs:Int)) (by omega)
   ⟨rfl,by simp,by simp[cu],by simp,by simp,by simp⟩
   (by
    rintro i t s hi ⟨rfl,i0,i3,i9,il,ii⟩;clear hL;have e5:(i:Int)<(vs.length:Int):=by omega
    have e7:wr .i64 ((i:Int)+1)=((i+1:Nat):Int):=by rw[aZ (by omega) (by omega)];rfl
    have hC:=hv vs[i] (Q2 hi);have lx:=aY (st:=s) underlying31 hC.len hC.txt;have hk:=Dy vs hi;have hle:=Fb vs (i+1);have e8:wr .i64 ((cu (vs.take i):Int)+(vs[i].2.1:Int))=(cu (vs.take (i+1)):Int):=by rw[aZ (by omega) (by omega)];omega
    have e9:¬ ((cu (vs.take (i+1)):Int)<0):=by omega
    simp[i3,i9,il,ii,e5,e7,ix i hi,ld s i hi (.refl _ _ _),lx,e8,e9];exact⟨_,_,⟨rfl,rfl⟩,rfl,by simp[i0],by simp,by simp[i9],by simp[il],by simp⟩)
   (by rintro t s ⟨rfl,i0,i3,i9,il,ii⟩;clear hL;rw[J3]at i3;simp[il,ii];exact⟨_,_,⟨rfl,rfl⟩,rfl,by simp[i0],by simp[i3]⟩)
  clear hL;have gw:=aaE (c:=c) (st:=s1) (by omega) ht N;have c0:=cz (st:=s1) (rep (cu vs) v8);have k0:Kp [] [] s1 (s1.aw (rep (cu vs) v8)):=.aw _ _ _;have hrl:(rep (cu vs) v8).length=cu vs*1:=wT _ _;have hRl:s1.next<(s1.aw (rep (cu vs) v8)).next:=V4 _;simp[u0,u3,gw,ln,bw];generalize hL:bf _ _ _ _=L;obtain⟨t2,s2,rfl,u6,⟨al2,uc⟩,uK⟩:=dy hL 2 vs.length
   (fun i t s=>ab t 6=.sl s1.next 0 (cu (vs.take i)) 1 none/\ab t 25=.sl r 0 vs.length 1 q/\ab t 26=.i .i64 (vs.length:Int)/\ab t 27=.i .i64 (i:Int)/\Lh s s1.next (gu (vs.take i)) ((cu vs-cu (vs.take i))*1)/\s1.next<s.next/\Kp [] [] s1 s)
   (fun t s=>ab t 6=.sl s1.next 0 (cu vs) 1 none/\(∃ al,s.ce s1.next=some (gu vs,s1.next,al))/\Kp [] [] s1 s) (by omega)
   ⟨by simp[cu],by simp,by simp,by simp,⟨rep (cu vs) v8,[s1.next],by rw[show cu (vs.take 0)=0 from rfl,Z8];exact hrl,by rw[show gu (vs.take 0)=[] from rfl];exact c0⟩,hRl,k0⟩
   (by
    rintro i t s hi ⟨i6,i25,il,ii,⟨zs,al,hzl,hce⟩,hlt,iK⟩;clear hL;have e5:(i:Int)<(vs.length:Int):=by omega
    have e7:wr .i64 ((i:Int)+1)=((i+1:Nat):Int):=by rw[aZ (by omega) (by omega)];rfl
    have hC:=hv vs[i] (Q2 hi);have hk:=Dy vs hi;have hle:=Fb vs (i+1);obtain⟨s',w1,⟨al',w2⟩,w3⟩:=OX fM hce (El (fun p hp=>hv p (V6 hp))) hzl (by omega) hC.len (hC.first s iK) hC.nat hC.sc hC.clen;have hkc:gu (vs.take i)++vs[i].2.2=gu (vs.take (i+1)):=by rw[<-J1 hi,Nl]
    rw[<-hk]at w1;rw[hkc]at w2;simp[i6,i25,il,ii,e5,e7,ix i hi,ld s i hi iK,w1];refine⟨_,_,⟨rfl,rfl⟩,by simp,by simp[i25],by simp[il],by simp,⟨zs.drop (vs[i].2.1*1),al',?_,w2⟩,J5 hlt w3.next,dz iK w3 (by simp) (by simp)⟩;rw[V7,hzl,<-V8];congr 1;omega)
   (by rintro t s ⟨i6,i25,il,ii,⟨zs,al,hzl,hce⟩,hlt,iK⟩;clear hL;rw[J3]at i6 hzl hce;have:zs=[]:=Q8 (by rw[hzl];simp);subst this;rw[Q4]at hce;simp[il,ii];exact⟨_,_,⟨rfl,rfl⟩,by simp[i6],⟨_,hce⟩,iK⟩)
  clear hL;exact⟨s2,s1.next,s1.next,al2,by simp[u6,aG,aF],uc,Q0 _,Q0 _,uK⟩
 obtain⟨s1,R,f,al,h2,h3,h4,h5,h6⟩:=key;have hz:Fz st.next s1 (.sl R 0 (cu vs) 1 none) (.rs (gu vs) (cu vs) 1):=.slice h3 (El hv).symm h5 (.pure (KJ hv)) (by omega);exact⟨_,vi rfl rfl rfl rfl rfl (by decide) func91 rfl (Q6 rfl) h2 hz,h6.shut (Q0 _)⟩
def eF(fr:List ah):List (List AV× Ex):=fr.map fun y=>([],cf y)
theorem OE(fr:List ah):(aX (eF fr)).Ty 0:=ae.Af fun p hp=>by rw[fC]at hp;obtain⟨y,-,rfl⟩:=List.mem_map.1 hp;refine⟨rfl,?_⟩;exact⟨by omega,⟨[],.inl ⟨rfl,rfl⟩,by simp⟩,trivial,trivial,trivial⟩
theorem Mn(s:ah):(cf s).cells=[.i .i64 1,.s s,.i .i64 0,.sn,.sn,.sn,.sn]:=by simp[cf,Ex.cells,ae.slice]
theorem TP(L:List (List AV× Ex))(p:List AV× Ex):(aX (L++[p])).flat=(aX L).flat++(p.1++p.2.cells):=by grind[ae.sU,fC]
def VN(o:Option (AV× St))(st:St)(fr:List ah):Prop:=∃ s1 v,o=some (v,s1)/\ew s1 st.next 7 v fr.length (aX (eF fr)).flat/\Kp [] [] st s1
theorem WM{fr:List ah}(hw:eV st [] w fr)(hl:fr.length<=1000000)(hN:2000000<=N):
  ∃ st',(Tw c (N+1)).call 87 [w] st=some ((aX (eF fr)).slice 7,st')/\Kp [] [] st st':=by
 have key:VN (aV c N f87 (f87.body.getD .skip) [w] st) st fr:=by
  unfold aV;simp[f87,hw.len,bw];generalize hL:bf _ _ _ _=L;obtain⟨t1,s1,rfl,u3,uK⟩:=dy hL 0 fr.length
   (fun i t s=>ab t 6=w/\ab t 7=.i .i64 (fr.length:Int)/\ab t 8=.i .i64 (i:Int)/\ew s st.next 7 (ab t 3) i (aX (eF (fr.take i))).flat/\Kp [] [] st s)
   (fun t s=>ew s st.next 7 (ab t 3) fr.length (aX (eF fr)).flat/\Kp [] [] st s) (by omega)
   ⟨by simp,by simp,by simp,⟨none,fun _=>by simp,by simp_all[eF,aX,ae.flat,aW.nil]⟩,.refl _ _ _⟩
   (by
    rintro i t s hi ⟨i6,il,ii,⟨g,-,iO⟩,iK⟩;have e5:(i:Int)<(fr.length:Int):=by omega
    have e7:wr .i64 ((i:Int)+1)=((i+1:Nat):Int):=by rw[aZ (by omega) (by omega)];rfl
    obtain⟨a0,ix,ldx⟩:=hw.at hi;have ldi:=ldx [] [] s iK (by simp) (by simp);obtain⟨va,hva⟩:∃ va,ab t 3=va:=⟨_,rfl⟩;rw[hva]at iO;have bv:=fun(t:Tr AV) (h:ai t (.tmp 13)=.s fr[i])=>Ir (S:=Tw c N) (st:=s) (x:=.const (.int .i64 1)) rfl h
    have bo:=fun(t:Tr AV) (h:ai t (.tmp 14)=.ag (cf fr[i]).cells)=>gT (S:=Tw c N) (st:=s) lX (by rw[h];exact j9 _) (Ex.aO _)
    obtain⟨v',g',s',w1,w2,w3,w4⟩:=iO.mc lX (new:=(cf fr[i]).cells) (by rfl) (Ex.aO _) (by omega) iK.next;have hgl:=iO.fJ;have ef:(aX (eF (fr.take i))).flat++(cf fr[i]).cells=(aX (eF (fr.take (i+1)))).flat:=by rw[<-J1 hi];unfold eF;rw[List.map_append,List.map_singleton,TP];simp
    rw[ef]at w2;rw[Mn]at bo w1;simp[i6,il,ii,e5,e7,ix,ldi,hva,bv,bo,w1];exact⟨_,_,⟨rfl,rfl⟩,by simp[i6],by simp[il],by simp,⟨g',fun h=>by omega,by simpa using w2⟩,dz iK w3 (by simp) (fun x hx=>(hgl x (by simpa using hx)).1)⟩)
   (by rintro t s ⟨i6,il,ii,iO,iK⟩;simp[il,ii];exact⟨_,_,⟨rfl,rfl⟩,by simpa using iO,iK⟩)
  exact⟨s1,ab t1 3,by simp[aG,aF],u3,uK⟩
 obtain⟨s1,v,h2,h3,h4⟩:=key;have h3':ew s1 st.next 7 v (aX (eF fr)).len (aX (eF fr)).flat:=by rw[kh];simpa[eF]using h3
 have hz:=h3'.part rfl (Q0 _) (by omega) (OE fr);exact⟨_,vi rfl rfl rfl rfl rfl (by decide) func87 rfl (Q6 rfl) h2 hz,h4.shut (Q0 _)⟩
def eX(T:List ah)(n k:Nat)(L:List ah):Prop:=L.Nodup/\∀ s∈L,∃ m,n<m/\m<=k/\s=dE m/\s∉T
theorem eX.nil:eX T n k []:=⟨List.nodup_nil,fun s h=>by grind⟩
theorem eX.mono{n' k':Nat}(h:eX T n k L)(h1:n'<=n)(h2:k<=k'):eX T n' k' L :=
 ⟨h.1,fun s hs=>by obtain⟨m,a,b,d,e⟩:=h.2 s hs;grind⟩
theorem eX.app(h:eX T n m L)(g:eX T m k M)(h1:n<=m)(h2:m<=k):eX T n k (L++M):=by
 refine⟨V1.2 ⟨h.1,g.1,fun a ha b hb=>?_⟩,fun s hs=>?_⟩
 ·obtain⟨i,-,i2,i3,-⟩:=h.2 a ha;obtain⟨j,j1,-,j3,-⟩:=g.2 b hb;grind[AI]
 ·rcases List.mem_append.1 hs with hs|hs
  ·exact(h.mono (Q0 _) h2).2 s hs
  ·exact(g.mono h1 (Q0 _)).2 s hs
theorem eX.perm(h:eX T n k L)(p:M.Perm L):eX T n k M :=
 ⟨p.nodup_iff.2 h.1,fun s hs=>h.2 s (p.mem_iff.1 hs)⟩
theorem eX.left(h:eX T n k (L++M)):eX T n k L :=
 ⟨(V1.1 h.1).1,fun s hs=>h.2 s (List.mem_append_left _ hs)⟩
theorem eX.right(h:eX T n k (L++M)):eX T n k M :=
 ⟨(V1.1 h.1).2.1,fun s hs=>h.2 s (List.mem_append_right _ hs)⟩
theorem eX.names(h:eX T n k L)(hk:k<1000000):eS L=true:=by unfold eS;simp only[Q1,List.all_eq_true,decide_eq_true_eq];refine⟨fun s hs=>?_,h.1⟩;obtain⟨m,-,h2,rfl,-⟩:=h.2 s hs;exact Hi (by omega)
theorem eX.one(n:Nat):eX T n (bD T n) [dE (bD T n)] :=
 ⟨by simp,fun s hs=>by grind[sW,AJ]⟩
section
variable(T : List ah)
theorem tZ:∀ (l:List ah) (S:bL) (n:Nat),n<=(aU T S l n).2.2/\(aU T S l n).2.1.length=l.length/\eX T n (aU T S l n).2.2 (aU T S l n).2.1/\
  (∀ z,z∉l->(aU T S l n).1 z=S z)/\(∀ z,z∈l->∃ y,y∈(aU T S l n).2.1/\(aU T S l n).1 z=some y)/\
  (l.Nodup->∀ i (h:i<l.length) (h':i<(aU T S l n).2.1.length),(aU T S l n).1 l[i]=some (aU T S l n).2.1[i])
 |[],S,n=>⟨Q0 _,rfl,.nil,fun _ _=>rfl,(fun z hz=>(List.not_mem_nil hz).elim),(fun _ i h=>absurd h (Nat.not_lt_zero i))⟩
 |x::l,S,n=>by
  obtain⟨h1,h2,h3,h4,h5,h6⟩:=tZ l (sT S x (dE (bD T n))) (bD T n);have hg:=sW T n;simp only[aU];refine⟨by omega,by grind,(eX.one n).app h3 (by omega) h1,fun z hz=>?_,fun z hz=>?_,fun hd i hi hi'=>?_⟩
  ·grind[sT]
  ·grind[sT]
  grind[sT]
end
theorem Dg:∀ l:ae,l.gY.Perm (l.names++l.bC)
 |.nil f=>by simp[ae.gY,ae.names,ae.bC,ae.list]
 |.cons p x l=>by
  have ih:=Dg l;have hn:(ae.cons p x l).names=gn (p,x)::l.names:=by simp[ae.names,ae.list]
  rw[hn];simp only[ae.gY,ae.bC,List.cons_append];refine List.Perm.cons _ ?_;refine(List.Perm.append_left _ ih).trans ?_;rw[<-Q7,<-Q7];exact List.Perm.append_right _ List.perm_append_comm
theorem Xe(late:ae)(out:Ex):(kN late out).bM=late.gY++out.bM:=by
 cases late with
 |nil f=>simp[kN,ae.gY]
 |cons p x l=>simp[kN,Ex.bM,ae.bC,ae.iX,ba]
theorem LS(p:List AV)(x:Ex)(l:ae):(ae.cons p x l).names=gn (p,x)::l.names:=by simp[ae.names,ae.list]
theorem Ep(T:List ah):∀ (l:ae) (S:bL) (ns:List ah) (n:Nat),l.len<=ns.length->(c8 T l S ns n).1.names=ns.take l.len
 |.nil f,S,ns,n,h=>by simp[c8,ae.names,ae.list,ae.len]
 |.cons p x l,S,[],n,h=>by simp[ae.len]at h
 |.cons p x l,S,y::ns,n,h=>by simp only[c8,ae.len,LS,List.tail_cons];rw[Ep T l S ns _ (by simpa[ae.len]using h)];simp[gn,fD]
section
variable(T : List ah)
theorem CX{x:Ex}{k:Int}(h:k<=(i:Int)/\(bB T x S n).1.atom=false):
  cg T (.cons p x l) S k i n=(.cons [] (cf (dE (bD T (bB T x S n).2))) (cg T l S k (i+1) (bD T (bB T x S n).2)).1,.cons [.s (dE (bD T (bB T x S n).2))] (bB T x S n).1 (cg T l S k (i+1) (bD T (bB T x S n).2)).2.1,(cg T l S k (i+1) (bD T (bB T x S n).2)).2.2):=by
 rw[cg];grind
theorem AY{x:Ex}{k:Int}(h:¬ (k<=(i:Int)/\(bB T x S n).1.atom=false)):
  cg T (.cons p x l) S k i n=(.cons [] (bB T x S n).1 (cg T l S k (i+1) (bB T x S n).2).1,(cg T l S k (i+1) (bB T x S n).2).2.1,(cg T l S k (i+1) (bB T x S n).2).2.2):=by
 rw[cg];grind
mutual
theorem Ga:∀ (x:Ex) (S:bL) (n:Nat),n<=(bB T x S n).2/\eX T n (bB T x S n).2 (bB T x S n).1.bM
 |.mk k nm num ps b a l,S,n=>by
  unfold bB;by_cases h1:k=1
  ·rw[if_pos h1];refine⟨Q0 _,?_⟩;exact .nil
  ·rw[if_neg h1];simp only;obtain⟨a1,a2,a3,-⟩:=tZ T (ba ps) S n;generalize aU T S (ba ps) n=w1 at *;obtain⟨b1,b2,b3,-⟩:=tZ T b.names w1.1 w1.2.2;generalize aU T w1.1 b.names w1.2.2=w2 at *;rw[eW]at b2;obtain⟨c1,c2⟩:=Dn b w2.1 w2.2.1 w2.2.2;have c3:=Ep T b w2.1 w2.2.1 w2.2.2 (by omega);generalize c8 T b w2.1 w2.2.1 w2.2.2=rb at *;obtain⟨d1,d2⟩:=DW a w2.1 (fP strF k nm a.len) 0 rb.2;generalize cg T a w2.1 (fP strF k nm a.len) 0 rb.2=ra at *;obtain⟨e1,e2⟩:=Mg l w2.1 ra.2.2;refine⟨by omega,?_⟩;rw[Xe];simp only[Ex.bM,zN];have hB:=Dg rb.1;refine eX.perm ((a3.app b3 a1 b1).app (c2.app (d2.app e2 d1 e1) c1 (by omega)) (by omega) (by omega)) ?_;grind
theorem Dn:∀ (l:ae) (S:bL) (ns:List ah) (n:Nat),n<=(c8 T l S ns n).2/\eX T n (c8 T l S ns n).2 (c8 T l S ns n).1.bC
 |.nil _,_,_,_=>by simp only[c8,ae.bC];exact⟨Q0 _,.nil⟩
 |.cons p x l,S,ns,n=>by simp only[c8,ae.bC];obtain⟨h1,h2⟩:=Ga x S n;obtain⟨g1,g2⟩:=Dn l S ns.tail (bB T x S n).2;exact⟨by omega,h2.app g2 h1 g1⟩
theorem DW:∀ (l:ae) (S:bL) (k:Int) (i n:Nat),n<=(cg T l S k i n).2.2/\eX T n (cg T l S k i n).2.2 ((cg T l S k i n).1.bC++(cg T l S k i n).2.1.gY)
 |.nil _,_,_,_,_=>by simp only[cg,ae.bC,ae.gY];exact⟨Q0 _,.nil⟩
 |.cons p x l,S,k,i,n=>by
  obtain⟨h1,h2⟩:=Ga x S n;by_cases hc:k<=(i:Int)/\(bB T x S n).1.atom=false
  ·rw[CX T hc];obtain⟨g1,g2⟩:=DW l S k (i+1) (bD T (bB T x S n).2);have hg:=sW T (bB T x S n).2;simp only;generalize cg T l S k (i+1) (bD T (bB T x S n).2)=q at *;refine⟨by omega,?_⟩;simp only[ae.bC,ae.gY,cf,Ex.bM,ae.iX,ba,Z6,gn,List.headD_cons,fD];refine eX.perm ((h2.app (eX.one (bB T x S n).2) h1 (by omega)).app g2 (by omega) g1) ?_;rw[List.perm_iff_count];intro z;simp only[List.count_append,List.count_cons,List.count_nil];omega
  ·rw[AY T hc];obtain⟨g1,g2⟩:=DW l S k (i+1) (bB T x S n).2;simp only;generalize cg T l S k (i+1) (bB T x S n).2=q at *;refine⟨by omega,?_⟩;simp only[ae.bC,Q7];exact h2.app g2 h1 g1
theorem Mg:∀ (l:ae) (S:bL) (n:Nat),n<=(dP T l S n).2/\eX T n (dP T l S n).2 (dP T l S n).1.iX
 |.nil _,_,_=>by simp only[dP,ae.iX];exact⟨Q0 _,.nil⟩
 |.cons p x l,S,n=>by
  simp only[dP,ae.iX];obtain⟨a1,a2,a3,-⟩:=tZ T (cD (p,x)).vs S n;generalize aU T S (cD (p,x)).vs n=w at *;obtain⟨h1,h2⟩:=Ga x w.1 w.2.2;obtain⟨g1,g2⟩:=Mg l S (bB T x w.1 w.2.2).2;refine⟨by omega,?_⟩;have:(cD ([.i .i64 (cD (p,x)).k,.s (cD (p,x)).n,.i .i64 (cD (p,x)).m,cG w.2.1],(bB T x w.1 w.2.2).1)).vs=w.2.1:=by simp[cD,zN]
  rw[this];exact a3.app (h2.app g2 h1 g1) a1 (by omega)
end
end
structure FQ(k:Int)(ps bl al ll:Nat):Prop where
 p5:k≠5->ps=0
 b7:k≠7->bl=0
 l8:k≠8->ll=0
 a1:k=5\/k=7\/k=8->al=1
 a0:k=1\/k=2\/k=3->al=0
 lo:1<=k
 hi:k<=9
 p32:ps<=32
theorem Ch{k:Int}{ps:List ah}(h:dG C sc k nm num ps b a l=true):FQ k ps.length b.len a.len l.len:=by
 unfold dG eH at h;generalize ps.length=p at *;by_cases h1:k=1
 ·subst h1;simp at h;constructor<;>omega
 by_cases h2:k=2
 ·subst h2;simp at h;constructor<;>omega
 by_cases h3:k=3
 ·subst h3;simp at h;constructor<;>omega
 by_cases h4:k=4
 ·subst h4;simp at h;constructor<;>omega
 by_cases h5:k=5
 ·subst h5;simp at h;constructor<;>omega
 by_cases h6:k=6
 ·subst h6;simp at h;constructor<;>omega
 by_cases h7:k=7
 ·subst h7;simp at h;constructor<;>omega
 by_cases h8:k=8
 ·subst h8;simp at h;constructor<;>omega
 by_cases h9:k=9
 ·subst h9;simp at h;constructor<;>omega
 simp[h1,h2,h3,h4,h5,h6,h7,h8,h9]at h
theorem acq{k:Int}{ps ps':List ah}{b' a' l':ae}(hk:k≠1)(h:dG C sc k nm num ps b a l=true)
  (e1:ps'.length=ps.length) (e2:b'.len=b.len) (e3:a'.len=a.len) (e4:l'.len=l.len) (n1:eS ps'=true) (n2:eS b'.names=true) (hA:mN C l.bN=true->mN C l'.bN=true):dG C cX k nm num ps' b' a' l'=true:=by
 grind[dG]
def HR(a b:ie):Prop:=a.k=b.k/\a.n=b.n/\a.m=b.m/\a.vs.length=b.vs.length/\eS b.vs=true
def Dp:List ie->List ie->Prop
 |[],[]=>True
 |a::l,b::m=>HR a b/\Dp l m
 |[],_::_=>False
 |_::_,[]=>False
theorem acH(l:List ie)(x:Int):l.all (fun b=>decide (b.m≠x))=(l.map ie.m).all (fun m=>decide (m≠x)):=by grind
theorem Mc{C:ah->Option AV}:∀ {H H' pre pre':List ie}{kind:Int}{typ:ah}{sm:Bool}{seen:List ah},Dp H H'->pre.map ie.m=pre'.map ie.m->cC C pre H kind typ sm seen=true->cC C pre' H' kind typ sm seen=true
 |[],[],_,_,_,_,_,_,_,_,_=>by simp only[cC]
 |[],_::_,_,_,_,_,_,_,h,_,_=>h.elim
 |_::_,[],_,_,_,_,_,_,h,_,_=>h.elim
 |a::l,a'::l',pre,pre',kind,typ,sm,seen,⟨⟨e1,e2,e3,e4,e5⟩,hs⟩,hp,h=>by
  have hp':(pre++[a]).map ie.m=(pre'++[a']).map ie.m:=by grind
  have ih:=fun(kind:Int) (typ:ah) (sm:Bool) (seen:List ah) (h:cC C (pre++[a]) l kind typ sm seen=true)=>Mc hs hp' h
  have he:l'.isEmpty=l.isEmpty:=by
   cases l with
   |nil=>cases l' with
    |nil=>rfl
    |cons y m=>exact hs.elim
   |cons x l=>cases l' with
    |nil=>exact hs.elim
    |cons y m=>rfl
  unfold cC at h|-;rw[acH,hp]at h;grind
theorem WU{H H':List ie}(h:Dp H H')(g:mN C H=true):mN C H'=true:=by
 unfold mN at g|-;rw[Q1]at g|-;refine⟨?_,Mc h rfl g.2⟩;cases H with
 |nil=>grind
 |cons a l=>cases H' with
  |nil=>exact h.elim
  |cons b m=>rfl
def mh(S:bL)(sc cX:List (List ah)):Prop:=∀ s,hasB sc s=true->hasB cX ((S s).getD s)=true
def uR(S:bL):Prop:=∀ s y,S s=some y->named y=true
theorem CS(l:List ah)(sc:List (List ah))(s:ah):hasB (l::sc) s=true↔s∈l\/hasB sc s=true:=by unfold hasB;simp
theorem mh.Sn(h:mh S sc cX)(A:List ah):mh S sc (A::cX):=fun s hs=>(CS _ _ _).2 (.inr (h s hs))
section
variable(T : List ah)
theorem mh.aU{S:bL}{sc cX:List (List ah)}(h:mh S sc cX)(l:List ah)(n:Nat):mh (aU T S l n).1 (l::sc) ((Go.Proofs.YtjpheibfljmbjaaGreatDoor.aU T S l n).2.1::cX):=by
 obtain⟨-,-,-,h4,h5,-⟩:=tZ T l S n;intro s hs;rw[CS]at hs|-;by_cases hl:s∈l
 ·grind
 ·right;rw[h4 s hl];exact h s (hs.resolve_left hl)
theorem uR.aU{S:bL}(h:uR S)(l:List ah)(n:Nat)(hk:(Go.Proofs.YtjpheibfljmbjaaGreatDoor.aU T S l n).2.2<1000000):uR (Go.Proofs.YtjpheibfljmbjaaGreatDoor.aU T S l n).1:=by
 obtain⟨-,-,h3,h4,h5,-⟩:=tZ T l S n;intro s y hs;by_cases hl:s∈l
 ·obtain⟨z,y1,y2⟩:=h5 s hl;rw[y2]at hs;cases hs;obtain⟨m,-,m2,rfl,-⟩:=h3.2 _ y1;exact Hi (by omega)
 ·rw[h4 s hl]at hs;exact h s y hs
end
theorem lK(h:l.len=0):∃ f,l=.nil f:=by
 cases l with
 |nil f=>grind
 |cons p x l=>simp[ae.len]at h
theorem Pg(T:List ah):∀ (l:ae) (S:bL) (k:Int) (i n:Nat),(i:Int)+l.len<=k->(cg T l S k i n).2.1=.nil true
 |.nil _,_,_,_,_,_=>by simp only[cg]
 |.cons p x l,S,k,i,n,h=>by simp only[ae.len]at h;rw[AY T (by omega)];exact Pg T l S k (i+1) _ (by omega)
theorem aab(h:(∃ f,late=.nil f)->gK C out sc=true)(g:(∀ f,late≠.nil f)->gK C out (late.names::sc)=true/\eI C late (late.names::sc)=true/\eS late.names=true):gK C (kN late out) sc=true:=by
 cases late with
 |nil f=>exact h ⟨f,rfl⟩
 |cons p x l =>grind[kN,gK,dG,eH,ba,ae.len,eI,dS,jh]
theorem PK{A:List ah}{s:ah}(h:hasB sc s=true):hasB (A::sc) s=true:=(CS _ _ _).2 (.inr h)
def Bj(late:ae)(sc:List (List ah)):List (List ah):=match late with
 |.nil _=>sc
 |.cons p x l=>(ae.cons p x l).names::sc
theorem YL(h:mh S sc cX):mh S sc (Bj late cX):=by
 cases late with
 |nil f=>exact h
 |cons p x l=>exact h.Sn _
theorem VU:∀ s∈late.names,hasB (Bj late sc) s=true:=by
 cases late with
 |nil f=>grind[ae.names,ae.list]
 |cons p x l=>intro s hs;exact(CS _ _ _).2 (.inl hs)
theorem UL(h1:gK C out (Bj late sc)=true)(h2:eI C late (Bj late sc)=true)(h3:eS late.names=true):gK C (kN late out) sc=true :=
 aab (fun⟨f,hf⟩=>by subst hf;exact h1) (fun hn=>by
  cases late with
  |nil f=>grind
  |cons p x l=>exact⟨h1,h2,h3⟩)
theorem H4(h:l.len=0):l.names=[]:=Q8 (by rw[eW];grind)
theorem UW{A:ae}(h:eX T n k (A.bC++late.gY))(hk:k<1000000):eS late.names=true :=
 ((h.right.perm (Dg late).symm).left).names hk
section
variable(T : List ah)(C : ah->Option AV)
mutual
theorem HF:∀ (x:Ex) (S:bL) (n:Nat) (sc cX:List (List ah)),gK C x sc=true->mh S sc cX->uR S->bG T n+x.wt<1000000->gK C (bB T x S n).1 cX=true
 |.mk k nm num ps b a l,S,n,sc,cX,h,hS,hN,hp=>by
  simp only[gK,Q1]at h;obtain⟨hh,oa,ob,ol⟩:=h;have F:=Ch hh;simp only[Ex.wt]at hp;unfold bB;by_cases h1:k=1
  ·rw[if_pos h1];subst h1;have q1:=F.p5 (by decide);simp only[gK,eI,jh,J4];unfold dG at hh|-;rw[if_pos rfl]at hh|-;simp only[Q1]at hh|-;obtain⟨g1,g2,g3⟩:=hh;refine⟨?_,?_,hS nm g3⟩
   ·grind[eH,ba,ae.len]
   ·cases hs:S nm with
    |none=>grind
    |some y=>exact hN nm y hs
  ·rw[if_neg h1];simp only;have W1:=tZ T (ba ps) S n;have R1:=fun sc cX (h:mh S sc cX)=>h.aU T (ba ps) n
   have M1:=hN.aU T (ba ps) n;have P1:=qT T (ba ps) S n;have Z1:(ba ps)=[]->aU T S (ba ps) n=(S,[],n):=fun h=>by rw[h];rfl
   generalize aU T S (ba ps) n=w1 at *;have W2:=tZ T b.names w1.1 w1.2.2;have M2:=fun h=>uR.aU T (S:=w1.1) h b.names w1.2.2
   have R2:=fun sc cX (h:mh w1.1 sc cX)=>h.aU T b.names w1.2.2
   have P2:=qT T b.names w1.1 w1.2.2;have Z2:b.names=[]->aU T w1.1 b.names w1.2.2=(w1.1,[],w1.2.2):=fun h=>by rw[h];rfl
   generalize aU T w1.1 b.names w1.2.2=w2 at *;rw[eW]at P2;obtain⟨a1,a2,a3,-⟩:=W1;obtain⟨b1,b2,b3,-⟩:=W2;rw[eW]at b2;have K1:=oM T w1.2.2;have K2:=oM T w2.2.2;have c3:=Ep T b w2.1 w2.2.1 w2.2.2 (by omega);rw[List.take_of_length_le (by omega)]at c3;have cl:=Hz (T:=T) b w2.1 w2.2.1 w2.2.2;have cp:=Ac T b w2.1 w2.2.1 w2.2.2;have HB:=FP b w2.1 w2.2.1 w2.2.2;generalize c8 T b w2.1 w2.2.1 w2.2.2=rb at *;obtain⟨d1,d2⟩:=DW T a w2.1 (fP strF k nm a.len) 0 rb.2;have dl:=Fu (T:=T) a w2.1 (fP strF k nm a.len) 0 rb.2;have dp:=AM T a w2.1 (fP strF k nm a.len) 0 rb.2;have HA:=FG a w2.1 (fP strF k nm a.len) 0 rb.2;have ZA:k=5\/k=7\/k=8->(cg T a w2.1 (fP strF k nm a.len) 0 rb.2).2.1=.nil true:=fun h=>by refine Pg T a _ _ _ _ ?_;unfold fP;rw[if_neg (by omega),if_neg (by omega),if_neg (by omega)];omega
   generalize cg T a w2.1 (fP strF k nm a.len) 0 rb.2=ra at *;have el:=GR (T:=T) l w2.1 ra.2.2;have ep:=BV T l w2.1 ra.2.2;have HL:=PE l w2.1 ra.2.2;generalize dP T l w2.1 ra.2.2=rl at *;have P1':=P1.1;have P2':=P2.1;have K3:=oM T ra.2.2;have m1:=M1 (by omega);have m2:=M2 m1 (by omega);have nl:=UW d2 (by omega);have hn1:=a3.names (by omega);have hn2:eS rb.1.names=true:=by rw[c3];exact b3.names (by omega)
   obtain⟨sc2,hsc2⟩:∃ s,Bj ra.2.1 cX=s:=⟨_,rfl⟩;have hS2:mh S sc sc2:=by rw[<-hsc2];exact YL hS
   have hlt:∀ s∈ra.2.1.names,hasB sc2 s=true:=by rw[<-hsc2];exact VU
   have SI:mh w2.1 (dS k (ba ps) b sc) (dS k w1.2.1 rb.1 sc2):=by
    unfold dS;by_cases k5:k=5
    ·rw[if_pos k5,if_pos k5];have:=Z2 (H4 (F.b7 (by omega)));rw[this];exact R1 _ _ hS2
    ·rw[if_neg k5,if_neg k5];have z1:=Z1 (Q8 (F.p5 k5));by_cases k7:k=7
     ·rw[if_pos k7,if_pos k7,c3];exact R2 _ _ (by rw[z1];exact hS2)
     ·rw[if_neg k7,if_neg k7,Z2 (H4 (F.b7 k7)),z1];exact hS2
   have hlt':∀ s∈ra.2.1.names,hasB (dS k w1.2.1 rb.1 sc2) s=true:=fun s hs=>by
    have:=hlt s hs;unfold dS;split
    ·exact PK this
    ·split
     ·exact PK this
     ·exact this
   obtain⟨A1,A2⟩:=HA _ _ oa SI m2 (by omega) hlt';have B1:=HB _ _ ob SI m2 (by omega);have hl8:jh C rl.1 sc2=true/\(mN C l.bN=true->mN C rl.1.bN=true):=by
    by_cases k8:k=8
    ·have z1:=Z1 (Q8 (F.p5 (by omega)));have z2:=Z2 (H4 (F.b7 (by omega)));obtain⟨q1,q2⟩:=HL sc sc2 ol (by rw[z2,z1];exact hS2) m2 (by omega);exact⟨q1,WU q2⟩
    ·have hl0:=F.l8 k8;obtain⟨f,hf⟩:=lK (l:=rl.1) (by omega);rw[hf];obtain⟨f',hf'⟩:=lK hl0;rw[hf'];exact⟨by simp only[jh],fun h=>by simp[mN,ae.bN,ae.list]at h⟩
   refine UL ?_ ?_ nl
   ·rw[hsc2];simp only[gK,Q1,zN];exact⟨acq h1 hh a2 cl dl el hn1 hn2 hl8.2,A1,B1,hl8.1⟩
   ·rw[hsc2];by_cases k578:k=5\/k=7\/k=8
    ·rw[ZA k578];simp only[eI]
    ·have hi:dS k w1.2.1 rb.1 sc2=sc2:=by
      unfold dS;rw[if_neg (by omega),if_neg (by omega)]
     rw[hi]at A2;exact A2
theorem FP:∀ (l:ae) (S:bL) (ns:List ah) (n:Nat) (sc cX:List (List ah)),eI C l sc=true->mh S sc cX->uR S->bG T n+l.wt<1000000->eI C (c8 T l S ns n).1 cX=true
 |.nil _,_,_,_,_,_,_,_,_,_=>by simp only[c8,eI]
 |.cons p x l,S,ns,n,sc,cX,h,hS,hN,hp=>by simp only[eI,Q1]at h;simp only[ae.wt]at hp;have:=qY T x S n;simp only[c8,eI,Q1];exact⟨HF x S n sc cX h.1 hS hN (by omega),FP l S ns.tail _ sc cX h.2 hS hN (by omega)⟩
theorem FG:∀ (l:ae) (S:bL) (k:Int) (i n:Nat) (sc cX:List (List ah)),eI C l sc=true->mh S sc cX->uR S->bG T n+(l.len+l.wt)<1000000->(∀ s∈(cg T l S k i n).2.1.names,hasB cX s=true)->eI C (cg T l S k i n).1 cX=true/\eI C (cg T l S k i n).2.1 cX=true
 |.nil _,_,_,_,_,_,_,_,_,_,_,_=>by simp only[cg,eI];exact⟨trivial,trivial⟩
 |.cons p x l,S,k,i,n,sc,cX,h,hS,hN,hp,hl=>by
  simp only[eI,Q1]at h;simp only[ae.wt,ae.len]at hp;have p1:=qY T x S n;have e1:=HF x S n sc cX h.1 hS hN (by omega);by_cases hc:k<=(i:Int)/\(bB T x S n).1.atom=false
  ·rw[CX T hc]at hl|-;have p2:=wJ T (bB T x S n).2;have p3:=oM T (bD T (bB T x S n).2);simp only[LS,List.mem_cons,forall_eq_or_imp]at hl;obtain⟨q1,q2⟩:=FG l S k (i+1) _ sc cX h.2 hS hN (by omega) hl.2;simp only[eI,Q1];refine⟨⟨?_,q1⟩,e1,q2⟩;simp only[cf,gK,eI,jh,J4];unfold dG eH;rw[if_pos rfl];simp[ba,ae.len];exact⟨Hi (by omega),by simpa[gn,fD]using hl.1⟩
  ·rw[AY T hc]at hl|-;obtain⟨q1,q2⟩:=FG l S k (i+1) _ sc cX h.2 hS hN (by omega) hl;simp only[eI,Q1];exact⟨⟨e1,q1⟩,q2⟩
theorem PE:∀ (l:ae) (S:bL) (n:Nat) (sc cX:List (List ah)),jh C l sc=true->mh S sc cX->uR S->bG T n+l.kX<1000000->jh C (dP T l S n).1 cX=true/\Dp l.bN (dP T l S n).1.bN
 |.nil _,_,_,_,_,_,_,_,_=>by simp only[dP,jh];exact⟨trivial,trivial⟩
 |.cons p x l,S,n,sc,cX,h,hS,hN,hp=>by
  simp only[jh,Q1]at h;simp only[ae.kX]at hp;have hv:(cD (p,x)).vs=ba (p.getD 3 .un):=rfl;have W:=tZ T (cD (p,x)).vs S n;have P:=(qT T (cD (p,x)).vs S n).1;have R:=hS.aU T (cD (p,x)).vs n;have M:=hN.aU T (cD (p,x)).vs n;simp only[dP];generalize aU T S (cD (p,x)).vs n=w at *;obtain⟨w1,w2,w3,-⟩:=W;have K:=oM T w.2.2;have m:=M (by omega);have p1:=qY T x w.1 w.2.2;have e1:=HF x w.1 w.2.2 _ _ h.1 (by rw[<-hv];exact R) m (by omega);obtain⟨q1,q2⟩:=PE l S (bB T x w.1 w.2.2).2 sc cX h.2 hS hN (by omega);have h1:(cD ([.i .i64 (cD (p,x)).k,.s (cD (p,x)).n,.i .i64 (cD (p,x)).m,cG w.2.1],(bB T x w.1 w.2.2).1))=⟨(cD (p,x)).k,(cD (p,x)).n,(cD (p,x)).m,w.2.1⟩:=by simp[cD,zN,Go.Ev.intOf,fD]
  have hc:∀ (p:List AV) (x:Ex) (l:ae),(ae.cons p x l).bN=cD (p,x)::l.bN:=fun p x l=>by simp[ae.bN,ae.list]
  refine⟨?_,?_⟩
  ·simp only[jh,Q1];refine⟨?_,q1⟩;simpa[zN]using e1
  ·rw[hc,hc,h1];exact⟨⟨rfl,rfl,rfl,w2.symm,w3.names (by omega)⟩,q2⟩

end
