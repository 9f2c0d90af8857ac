/- A part of the proof. -/
import Derived.Test.YtjpheibfljmbjaaGreatDoorS22
set_option maxRecDepth 100000
set_option maxHeartbeats 8000000
open List renaming mem_cons_of_mem->Q0, mem_append_right->Q1, mem_cons->Q2, map_cons->Q3, mem_singleton->Q4, mem_map->Q6, mem_cons_self->Q7, mem_append_left->Q9, range->J3, sum_cons->J5, mem_range->J6, getElem_mem->J9, count_pos_iff->Z3, drop_eq_getElem_cons->Z4, mem_append->Z5, nodup_append->Z6, length_append->Z7, drop_eq_nil_of_le->Z9, pairwise_cons->V0, nodup_cons->V1, nodup_iff_count->V2, count_append->V3
open Nat renaming le_refl->Q8, le_of_ble_eq_true->J1, beq->J4, lt_succ_self->Z8
open Bool renaming and_eq_true->J8
open Go.Proofs.Tryz
noncomputable section
open Go.Ev
namespace Go.Proofs.YtjpheibfljmbjaaGreatDoor
variable {C : ah->Option AV}{N N7 : Nat}{S : Self}{T : List ah}{a b l q : ae}{al : List Nat}{c : Option Self}{cv x y : AV}{ds : List cK}{e : Int}{s st : St}{sc : List (List ah)}{α : Type}
def jU(q a:ae):Prop:=∃ d outs n M,np (q.names++q.bC) q.list d outs 0 n (nL q.list)/\M.Perm (iu d++outs)/\a=aX M
theorem jU.mem(hq:q.Ty 1)(h:jU q a):∀ p∈a.list,(∃ nm,p.1=[.s nm])/\p.2.Ty:=by
 obtain⟨d,outs,n,M,h1,h2,rfl⟩:=h;intro p hp;rw[fC]at hp;rcases Z5.1 (h2.mem_iff.1 hp) with hp|hp
 ·obtain⟨p',hp',rfl⟩:=Q6.1 hp;refine⟨?_,Eu (h1.sk.wl p' hp').1⟩;exact h1.sk.eO (fun x hx=>(ae.cU hq x hx).1) p' hp'
 ·obtain⟨⟨m,hm,-⟩,hw⟩:=h1.nw p hp;exact⟨⟨_,hm⟩,hw.1⟩
theorem KR{m:Nat}:∀ {L:List (List AV× Ex)},(∀ p∈L,eO m p.1/\p.2.Ty)->(aX L).Ty m
 |[],_=>trivial
 |p::L,h=>⟨(h p (Q7 ..)).1,(h p (Q7 ..)).2,KR fun q hq=>h q (Q0 _ hq)⟩
theorem jU.ty(hq:q.Ty 1)(h:jU q a):a.Ty 1:=by have hm:=h.mem hq;obtain⟨d,outs,n,M,h1,h2,rfl⟩:=h;rw[fC]at hm;exact KR fun p hp=>hm p hp
theorem jU.size{q a:ae}(h:jU q a):a.size<=wL q.list:=by
 obtain⟨d,outs,n,M,h1,h2,rfl⟩:=h;rw[ae.size_eq,fC];have e:∀ {A B:List (List AV× Ex)},A.Perm B->(A.map fun p=>p.2.size).sum=(B.map fun p=>p.2.size).sum:=fun hp=>(hp.map _).sum_nat
 rw[e h2,List.map_append,List.sum_append];have h3:∀ L:List (List AV× Ex),(∀ p∈L,Wl p.2)->(L.map fun p=>p.2.size).sum<=wL L:=by
  intro L;induction L with
  |nil=>intro _;simp[wL]
  |cons p L ih =>
   intro hp;have:=sI _ (hp p (Q7 ..));have:=ih fun x hx=>hp x (Q0 _ hx)
   simp only[wL,Q3,J5]at this|-;omega
 have h4:∀ L:List (List AV× Ex),((iu L).map fun p=>p.2.size).sum<=(L.map fun p=>p.2.size).sum:=by
  intro L;induction L with
  |nil=>simp[iu]
  |cons p L ih =>have:=Rw p.2;simp only[iu,Q3,J5]at ih|-;omega
 have:=h4 d;have:=h3 d h1.sk.wl;have:=h3 outs fun p hp=>(h1.nw p hp).2
 have:=h1.lw;omega
def WG(c:Option Self)(o:Option (AV× St))(st:St)(cv:AV)(q:ae):Prop:=∃ s' a e,o=some (.tu [if e=0 then .ag [cv,a.slice 8] else .ag [.sn,.sn],.i .i64 (if e=0 then 0 else 3)],s')/\Kp [] [] st s'/\oz c cv a e/\jU q a
theorem NF{t':Tr AV}{s':St}{r2:Nat}(h2:ab t' 2=.p r2 0)(h3:ab t' 3=.i .i64 e)(hc:s'.ce r2=some ([x,y],r2,al)):eE prog Tryz.f7.results.toList (.rt t' s')=some (.tu [.ag [x,y],.i .i64 e],s'):=by
 have r:rd s' r2 0 2=some [x,y]:=by rw[au hc];rfl
 have r1:oT prog t' s' (.cell 2 25)=some (.ag [x,y]):=by rw[Jj h2 (by simp),lS lI An,eP,r];rfl
 simp[Tryz.f7,aG,aF,r1,h3]
theorem abC(hv:iq cv ds)(hdl:ds.length<=1000000)(hq:q.Ty 1)(hw:∀ p∈q.list,Wl p.2)(hqn:fV strF q=true)(hwl:wL q.list<=1000000)(hsz:q.size<=1000000)(hq1:1<=q.len)(hd:(q.names++q.bC).Nodup)(hbl:q.bC.length<=1000000)(hC:oz c cv q 0)(hchk:∀ a:ae,a.Ty 1->a.size<=1000000->∃ e,oz c cv a e)
  (b1:q.names.length+nL q.list+(q.names++q.bC).length<1000000) (b3:bG (bW bX (q.names++q.bC)) 0+32*nL q.list+64<1000000) (hT:mI st) (h0:0<st.next) (h7:c=none\/(8:Nat)≠9) (hN:q.size+30000000000000000000<=N):
  WG c ((Tw c (N+3)).call 7 [.ag [cv,q.slice 8]] st) st cv q:=by
 have hcs:cv.cells=some [cv]/\bS cv=true/\bg cv=true:=⟨by rcases hv.1 with ⟨rfl,-⟩|rfl<;>simp,by rcases hv.1 with ⟨rfl,-⟩|rfl<;>rfl,hv.pure⟩;obtain⟨U0,hU0⟩:∃ U,q.names++q.bC=U:=⟨_,rfl⟩
 suffices hh:∃ v1 s1 a e,aV c (N+2) Tryz.f7 (Tryz.f7.body.getD .skip) [.ag [cv,q.slice 8]] st=some (v1,s1)/\Fz st.next s1 v1 (.tu [if e=0 then .ag [cv,a.slice 8] else .ag [.sn,.sn],.i .i64 (if e=0 then 0 else 3)])/\Kp [] [] st s1/\oz c cv a e/\jU q a by obtain⟨v1,s1,a,e,q1,q2,q3,q4,q5⟩:=hh;exact⟨_,a,e,vi rfl rfl rfl rfl rfl (by decide) func7 rfl (J1 rfl) q1 q2,q3.shut (Q8 _),q4,q5⟩
 unfold aV;show ∃ v1 s1 a e,eE prog Tryz.f7.results.toList (ao (dN 0) ⟨prog,Tw c (N+2),false,Tryz.f7.ntmps,N+2⟩ (tmpsOf [.ag [cv,q.slice 8]] 0 .lf) st)=some (v1,s1)/\_
 have hqb:=q.bZ;have zz:bm prog 25=some [.sn,.sn]:=yf;have c1:=cz (st:=st) [cv,q.slice 8];have k1:Kp [] [] st (st.aw [cv,q.slice 8]):=.aw _ _ _;have n1:(st.aw [cv,q.slice 8]).next=st.next+1:=rfl;obtain⟨s1,hs1⟩:∃ s1,st.aw [cv,q.slice 8]=s1:=⟨_,rfl⟩;obtain⟨r1,hr1⟩:∃ r,st.next=r:=⟨_,rfl⟩;rw[hs1]at k1 c1 n1;rw[hr1]at c1 n1;have c2:=cz (st:=s1) [.sn,.sn];have k2:Kp [] [] s1 (s1.aw [.sn,.sn]):=.aw _ _ _;have n2:(s1.aw [.sn,.sn]).next=s1.next+1:=rfl;obtain⟨s2,hs2⟩:∃ s2,s1.aw [.sn,.sn]=s2:=⟨_,rfl⟩;obtain⟨r2,hr2⟩:∃ r,s1.next=r:=⟨_,rfl⟩;rw[hs2]at k2 c2 n2;rw[hr2]at c2 n2;have a0:∃ t,ao (aq (dN 0)) ⟨prog,Tw c (N+2),false,Tryz.f7.ntmps,N+2⟩ (tmpsOf [.ag [cv,q.slice 8]] 0 .lf) st=.nx t s2/\ab t 1=.p r1 0/\ab t 2=.p r2 0:=by simp[dN,aq,Tryz.f7,hs1,hr1,aJ,zz,hs2,hr2]
 obtain⟨t0,a0,b11,b12⟩:=a0;rw[dw rfl a0,show aj (dN 0)=dN 1 from rfl];have C1:=k2.ce c1 (by omega) (by omega) (by simp) (by simp);have ra2:rd s2 r1 0 2=some [cv,q.slice 8]:=by rw[au C1];rfl
 have pr:=fun s:St=>LJ (st:=s) hcs hq hsz hC hqn hd hbl (N:=N+2) (by omega) h7
 have a1:∃ t,ao (aq (dN 1)) ⟨prog,Tw c (N+2),false,Tryz.f7.ntmps,N+2⟩ t0 s2=.nx t s2/\ab t 1=.p r1 0/\ab t 2=.p r2 0:=by simp[dN,aq,aj,Tryz.f7,b11,b12,eP,ra2,pr]
 obtain⟨t1,a1,c11,c12⟩:=a1;rw[dw (cd:=dN 1) rfl a1,show aj (dN 1)=dN 2 from rfl];have hdn:q.names.Nodup:=(Z6.1 hd).1;obtain⟨lr,mn,mu,s3,al3,q1,q2,q3,q4,q5,q6,q7,q8,q9⟩:=Xp (c:=c) (st:=s2) hcs hq (by omega) hdn (N:=N+2) (by omega);have n3:=q9.next;have C13:=q9.ce C1 (by omega) (by omega) (by simp) (by simp);have C23:=q9.ce c2 (by omega) (by omega) (by simp) (by simp);have a2:∃ t,ao (aq (dN 2)) ⟨prog,Tw c (N+2),false,Tryz.f7.ntmps,N+2⟩ t1 s2=.nx t s3/\ab t 1=.p r1 0/\ab t 2=.p r2 0/\ab t 4=.p lr 0:=by simp[dN,aq,aj,Tryz.f7,c11,c12,eP,ra2,q1]
 obtain⟨t2,a2,d1,d2,d4⟩:=a2;rw[dw (cd:=dN 2) rfl a2,show aj (dN 2)=dN 3 from rfl];obtain⟨t3,s4,a3,⟨e1,e2,e4⟩,um,uk⟩:=Ux (c:=c) (N:=N+1) hcs hq hsz hbl hC C13 q2 q4.mp ⟨by omega,q6,q7,q8⟩ d1 d2 d4 (by omega);rw[dw (cd:=dN 3) rfl a3,show aj (dN 3)=dN 4 from rfl];rw[hU0]at um;have n4:=uk.next;have C14:=uk.ce C13 (by omega) (by omega) (by simp;omega) (by simp);have C24:=uk.ce C23 (by omega) (by omega) (by simp;omega) (by simp);have Cl4:=uk.ce q2 (by omega) (by omega) (by simp;omega) (by simp);obtain⟨v,s5,v1,v2,v3⟩:=Nv (c:=c) (st:=s4) hv hdl (N:=N+2) (by omega);have n5:=v3.next;have W5:=v2.w;have wc:=W5.cells;obtain⟨s6,p1,p2,p3,p4⟩:=cO (s:=s5) (z:=[.sn,.sn]) (cells:=[v,.sn]) rfl (by simp[wc.2]);obtain⟨r7,hr7⟩:∃ r,s5.next=r:=⟨_,rfl⟩;rw[hr7]at p1 p2 p4;have n6:=p3.next;have rc4:rd s4 r1 0 1=some [cv]:=by rw[au C14];rfl
 have sto6:=aI lI eP (s5.aw [.sn,.sn]) r7 0 [v,.sn] rfl;have b25:=fun(t:Tr AV) (h:ai t (.tmp 31)=v)=>LQ (S:=Tw c (N+2)) (st:=s5) (t:=t) (x:=.tmp 31) h wc.1
 have a4:∃ t,ao (aq (dN 4)) ⟨prog,Tw c (N+2),false,Tryz.f7.ntmps,N+2⟩ t3 s4=.nx t s6/\ab t 1=.p r1 0/\ab t 2=.p r2 0/\ab t 4=.p lr 0/\ab t 7=.p r7 0:=by simp[dN,aq,aj,Tryz.f7,e1,e2,e4,rc4,v1,b25,aJ,zz,hr7,sto6,p1]
 obtain⟨t4,a4,f1,f2,f4,f7⟩:=a4;rw[dw (cd:=dN 4) rfl a4,show aj (dN 4)=dN 5 from rfl];have K46:=v3.trans p3;have C16:=K46.ce C14 (by omega) (by omega) (by simp) (by simp);have C26:=K46.ce C24 (by omega) (by omega) (by simp) (by simp);have Cl6:=K46.ce Cl4 (by omega) (by omega) (by simp) (by simp);have mn6:=((q3.mp.keep uk (by omega) (by simp;omega))).keep K46 (by omega) (by simp);have mu6:=um.keep K46 (by omega) (by simp);have Kst6:Kp [] [] st s6:=dz ((k1.trans k2).trans q9) (uk.trans (K46.sub (by simp) (by simp))) (by simp;omega) (by simp);have T6:mI s6:=by obtain⟨ty,ht⟩:=hT;exact⟨ty,by rw[Kst6.get 0 (by omega) (by simp)];exact ht⟩
 have CW6:=W5.keep p3 (by simp) (by simp);obtain⟨Z0,hZ0⟩:∃ Z,(J3 s6.next).filter (fun y=>decide (y≠0/\y≠lr/\y≠mn/\y≠mu))=Z:=⟨_,rfl⟩;have mZ:∀ y,y∈Z0↔y<s6.next/\(y≠0/\y≠lr/\y≠mn/\y≠mu):=fun y=>by rw[<-hZ0,List.mem_filter,J6,decide_eq_true_iff]
 have LF0:Lf s6 lr mn mu s6.next q.names U0 0 [] [lr,mn,mu] Z0:=by refine⟨⟨.sn,none,[],⟨⟨al3,Cl6⟩,⟨by omega,by omega,by omega⟩,⟨by omega,by omega,by omega⟩,⟨by omega,by omega,by omega⟩,mn6,mu6,T6⟩,.nil _ _ _,rfl,by simp[eK]⟩,⟨by omega,by omega,by omega,Q8 _⟩,fun y hy=>?_⟩;have:=(mZ y).1 hy;refine⟨by simp;omega,this.1,this.2.1⟩
 have r7Z:r7∈Z0:=(mZ r7).2 ⟨by omega,by omega⟩;rw[hU0]at b1 b3;obtain⟨t5,s7,a5,j2,j4,j7,dv,gd,n',TL,W,outs,d,al7,iC,iO,iW,iL,iT,iK⟩:=RG (c:=c) (N:=N) hq hw (fun p hp=>by
  have:∀ L:List (List AV× Ex),p∈L->p.2.lw<=wL L:=by
   intro L;induction L with
   |nil=>intro h;cases h
   |cons x L ih =>
    intro h;simp only[wL,Q3,J5]at ih|-;rcases Q2.1 h with rfl|h
    ·omega
    ·have:=ih h;omega
  have:=this _ hp;omega) hsz C16 p2 r7Z wc.2 LF0 f1 f2 f4 f7 b1 b3 (by omega)
 rw[dw (cd:=dN 5) rfl a5,show aj (dN 5)=dN 6 from rfl];rw[List.take_length]at iW iT;have n7:=iK.1.next;have dl:d.length=q.list.length:=iW.sk.len;have cdl:(iu d).length=q.list.length:=by simp[iu,dl]
 have wlen:=iW.len;obtain⟨ov,g,cs,g1,g2,g3,hWW⟩:=iL.h;obtain⟨alr,hlr⟩:=g1.ce;obtain⟨x1,x2,x3,x4⟩:=g2.arg;obtain⟨-,csS⟩:=g3.len;obtain⟨v',g',s8,w1,w2,w3,w4⟩:=iO.Ss mJ x1 x2 x3 csS x4 (by have:=ae.aC q;omega) (by omega);have L8:=iL.aai w2 w3 w4;have n8:=w3.next;have r7zw:=iL.zw r7 (Q1 _ r7Z);have gdin:∀ y∈gd.toList,y∈(eK dv++gd.toList)++Z0:=fun y hy=>Q9 _ (Q1 _ hy)
 have r7gd:r7∉gd.toList:=fun hh=>by have:=(iO.rows r7 (Q1 _ hh)).2;omega
 have r7':rd s7 r7 1 1=some [dv]:=by rw[au iC];rfl
 have rlr:rd s7 lr 2 1=some [ov]:=by rw[au hlr];rfl
 have C8:=w3.ce iC (by omega) (by omega) (by simp) r7gd;have hw9:wt s8 r7 1 [v']=some (s8.ax r7 [v,v'] r7):=bP C8 1 [v'] (by simp) (by simp[w2.sc]);have k9:Kp [r7] [r7] s8 (s8.ax r7 [v,v'] r7):=.ax (by simp) (by simp);have C9:=cj r7 [v,v'] r7 (st:=s8);obtain⟨s9,hs9⟩:∃ s9,s8.ax r7 [v,v'] r7=s9:=⟨_,rfl⟩;rw[hs9]at hw9 k9 C9;have st9:=db nH pI s8 r7 1 v' w2.cells;have a6:∃ t,ao (aq (dN 6)) ⟨prog,Tw c (N+2),false,Tryz.f7.ntmps,N+2⟩ t5 s7=.nx t s9/\ab t 2=.p r2 0/\ab t 7=.p r7 0:=by simp[dN,aq,aj,Tryz.f7,br];rw[dj (by kernel_rfl)];simp[j2,j4,j7,r7',rlr,w1,st9,hw9]
 obtain⟨t6,a6,l2,l7⟩:=a6;rw[dw (cd:=dN 6) rfl a6,show aj (dN 6)=dN 7 from rfl];have n9:=k9.next;have L9:=L8.put k9 (by simp;exact .inr (.inr r7Z));have r7v:r7∉eK v'++g'.toList:=fun hh=>by have:=(w2.rows r7 hh).2;omega
 have O9:=w2.put k9 (fun y hy hh=>by rw[Q4.1 hh]at hy;exact r7v hy) (fun y hy hh=>by rw[Q4.1 hh]at hy;exact r7v hy);have hm:(iu d++outs).length=q.list.length+outs.length:=by rw[Z7,cdl]
 have hq1':1<=q.list.length:=by rw[<-ae.aC];exact hq1
 obtain⟨m,hmm⟩:∃ m,q.list.length+outs.length=m:=⟨_,rfl⟩;have shape:∃ r8 f8 al8,g'=some f8/\v'=.sl r8 0 m 8 none/\s8.ce r8=some (di (iu d)++cs,f8,al8)/\(di (iu d)++cs).length=m*8/\s6.next<=r8/\s6.next<=f8/\r8<s8.next/\f8<s8.next:=by
  rw[hmm]at w2;rcases w2 with ⟨-,h,-⟩|⟨r,-,h,-⟩|⟨r8,f8,al8,z1,z2,z3,z4,z5,z6,z7,z8,z9⟩
  ·omega
  ·omega
  ·exact⟨r8,f8,al8,z1,z2,z3,z4,z6,z7,z8,z9⟩
 obtain⟨r8,f8,al8,hg8,hv8,ce8,len8,lr8,lf8,r8l,f8l⟩:=shape;obtain⟨Y,hY⟩:∃ Y,0::(((eK dv++gd.toList)++Z0)++W)=Y:=⟨_,rfl⟩;rw[hY]at g3;have gdY:∀ x∈gd.toList,x∈Y:=fun x hx=>by rw[<-hY];exact Q0 _ (Q9 _ (gdin x hx))
 have r7Y:r7∈Y:=by rw[<-hY];exact Q0 _ (Q9 _ (Q1 _ r7Z))
 have OU8:dX s8 (r8::f8::Y) cs outs:=by
  have w4':=w4;rcases w4' with ⟨e1,e2,e3⟩|⟨e1,r,mm,e2,e3⟩
  ·have h1:r8∈Y:=by
    rw[<-hY,<-e1,hv8];simp[eK]
   have h2:f8∈Y:=gdY f8 (by rw[<-e2,hg8];simp);rw[e3];exact g3.map fun hb=>hb.sub fun x hx=>by
    rcases Q2.1 hx with rfl|hx
    ·exact h1
    ·rcases Q2.1 hx with rfl|hx
     ·exact h2
     ·exact hx
  ·have er:r=r8:=by rw[hv8]at e2;cases e2;rfl
   subst er;rcases e1 with e1|e1
   ·have h2:f8∈Y:=gdY f8 (by rw[<-e1,hg8];simp);exact g3.map fun hb=>(hb.ext (X:=[r]) w3 (by simp) gdY (by simpa using e3)).sub fun x hx=>by
     rcases Q2.1 hx with rfl|hx
     ·simp
     ·rcases Q2.1 hx with rfl|hx
      ·exact Q1 _ h2
      ·exact Q1 _ hx
   ·have hf:f8=s7.next:=by rw[hg8]at e1;cases e1;rfl
    exact g3.map fun hb=>(hb.ext (X:=[r,f8]) w3 (by simp) gdY (by simp;omega)).sub fun x hx=>by simpa using hx
 obtain⟨X,hX⟩:∃ X,r8::f8::Y=X:=⟨_,rfl⟩;rw[hX]at OU8;have hcpd:∀ p∈iu d,(∃ nm,p.1=[.s nm])/\p.2.Ty:=fun p hp=>by obtain⟨p',hp',rfl⟩:=Q6.1 hp;exact⟨iW.sk.eO (m:=1) (fun x hx=>(ae.cU hq x hx).1) p' hp',Eu (iW.sk.wl p' hp').1⟩
 have OA8:=(dX.pure (s:=s8) (X:=X) hcpd).app OU8;have r7X:r7∈X:=by rw[<-hX];exact Q0 _ (Q0 _ r7Y)
 have OA9:=OA8.map (b:=s9) (Y:=X) fun hb=>hb.keep k9 (fun x hx=>by rw[Q4.1 hx];exact r7X) (fun x hx=>by rw[Q4.1 hx];exact r7X)
 obtain⟨cells,hcells⟩:∃ l,di (iu d)++cs=l:=⟨_,rfl⟩;rw[hcells]at OA9 ce8 len8;obtain⟨M,hM,OM⟩:=OA9.ord;have hmL:(iu d++outs).length=m:=by omega
 have nam:=OA9.named;have csc:=OA9.len.2;rw[hmL]at OM nam;have hML:M.length=m:=by rw[hM.length_eq,hmL]
 obtain⟨oL,osc⟩:=OM.len;rw[hML]at oL;have r7r8:r8≠r7:=by omega
 have r7f8:f8≠r7:=by omega
 have ce9:=k9.ce ce8 r8l f8l (by simpa using r7r8) (by simpa using r7f8);have rd9:rd s9 r8 0 (m*8)=some cells:=by rw[au ce9,cQ,<-len8,dD]
 have hw10:=bP ce9 0 (ur cells m) (by omega) osc;rw[gZ,jG (by omega)]at hw10;have k10:Kp [r8] [f8] s9 (s9.ax r8 (ur cells m) f8):=.ax (by simp) (by simp);have ce10:=cj r8 (ur cells m) f8 (st:=s9);obtain⟨s10,hs10⟩:∃ s10,s9.ax r8 (ur cells m) f8=s10:=⟨_,rfl⟩;rw[hs10]at hw10 k10 ce10;have n10:=k10.next;have oc:=VW (c:=c) (n:=N+1) (q:=none) (by omega) (by have:=ae.aC q;omega) rd9 nam csc hw10;have r79:rd s9 r7 1 1=some [v']:=by rw[au C9];rfl
 have a7:∃ t,ao (aq (dN 7)) ⟨prog,Tw c (N+2),false,Tryz.f7.ntmps,N+2⟩ t6 s9=.nx t s10/\ab t 2=.p r2 0/\ab t 7=.p r7 0:=by simp[dN,aq,aj,Tryz.f7,l2,l7,r79,hv8,oc]
 obtain⟨t7,a7,m2,m7⟩:=a7;rw[dw (cd:=dN 7) rfl a7,show aj (dN 7)=dN 8 from rfl];have OM10:=OM.map (b:=s10) (Y:=X) fun hb=>hb.keep k10 (fun x hx=>by rw[Q4.1 hx,<-hX];simp) (fun x hx=>by rw[Q4.1 hx,<-hX];simp)
 have C10:=k10.ce C9 (by omega) (by omega) (by simpa using Ne.symm r7r8) (by simpa using Ne.symm r7f8);have LO:jU q (aX M):=⟨d,outs,n',M,by rw[hU0];exact iW,hM,rfl⟩;obtain⟨a,ha⟩:∃ a,aX M=a:=⟨_,rfl⟩;have aM:a.list=M:=by rw[<-ha,fC]
 have aL:a.len=m:=by rw[ae.aC,aM,hML]
 rw[ha]at LO;have aT:=LO.ty hq;have asz:=LO.size;obtain⟨e,he⟩:=hchk a aT (by omega);have aS:a.slice 8=.rs (di M) m 8:=by rw[ae.cZ (i:=0) (by omega),oy,aM,aL]
 have MT:∀ p∈M,p.2.Ty:=fun p hp=>(LO.mem hq p (by rw[aM];exact hp)).2
 have gdlo:∀ x∈gd.toList,s6.next<=x:=fun x hx=>(iO.rows x (Q1 _ hx)).2
 have CW7:=CW6.keep iK.1 (by simp;omega) (by simp;omega);have CW8:=CW7.keep w3 (by simp) (fun x hx=>by have:=gdlo x hx;omega);have CW9:=CW8.keep k9 (by simp;omega) (by simp;omega);have CW10:=CW9.keep k10 (by simp;omega) (by simp;omega);have jP:gF [] s10 (.ag [v,v']) (.ag [cv,a.slice 8]):=by rw[aS,hv8];exact .ag (.cons CW10.jP (.cons (.slice ce10 (by omega) (by omega) (by omega) (by simp) (by simp) ((OM10.jP MT).sub (by simp)) (by omega)) .nil))
 have ck:=he s10 (.ag [v,v']) (N+2) (by omega) jP;have C27:=iK.1.ce C26 (by omega) (by omega) (by simp;omega) (by simp;omega);have C28:=w3.ce C27 (by omega) (by omega) (by simp) (fun hh=>by have:=gdlo _ hh;omega);have C29:=k9.ce C28 (by omega) (by omega) (by simp;omega) (by simp;omega);have C2A:=k10.ce C29 (by omega) (by omega) (by simp;omega) (by simp;omega);have KA:Kp [] [] st s10:=dz (dz (dz (dz Kst6 iK.1 (by simp;omega) (by simp;omega)) w3 (by simp) (fun x hx=>by have:=gdlo x hx;omega)) k9 (by simp;omega) (by simp;omega)) k10 (by simp;omega) (by simp;omega);have r7A:rd s10 r7 0 2=some [v,v']:=by rw[au C10];rfl
 have v'c:=w2.cells;have v's:=w2.sc;by_cases h0e:e=0
 case neg =>
  have hw:=bP C2A 0 [.sn,.sn] (by simp) (by simp);simp at hw;have k11:Kp [r2] [r2] s10 (s10.ax r2 [.sn,.sn] r2):=.ax (by simp) (by simp);have key:∃ t',ao (dN 8) ⟨prog,Tw c (N+2),false,Tryz.f7.ntmps,N+2⟩ t7 s10=.rt t' (s10.ax r2 [.sn,.sn] r2)/\ab t' 2=.p r2 0/\ab t' 3=.i .i64 3:=by simp[dN,aj,Tryz.f7,m2,m7,eP,r7A,ck,h0e,JE,aI lI eP,hw]
  obtain⟨t',z1,z2,z3⟩:=key;rw[z1,NF z2 z3 (cj _ _ _)];refine⟨_,_,a,e,rfl,?_,dz KA k11 (by simp;omega) (by simp;omega),he,LO⟩;rw[if_neg h0e,if_neg h0e];exact .pure rfl
 ·have hw:=bP C2A 0 [v,v'] (by simp) (by simp[wc.2,v's]);simp at hw;have k11:Kp [r2] [r2] s10 (s10.ax r2 [v,v'] r2):=.ax (by simp) (by simp);obtain⟨sB,hsB⟩:∃ x,s10.ax r2 [v,v'] r2=x:=⟨_,rfl⟩;have cB:(s10.ax r2 [v,v'] r2).ce r2=some ([v,v'],r2,[r2]):=cj _ _ _;rw[hsB]at hw k11 cB;have key:∃ t',ao (dN 8) ⟨prog,Tw c (N+2),false,Tryz.f7.ntmps,N+2⟩ t7 s10=.rt t' sB/\ab t' 2=.p r2 0/\ab t' 3=.i .i64 0:=by
   simp[dN,aj,Tryz.f7,m2,m7,eP,r7A,ck,h0e,aI lI eP,hw]
  obtain⟨t',z1,z2,z3⟩:=key;rw[z1,NF z2 z3 cB];refine⟨_,_,a,e,rfl,?_,dz KA k11 (by simp;omega) (by simp;omega),he,LO⟩;rw[if_pos h0e,if_pos h0e];have n11:=k11.next;have r2Z:r2∈X:=by rw[<-hX,<-hY];exact Q0 _ (Q0 _ (Q0 _ (Q9 _ (Q1 _ ((mZ r2).2 ⟨by omega,by omega⟩)))))
  have OMB:=OM10.map (b:=sB) (Y:=X) fun hb=>hb.keep k11 (fun x hx=>by rw[Q4.1 hx];exact r2Z) (fun x hx=>by rw[Q4.1 hx];exact r2Z)
  have hge:∀ y,y∉X->st.next<=y:=fun y hy=>by
   rcases Nat.lt_or_ge y s6.next with h|h
   ·exfalso;apply hy;rw[<-hX,<-hY];refine Q0 _ (Q0 _ ?_);by_cases y0:y=0
    ·rw[y0];exact Q7 ..
    refine Q0 _ ?_;by_cases yl:y=lr\/y=mn\/y=mu
    ·refine Q1 _ ?_;rw[hWW];simp only[Q2];rcases yl with h|h|h
     ·exact .inl h
     ·exact .inr (.inl h)
     ·exact .inr (.inr (.inl h))
    ·exact Q9 _ (Q1 _ ((mZ y).2 ⟨h,y0,fun hh=>yl (.inl hh),fun hh=>yl (.inr (.inl hh)),fun hh=>yl (.inr (.inr hh))⟩))
   ·omega
  have ceB:=k11.ce ce10 (by omega) (by omega) (by simp;omega) (by simp;omega);have CWB:=CW10.keep k11 (by simp;omega) (by simp;omega);rw[aS,hv8];exact .tu (.cons (.ag (.cons (CWB.fz (by omega)) (.cons (.slice ceB (by omega) (by omega) (OMB.fz hge MT) (by omega)) .nil))) (.cons (.pure rfl) .nil))
mutual
def Bu:Ex->Prop
 |.mk _ _ _ _ b a l=>(b.nf/\a.nf/\l.nf)/\oG b/\oG a/\oG l
def oG:ae->Prop
 |.nil _=>True
 |.cons _ x l=>Bu x/\oG l
end
theorem aa3{late:ae}{out:Ex}(h1:Bu out)(h2:oG late):Bu (kN late out):=by
 cases late with
 |nil f=>exact h1
 |cons p x l=>exact⟨⟨trivial,trivial,rfl⟩,h2,⟨h1,trivial⟩,trivial⟩
mutual
theorem Fm:∀ (x:Ex) (S:bL) (n:Nat),Bu (bB T x S n).1
 |.mk k nm num ps b a l,S,n=>by
  unfold bB;by_cases h1:k=1
  ·rw[if_pos h1];exact⟨⟨rfl,rfl,rfl⟩,trivial,trivial,trivial⟩
  ·rw[if_neg h1];simp only;generalize aU T S (ba ps) n=w1;generalize aU T w1.1 b.names w1.2.2=w2;have HB:=IK b w2.1 w2.2.1 w2.2.2;generalize c8 T b w2.1 w2.2.1 w2.2.2=rb at *;have HA:=Gz a w2.1 (fP strF k nm a.len) 0 rb.2;generalize cg T a w2.1 (fP strF k nm a.len) 0 rb.2=ra at *;have HL:=Ow l w2.1 ra.2.2;exact aa3 ⟨⟨HB.1,HA.1,HL.1⟩,HB.2,HA.2.1,HL.2⟩ HA.2.2
theorem IK:∀ (l:ae) (S:bL) (ns:List ah) (n:Nat),(c8 T l S ns n).1.nf/\oG (c8 T l S ns n).1
 |.nil _,_,_,_=>by simp only[c8];exact⟨rfl,trivial⟩
 |.cons p x l,S,ns,n=>by simp only[c8];exact⟨trivial,Fm x S n,(IK l S ns.tail (bB T x S n).2).2⟩
theorem Gz:∀ (l:ae) (S:bL) (k:Int) (i n:Nat),(cg T l S k i n).1.nf/\oG (cg T l S k i n).1/\oG (cg T l S k i n).2.1
 |.nil _,_,_,_,_=>by simp only[cg];exact⟨rfl,trivial,trivial⟩
 |.cons p x l,S,k,i,n=>by
  by_cases h:k<=(i:Int)/\(bB T x S n).1.atom=false
  ·have g:=Gz l S k (i+1) (bD T (bB T x S n).2);simp only[cg,if_pos h];exact⟨trivial,⟨⟨⟨rfl,rfl,rfl⟩,trivial,trivial,trivial⟩,g.2.1⟩,Fm x S n,g.2.2⟩
  ·have g:=Gz l S k (i+1) (bB T x S n).2;simp only[cg,if_neg h];exact⟨trivial,⟨Fm x S n,g.2.1⟩,g.2.2⟩
theorem Ow:∀ (l:ae) (S:bL) (n:Nat),(dP T l S n).1.nf/\oG (dP T l S n).1
 |.nil _,_,_=>by simp only[dP];exact⟨rfl,trivial⟩
 |.cons p x l,S,n=>by simp only[dP];exact⟨trivial,Fm x _ _,(Ow l S _).2⟩
end
theorem abT{k:Int}{nm:ah}{num:Int}{ps:List ah}(h:dG C sc k nm num ps b a l=true):(k=6->2<=a.len/\a.len<=33)/\(k=5->1<=ps.length):=by grind[dG]
mutual
theorem Ov{C:ah->Option AV}(hC:∀ s v,C s=some v->od v<=32):∀ (x:Ex) (sc:List (List ah)),gK C x sc=true->Bu x->Gd x
 |.mk k nm num ps b a l,sc,h,hn=>by
  simp only[gK,J8]at h;obtain⟨hh,oa,ob,ol⟩:=h;have F:=Ch hh;have G:=abT hh;have hv:∀ q∈l.list,(cD q).vs.length<=32:=by
   by_cases k8:k=8
   ·grind[mN,dG,Ia,ae.bN]
   ·obtain⟨f,hf⟩:=lK (F.l8 k8);subst hf;intro q hq;cases hq
  refine⟨F,G.1,G.2,hn.1,fun q hq=>?_,CZ hC b _ ob hn.2.1,CZ hC a _ oa hn.2.2.1,MK hC l sc ol hn.2.2.2⟩;obtain⟨p,hp,rfl⟩:=Q6.1 hq;exact hv p hp
theorem CZ{C:ah->Option AV}(hC:∀ s v,C s=some v->od v<=32):∀ (l:ae) (sc:List (List ah)),eI C l sc=true->oG l->tT l
 |.nil _,_,_,_=>trivial
 |.cons p x l,sc,h,hn=>by simp only[eI,J8]at h;exact⟨Ov hC x sc h.1 hn.1,CZ hC l sc h.2 hn.2⟩
theorem MK{C:ah->Option AV}(hC:∀ s v,C s=some v->od v<=32):∀ (l:ae) (sc:List (List ah)),jh C l sc=true->oG l->tT l
 |.nil _,_,_,_=>trivial
 |.cons p x l,sc,h,hn=>by simp only[jh,J8]at h;exact⟨Ov hC x _ h.1 hn.1,MK hC l sc h.2 hn.2⟩
end
theorem JC{F:List Nat->Int}:∀ {l:ae},fV F l=true↔∀ p∈l.list,dZ F p.2=true
 |.nil _=>by simp[fV,ae.list]
 |.cons p x l=>by simp[fV,ae.list,JC]
theorem Vq(hC:∀ s v,C s=some v->od v<=32)(h:eI C l sc=true)(hn:oG l)(hT:l.Ty 1)(hk:fV strF l=true):∀ p∈l.list,Wl p.2:=fun p hp =>
 ⟨(ae.cU hT p hp).2,JC.1 hk p hp,xD.1 (CZ hC l sc h hn) p hp⟩
theorem Ni:∀ {ds:List cK},(∀ d∈ds,d.ar<=32)->∀ s v,mL ds s=some v->od v<=32
 |[],_,s,v,h=>by cases h
 |d::ds,hd,s,v,h=>by
  unfold mL upd at h;split at h
  ·cases h;exact hd d Q7
  ·exact Ni (fun e he=>hd e (Q0 _ he)) s v h
theorem PM(hv:iq cv ds)(hl:ds.length<=1000000)(hN:10000000000000000010<=N)(h:uO N cv ds b):∀ s v,mL ds s=some v->od v<=32:=by obtain⟨fb,h1,h2⟩:=Mp hv hl hN;have h3:=h1 aK;rw[h.1]at h3;cases h3;exact Ni (h2 rfl)
structure Made(N:Nat)(cv:AV)(ds:List cK)(b:ae):Prop where
 wt:b.len+b.wt<=66*b.size
 bG:bG b.names 0<=b.len
 ok:uO N cv ds (gB b)
 names:(gB b).names=b.names
 dZ:fV strF (gB b)=true
 once:(b.names++(gB b).bC).Nodup
 nf:oG (gB b)
theorem made(hv:iq cv ds)(hl:ds.length<=1000000)(hN:10000000000000000010<=N)(h:uO N cv ds b)(hs:b.size<=14000):Made N cv ds b:=by
 have hC:=PM hv hl hN h;obtain⟨h1,h2,h3,h4,h5⟩:=h;have hw:=BQ _ hC b _ h4;have hpot:Go.Proofs.YtjpheibfljmbjaaGreatDoor.bG b.names 0<=b.len:=by grind[tY,eW,Go.Proofs.YtjpheibfljmbjaaGreatDoor.bG]
 have hn:(gB b).names=b.names:=by grind[gB,Ep,eW]
 have hk:eI (mL ds) (gB b) [b.names]=true:=by exact FP b.names _ b kZ b.names 0 [b.names] [b.names] h4 (fun s hs=>hs) (fun s y hs=>by cases hs) (by omega)
 obtain⟨-,hI⟩:=Dn b.names b kZ b.names 0;have hI':eX b.names 0 (c8 b.names b kZ b.names 0).2 (gB b).bC:=hI;refine⟨hw,hpot,⟨h1,by grind,by grind,by grind,by grind⟩,hn,Ie b.names (mL ds) b kZ b.names 0 _ h4,?_,(IK b kZ b.names 0).2⟩;rw[Z6];refine⟨?_,hI'.1,fun x hx y hy=>?_⟩
 ·grind[eS]
 ·obtain⟨m,-,-,-,h6⟩:=hI'.2 _ hy;grind
theorem TS(b:ae):(gB b).size<=4*b.size:=GK b.names b kZ b.names 0
theorem aaG(h:b.Ty 1):(gB b).Ty 1:=AC b.names b kZ b.names 0 h
def Sg(o:Option (AV× St))(st:St)(b:ae):Prop:=∃ (m:Nat) (s':St),o=some (.i .i64 (m:Int),s')/\Kp [] [] st s'/\(m<=2000->m=b.size)
def QZ(v:AV)(b:ae)(i:Nat):Prop:=∃ m:Nat,v=.i .i64 (m:Int)/\m<=2001/\(m<=2000->m=eu b.list i)
theorem Uj(_:cv.cells=some [cv]/\bS cv=true/\bg cv=true)(hb:b.Ty 1)(hN:b.size+10<=N):
  Sg ((Tw c N).call 18 [.ag [cv,b.slice 8],.i .i64 2000] st) st b:=by
 obtain⟨N,rfl⟩:∃ N',N=N'+1:=⟨N-1,by omega⟩;rw[dt rfl func18 rfl (J1 rfl)];unfold aV;have hce:=cz (st:=st) [cv,b.slice 8];have hp:st.next<(st.aw [cv,b.slice 8]).next:=Z8 _;have k0:Kp [] [] st (st.aw [cv,b.slice 8]):=.aw _ _ _;obtain⟨s0,hs0⟩:∃ s0,st.aw [cv,b.slice 8]=s0:=⟨_,rfl⟩;rw[hs0]at k0 hp hce;have at1:∀ {s:St},Kp [] [] s0 s->rd s st.next 1 1=some [b.slice 8]:=fun kk=>by rw[au (kk.ce hce hp hp (by simp) (by simp))];rfl
 have vl:=fun st:St=>aY (st:=st) underlying23 (b.bK 8) (b.bJ 8)
 have hbl:=b.bZ;simp[f18,hs0,bw];generalize hL:bf _ _ _ _=Lo;obtain⟨t1,s1,rfl,kK,m,q5,q1,q2⟩:=zr hL 0 b.list.length
  (fun i t s=>ab t 1=.i .i64 2000/\ab t 2=.p st.next 0/\ab t 6=.i .i64 (i:Int)/\Kp [] [] s0 s/\QZ (ab t 5) b i)
  (fun t s=>Kp [] [] s0 s/\QZ (ab t 5) b b.list.length)
  (by rw[<-ae.aC];omega)
  ⟨by simp,by simp,by simp,.refl _ _ _,0,by simp,by omega,fun _=>by rw[mB]⟩
  (by
   rintro i t s hi ⟨i1,i2,i6,iK,m,i5,iM,iC⟩;clear hL;have hx:=at1 iK;have hil:i<b.len:=by rw[ae.aC];grind
   have e5:(i:Int)<(b.len:Int):=by omega
   by_cases hm':m<=2000
   ·left;have e6:(m:Int)<=2000:=by omega
    have e7:wr .i64 ((i:Int)+1)=((i+1:Nat):Int):=by have:=qy b.list i (by omega);have:=iC hm';rw[aZ (by omega) (by omega)];rfl
    obtain⟨r,r1,r2⟩:=eR hb.pre (show eD 1+7=8 from rfl) hi;have ix:=dV underlying23 dn cV b.flat b.len i hil;rw[<-ae.cZ hil,r1]at ix;have hmem:=J9 hi;have hsz':=ae.dU hmem;obtain⟨m',s',g1,g2,g3,g4,g5⟩:=Wz _ (ae.cU hb _ hmem).2.wf m 2000 s N (by omega) (by omega) (by omega);have g1':(Tw c N).call 42 [.ag b.list[i].2.cells,.i .i64 (m:Int),.i .i64 2000] s=some (.i .i64 (m':Int),s'):=g1;have r2':b.list[i].1.length=1:=r2;have hd:(b.list[i].1++(b.list[i].2.cells++r)).drop 1=b.list[i].2.cells++r:=by rw[List.drop_append,r2'];simp[r2',Z9]
    simp[i1,i2,i5,i6,hx,vl,e5,e6,ix,hd,aH,oS,g1',e7];refine⟨_,_,⟨rfl,rfl⟩,by simp[i1],by simp[i2],by simp,iK.trans g2,m',by simp,by omega,fun h=>?_⟩;rw[fY hi,g5 h,iC hm']
   ·right;have e6:¬ (m:Int)<=2000:=by omega
    simp[i1,i2,i5,i6,hx,vl,e5,e6];exact⟨_,_,⟨rfl,rfl⟩,iK,m,by simp[i5],iM,fun h=>absurd h hm'⟩)
  (by rintro t s ⟨i1,i2,i6,iK,m,i5,iM,iC⟩;clear hL;have hx:=at1 iK;simp[i2,i6,hx,vl,ae.aC];exact⟨_,_,⟨rfl,rfl⟩,iK,m,by simp[i5],iM,iC⟩)
 clear hL;refine⟨m,s1,?_,k0.trans kK,fun h=>?_⟩
 ·simp[q5,aG,aF]
 ·rw[q2 h,mP]
def C7(N:Nat):Option Self:=some (Tw none (N+1))
theorem SN(N:Nat):∀ S,C7 N=some S->cq prog S:=fun S h=>by cases h;exact Ku (fun S h=>by grind) _
theorem DC(hv:iq cv ds)(hl:ds.length<=1000000)(hb:b.Ty 1)(hs:b.size<=1000000)(hN:2*b.size+10000000000000000100<=N):
  ∃ e:Int,oz (C7 N) cv b e/\(nN b=false->e=3)/\(nN b=true->(e=0↔uO N cv ds b)):=by
 obtain⟨e,h1,h2,h3⟩:=RI hv hl hb hs hN;refine⟨e,fun st x M hM hx=>?_,h2,h3⟩;obtain⟨M,rfl⟩:∃ M',M=M'+1:=⟨M-1,by omega⟩;have hp:aQ [AV.ag [cv,b.slice 8]]=true:=by simp[aQ,bg,hv.pure,ae.mg hb 8]
 have h4:(Tw none (N+1)).call 9 [.ag [cv,b.slice 8]] aK=some (.i .i64 e,aK):=
  jc (X:=[]) rfl rfl (.inl rfl) (.pure hp) func9 rfl (J1 rfl) rfl h1
 exact Ja rfl (.cons hx .nil) h4 rfl
theorem Gq{α:Type}{R:α->α->Prop}(hR:∀ a b,R a b->R b a->a=b):∀ (l2 l1:List α),l1.Pairwise R->l2.Pairwise R->l1.Nodup->l2.Nodup->(∀ x∈l1,x∈l2)->l1.Sublist l2
 |[],l1,_,_,_,_,h=>by
  cases l1 with
  |nil=>grind
  |cons a l=>grind[Q7]
 |b::l2,[],_,_,_,_,_=>List.nil_sublist _
 |b::l2,a::l1,s1,s2,n1,n2,h=>by
  rw[V0]at s1 s2;rw[V1]at n1 n2;rcases Q2.1 (h a (Q7 ..)) with rfl|ha
  ·refine(Gq hR l2 l1 s1.2 s2.2 n1.2 n2.2 fun x hx=>?_).cons_cons a;rcases Q2.1 (h x (Q0 _ hx)) with rfl|h'
   ·exact absurd hx n1.1
   ·exact h'
  ·refine(Gq hR l2 (a::l1) (V0.2 s1) s2.2 (V1.2 n1) n2.2 fun x hx=>?_).cons b;rcases Q2.1 hx with rfl|hx
   ·exact ha
   ·rcases Q2.1 (h x (Q0 _ hx)) with rfl|h'
    ·have:=hR _ _ (s1.1 _ hx) (s2.1 _ ha);subst this;exact absurd ha n2.1
    ·exact h'
theorem Qy(a b:Nat)(x y:List Nat):fX (a::x) (b::y)=false↔¬ a<b/\(a=b->fX x y=false):=by
 show @Bool.rec (fun _=>Bool) (@Bool.rec (fun _=>Bool) false (fX x y) (J4 a b)) true (Nat.blt a b)=false↔_
 have h1:Nat.blt a b=decide (a<b):=by grind[Nat.blt_eq]
 rw[h1,bu];by_cases h:a<b
 ·simp[h]
 ·by_cases h2:a=b
  ·simp_all
  ·simp[h,h2]
theorem Ou:∀ {x y z:List Nat},fX y x=false->fX z y=false->fX z x=false
 |[],[],z,_,h=>h
 |[],y::ys,[],_,h=>by simp[fX]at h
 |[],y::ys,z::zs,_,h=>by simp[fX]
 |x::xs,[],z,h,_=>by simp[fX]at h
 |x::xs,y::ys,[],h,g=>by simp[fX]at g
 |x::xs,y::ys,z::zs,h,g=>by rw[Qy]at h g|-;refine⟨by omega,fun e=>?_⟩;exact Ou (h.2 (by omega)) (g.2 (by omega))
theorem KY:∀ {x y:List Nat},fX y x=false->fX x y=false->x=y
 |[],[],_,_=>rfl
 |[],y::ys,_,h=>by simp[fX]at h
 |x::xs,[],h,_=>by simp[fX]at h
 |x::xs,y::ys,h,g=>by
  rw[Qy]at h g;have:x=y:=by omega
  subst this;rw[KY (h.2 rfl) (g.2 rfl)]
theorem Qo{l:List ah}(h:vr l 0):l.Pairwise fun x y=>fX y x=false:=by
 rw[List.pairwise_iff_getElem];intro i j hi hj hij;obtain⟨k,rfl⟩:∃ k,j=i+1+k:=⟨j-(i+1),by omega⟩;induction k with
 |zero=>exact h i (by omega) (by omega)
 |succ k ih =>have h1:=ih (by omega) (by omega);have h2:=h (i+1+k) (by omega) (by omega);exact Ou h1 h2
theorem ZP(x:Ex)(s:ah):(jZ x).bM.count s<=x.bM.count s:=by grind[jZ,pT,Ex.bM,ae.gY,ae.bC,ae.iX,ba]
theorem FSz(s:ah):∀ d:List (List AV× Ex),cL s (iu d)<=cL s d
 |[]=>by simp[iu,cL]
 |p::d=>by have h1:=FSz s d;have h2:=ZP p.2 s;simp only[iu,cL,Q3,J5]at h1|-;omega
theorem abZ{p q:List AV× Ex}(h:p.1=q.1):gn p=gn q:=by unfold gn;rw[h]
theorem Np:∀ {L M:List (List AV× Ex)},L.map (·.1)=M.map (·.1)->L.map gn=M.map gn
 |[],[],_=>rfl
 |[],_::_,h=>by grind
 |_::_,[],h=>by grind
 |p::L,q::M,h=>by rw[Q3,Q3,List.cons.injEq]at h;rw[Q3,Q3,abZ h.1,Np h.2]
theorem jU.names(h:jU q a):∃ gs,a.names.Perm (q.names++gs)/\∀ x∈gs,∃ m,x=dI m/\x∉q.names++q.bC:=by
 obtain⟨d,outs,n,M,h1,h2,rfl⟩:=h;refine⟨outs.map gn,?_,fun x hx=>?_⟩
 ·have e:(iu d).map gn=q.names:=by
   have e1:(iu d).map (·.1)=q.list.map (·.1):=by rw[<-h1.sk.pre];simp_all[iu]
   exact Np e1
  grind[ae.names,fC]
 ·obtain⟨p,hp,rfl⟩:=Q6.1 hx;obtain⟨⟨m,hm,hm2⟩,-⟩:=h1.nw p hp;have:gn p=dI m:=by unfold gn;rw[hm];rfl
  grind
theorem jU.len(h:jU q a):q.len<=a.len:=by obtain⟨gs,h1,-⟩:=h.names;have:=h1.length_eq;grind[eW]
theorem jU.dZ(h:jU q a)(hok:eI C a sc=true):fV strF a=true:=by
 obtain⟨d,outs,n,M,h1,h2,rfl⟩:=h;rw[JC,fC];intro p hp0;rcases Z5.1 (h2.mem_iff.1 hp0) with hp|hp
 ·obtain⟨p',hp',rfl⟩:=Q6.1 hp;have:=(h1.sk.wl p' hp').2.1;grind[jZ,List.getElem_of_mem,IR,fC,pT,gK,dG]
 ·exact(h1.nw p hp).2.2.1
theorem jU.once(h:jU q a)(hd:(q.names++q.bC).Nodup)(ha:a.names.Nodup):(a.names++a.bC).Nodup:=by
 obtain⟨gs,g1,g2⟩:=h.names;obtain⟨d,outs,n,M,h1,h2,rfl⟩:=h;rw[V2]at hd ha|-;intro s;have k1:=hd s;have k3:=h1.cnt s;have k4:=FSz s d;have e:(aX M).bC.count s=cL s (iu d)+cL s outs:=by rw[wD,fC,<-zh];exact(h2.map fun p=>p.2.bM.count s).sum_nat
 rw[<-wD]at k3;rw[V3]at k1|-;by_cases hs:s∈q.names++q.bC
 ·grind[lF]
 ·have z0:q.bC.count s=0:=List.count_eq_zero.2 fun h=>hs (Q1 _ h)
  by_cases hz:1<=(aX M).names.count s
  ·grind[lF,OU]
  ·have f1:lF (q.names++q.bC) 0 n s<=1:=by
    unfold lF;split<;>omega
   omega
theorem Qr{l:List ah}(h:eS l=true):l.Nodup:=by grind[eS]
theorem Jp:∀ (L M:List ah),(∀ s,L.count s<=M.count s)->L.length<=M.length
 |[],M,_=>Nat.zero_le _
 |a::L,M,h=>by
  have ha:a∈M:=Z3.1 (by grind);have:=Jp L (M.erase a) fun s=>by grind
  grind
theorem WY{k:Nat}{L:List ah}(h:eX T 0 k L):L.length<=k:=by
 have:=Jp L ((J3 k).map fun j=>dE (j+1)) fun s=>by
  have h1:=(V2.1 h.1) s;by_cases hs:s∈L
  ·obtain⟨m,m1,m2,m3,-⟩:=h.2 s hs;have:0<((J3 k).map fun j=>dE (j+1)).count s:=Z3.2 (Q6.2 ⟨m-1,J6.2 (by omega),by grind⟩);omega
  grind
 grind
theorem jU.zZ(h:jU q a):a.bC.length<=q.bC.length+((q.names++q.bC).length+32*nL q.list):=by
 obtain⟨d,outs,n,M,h1,h2,rfl⟩:=h;have hn:n<=(q.names++q.bC).length+32*nL q.list:=by have:=h1.bG;grind[tY,GX,bG]
 have:=Jp (aX M).bC (q.bC++(J3 n).map fun j=>bX (j+1)) fun s=>by
  have k3:=h1.cnt s;have k4:=FSz s d;have e:(aX M).bC.count s=cL s (iu d)+cL s outs:=by rw[wD,fC,<-zh];exact(h2.map fun p=>p.2.bM.count s).sum_nat
  rw[<-wD]at k3;rw[V3];have:lF (q.names++q.bC) 0 n s<=((J3 n).map fun j=>bX (j+1)).count s:=by
   unfold lF;split
   ·rename_i hh;obtain⟨-,j,j1,j2,j3⟩:=hh;exact Z3.2 (Q6.2 ⟨j-1,J6.2 (by omega),by grind⟩)
   grind
  omega
 grind
theorem TR(l:ae):nL l.list<=l.size:=by
 rw[ae.size_eq];unfold nL;generalize l.list=L;induction L with
 |nil=>simp
 |cons p L ih =>grind[WW]
theorem Ya(l:ae):wL l.list<=34*l.size:=by
 rw[ae.size_eq];unfold wL;generalize l.list=L;induction L with
 |nil=>simp
 |cons p L ih =>grind[RN]
def aaU(o:Option (AV× St))(st:St)(ds:List cK)(b:ae):Prop:=∃ (r:Bool) (s':St),o=some (.b r,s')/\Kp [] [] st s'/\(r=true->b.size<=2000/\ds.length<=2000)
theorem abn(hv:iq cv ds)(hb:b.Ty 1)(hN:b.size+10<=N):aaU ((Tw c (N+1)).call 5 [.ag [cv,b.slice 8]] st) st ds b:=by
 have hcs:cv.cells=some [cv]/\bS cv=true/\bg cv=true:=⟨by rcases hv.1 with ⟨rfl,-⟩|rfl<;>simp,by rcases hv.1 with ⟨rfl,-⟩|rfl<;>rfl,hv.pure⟩;rw[dt rfl func5 rfl (J1 rfl)];unfold aV;have c1:=cz (st:=st) [cv,b.slice 8];have k1:Kp [] [] st (st.aw [cv,b.slice 8]):=.aw _ _ _;have n1:(st.aw [cv,b.slice 8]).next=st.next+1:=rfl;obtain⟨s1,hs1⟩:∃ s1,st.aw [cv,b.slice 8]=s1:=⟨_,rfl⟩;obtain⟨r1,hr1⟩:∃ r,st.next=r:=⟨_,rfl⟩;rw[hs1]at k1 c1 n1;rw[hr1]at c1 n1;obtain⟨m,s2,x1,x2,x3⟩:=Uj (c:=c) hcs hb hN;have c2:=x2.ce c1 (by omega) (by omega) (by simp) (by simp);have ra:rd s1 r1 0 2=some [cv,b.slice 8]:=by rw[au c1];rfl
 have r0:rd s2 r1 0 1=some [cv]:=by rw[au c2];rfl
 have r1':rd s2 r1 1 1=some [b.slice 8]:=by rw[au c2];rfl
 have ln:=fun st:St=>zB (st:=st) hv
 have lb:=fun st:St=>aY (st:=st) underlying23 (b.bK 8) (b.bJ 8)
 by_cases hm:m<=2000
 ·have e1:(m:Int)<=2000:=by omega
  by_cases hd:ds.length<=2000
  ·have e2:(ds.length:Int)<=2000:=by omega
   refine⟨decide ((b.len:Int)<=2000),s2,?_,k1.trans x2,fun _=>⟨by grind,hd⟩⟩;simp[f5,hs1,hr1,eP,ra,x1,e1,r0,r1',ln,lb,e2,aG,aF]
  ·have e2:¬ (ds.length:Int)<=2000:=by omega
   refine⟨false,s2,?_,k1.trans x2,fun h=>by grind⟩;simp[f5,hs1,hr1,eP,ra,x1,e1,r0,ln,e2,aG,aF]
 ·have e1:¬ (m:Int)<=2000:=by omega
  refine⟨false,s2,?_,k1.trans x2,fun h=>by grind⟩;simp[f5,hs1,hr1,eP,ra,x1,e1,aG,aF]
theorem XR{g f:FuncId}{xs:List AV}(h:J4 f g=false):(fH g S).call f xs st=S.call f xs st:=by
 show @Bool.rec (fun _=>aR) (S.call f xs st) _ (J4 f g)=_
 rw[h]
theorem VB(g:FuncId):(fH g S).call g [] st=some (.b true,st):=by
 show @Bool.rec (fun _=>aR) _ (some (.b true,st)) (J4 g g)=_
 rw[Nat.beq_refl]
noncomputable def dR:Nat->Code
 |0=>f3.body.getD .skip
 |k+1=>aj (dR k)
structure Ci(s:St)(r:Nat)(x y:AV):Prop where
 all:rd s r 0 2=some [x,y]
 c0:rd s r 0 1=some [x]
 c1:rd s r 1 1=some [y]
theorem zJ{r g:Nat}(h:s.ce r=some ([x,y],g,al)):Ci s r x y :=
 ⟨by rw[au h];rfl,by rw[au h];rfl,by rw[au h];rfl⟩
def uH(o:Out):Prop:=∃ t s,o=.rt t s/\ab t 2=.b true
theorem abu{y x:α}{ys rest:List α}(h:(y::ys).Sublist (x::rest)):(x=y->ys.Sublist rest)/\(x≠y->(y::ys).Sublist rest):=by
 refine⟨fun e=>?_,fun e=>?_⟩
 ·subst e;exact List.cons_sublist_cons.1 h
 ·cases h with
  |cons _ h=>exact h
  |cons_cons _ h=>exact absurd rfl e
theorem XK{t:Tr AV}{r3 r5:Nat}(hq:q.Ty 1)(ha:a.Ty 1)(hl:q.len<=1000000)(hal:a.len<=1000000)(hs:q.names.Sublist a.names)(h3:ab t 3=.p r3 0)(h5:ab t 5=.p r5 0)(h6:ab t 6=.i .i64 0)(c3:Ci s r3 cv (q.slice 8))(c5:Ci s r5 cv (a.slice 8))(hN:2000000<=N):
  ∃ t',ao (aq (dR 8)) ⟨prog,fH 4 (Tw (C7 N7) N),false,f3.ntmps,N⟩ t s=.nx t' s/\ab t' 3=.p r3 0/\ab t' 5=.p r5 0/\ab t' 6=.i .i64 (q.len:Int):=by
 have lq:=fun st:St=>aY (st:=st) underlying23 (q.bK 8) (q.bJ 8)
 have la:=fun st:St=>aY (st:=st) underlying23 (a.bK 8) (a.bJ 8)
 simp[dR,aq,aj,f3,bw];generalize hL:bf _ _ _ _=L;obtain⟨t1,s1,rfl,rfl,z3,z5,z6⟩:=zr hL 0 a.list.length
  (fun i t' s'=>s'=s/\ab t' 3=.p r3 0/\ab t' 5=.p r5 0/\ab t' 7=.i .i64 (i:Int)/\∃ n:Nat,ab t' 6=.i .i64 (n:Int)/\n<=q.len/\(q.names.drop n).Sublist (a.names.drop i))
  (fun t' s'=>s'=s/\ab t' 3=.p r3 0/\ab t' 5=.p r5 0/\ab t' 6=.i .i64 (q.len:Int)) (by rw[<-ae.aC];omega)
  ⟨rfl,by simp[h3],by simp[h5],by simp,0,by simp[h6],by omega,by simpa using hs⟩
  (by
   rintro i t' s' hi ⟨rfl,i3,i5,i7,n,i6,iN,iS⟩;clear hL;have hil:i<a.len:=by rw[ae.aC];exact hi
   have e3:(i:Int)<(a.len:Int):=by omega
   have e4:wr .i64 ((i:Int)+1)=((i+1:Nat):Int):=by rw[aZ (by omega) (by omega)];rfl
   by_cases hn:n<q.len
   ·left;have e5:(n:Int)<(q.len:Int):=by omega
    have e6:wr .i64 ((n:Int)+1)=((n+1:Nat):Int):=by rw[aZ (by omega) (by omega)];rfl
    have hnl:n<q.list.length:=by rw[<-ae.aC];exact hn
    obtain⟨x1,x2,x3⟩:=eR ha.pre (show eD 1+7=8 from rfl) hi;have ix:=dV underlying23 dn cV a.flat a.len i hil;rw[<-ae.cZ hil,x2]at ix;obtain⟨y1,y2,y3⟩:=eR hq.pre (show eD 1+7=8 from rfl) hnl;have iy:=dV underlying23 dn cV q.flat q.len n hn;rw[<-ae.cZ hn,y2]at iy;have hp:=ir (ae.cU ha _ (J9 hi)).1;have hp':=ir (ae.cU hq _ (J9 hnl)).1;have hin:i<a.names.length:=by rw[eW];exact hil
    have hin':n<q.names.length:=by rw[eW];exact hn
    have e1:fD (a.list[i].1.headD .un)=a.names[i]:=by simp[ae.names,gn]
    have e2:fD (q.list[n].1.headD .un)=q.names[n]:=by simp[ae.names,gn]
    rw[e1]at hp;rw[e2]at hp';rw[hp]at ix;rw[hp']at iy;rw[Z4 hin',Z4 hin]at iS;obtain⟨k1,k2⟩:=abu iS;by_cases he:a.names[i]=q.names[n]
    ·simp[i3,i5,i6,i7,e3,e5,c3.c1,c5.c1,lq,la,br];rw[dj (by kernel_rfl)];simp[i3,i5,i6,i7,e4,e6,c3.c1,c5.c1,ix,iy,cM,he];exact⟨_,_,⟨rfl,rfl⟩,rfl,by simp[i3],by simp[i5],by simp,n+1,by simp,by omega,k1 he⟩
    ·simp[i3,i5,i6,i7,e3,e5,c3.c1,c5.c1,lq,la,br];rw[dj (by kernel_rfl)];simp[i3,i5,i6,i7,e4,c3.c1,c5.c1,ix,iy,cM,he];exact⟨_,_,⟨rfl,rfl⟩,rfl,by simp[i3],by simp[i5],by simp,n,by simp[i6],by omega,by rw[Z4 hin'];exact k2 he⟩
   ·right;have e5:¬ (n:Int)<(q.len:Int):=by omega
    have e6:n=q.len:=by omega
    simp[i3,i5,i6,i7,e3,e5,c3.c1,c5.c1,lq,la];exact⟨_,_,⟨rfl,rfl⟩,rfl,by simp[i3],by simp[i5],by simp[i6,e6]⟩)
  (by
   rintro t' s' ⟨rfl,i3,i5,i7,n,i6,iN,iS⟩;clear hL;have hd:a.names.drop a.list.length=[]:=Z9 (by rw[eW,ae.aC];exact Q8 _);rw[hd]at iS;have e6:n=q.len:=by have:=List.length_eq_zero_iff.2 (List.sublist_nil.1 iS);rw[List.length_drop,eW]at this;omega
   simp[i5,i7,c5.c1,la,ae.aC a];exact⟨_,_,⟨rfl,rfl⟩,rfl,by simp[i3],by simp[i5],by simp[i6,e6]⟩)
 clear hL;exact⟨t1,by simp,z3,z5,z6⟩
theorem XZ{e':Int}(hcs:bg cv=true)(hl:l.Ty 1)(h:oz c cv l e)(h':oz c cv l e'):e=e':=by have hp:gF [] aK (.ag [cv,l.slice 8]) (.ag [cv,l.slice 8]):=.pure (by simp[bg,aQ,hcs,ae.mg hl 8]);have h1:=h aK _ 1 (Q8 _) hp;rw[h' aK _ 1 (Q8 _) hp]at h1;simp at h1;exact h1.symm
theorem Vt(hv:iq cv ds)(hb:b.Ty 1)(hN7:10000000000010000000<=N7)(hN:b.size+40000000000000000000<=N)(hT:mI st)(h0:0<st.next):
  uH (ao (dR 0) ⟨prog,fH 4 (Tw (C7 N7) N),false,f3.ntmps,N⟩ (tmpsOf [.ag [cv,b.slice 8]] 0 .lf) st):=by
 have hcs:cv.cells=some [cv]/\bS cv=true/\bg cv=true:=⟨by rcases hv.1 with ⟨rfl,-⟩|rfl<;>simp,by rcases hv.1 with ⟨rfl,-⟩|rfl<;>rfl,hv.pure⟩;have st_:∀ (i:Nat) (t:Tr AV) (s:St) (t':Tr AV) (s':St),ao (dR i) ⟨prog,fH 4 (Tw (C7 N7) N),false,f3.ntmps,N⟩ t s=bT (ao (aq (dR i)) ⟨prog,fH 4 (Tw (C7 N7) N),false,f3.ntmps,N⟩ t s) (ao (dR (i+1)) ⟨prog,fH 4 (Tw (C7 N7) N),false,f3.ntmps,N⟩)->ao (aq (dR i)) ⟨prog,fH 4 (Tw (C7 N7) N),false,f3.ntmps,N⟩ t s=.nx t' s'->ao (dR i) ⟨prog,fH 4 (Tw (C7 N7) N),false,f3.ntmps,N⟩ t s=ao (dR (i+1)) ⟨prog,fH 4 (Tw (C7 N7) N),false,f3.ntmps,N⟩ t' s':=fun i t s t' s' h1 h2=>by rw[h1,h2,dK]
 have sr_:∀ (i:Nat) (t:Tr AV) (s:St),ao (dR i) ⟨prog,fH 4 (Tw (C7 N7) N),false,f3.ntmps,N⟩ t s=bT (ao (aq (dR i)) ⟨prog,fH 4 (Tw (C7 N7) N),false,f3.ntmps,N⟩ t s) (ao (dR (i+1)) ⟨prog,fH 4 (Tw (C7 N7) N),false,f3.ntmps,N⟩)->uH (ao (aq (dR i)) ⟨prog,fH 4 (Tw (C7 N7) N),false,f3.ntmps,N⟩ t s)->uH (ao (dR i) ⟨prog,fH 4 (Tw (C7 N7) N),false,f3.ntmps,N⟩ t s):=fun i t s h1 ⟨t',s',h2,h3⟩=>by rw[h1,h2];exact⟨t',s',rfl,h3⟩
 have ncl:=fun {f:FuncId} (h:J4 f 4=false) (xs:List AV) (st:St)=>XR (S:=Tw (C7 N7) N) (st:=st) (xs:=xs) h
 have hbl:=b.bZ;have c0:=cz (st:=st) [cv,b.slice 8];have l0:st.next<(st.aw [cv,b.slice 8]).next:=Z8 _;have k0:Kp [] [] st (st.aw [cv,b.slice 8]):=.aw _ _ _;obtain⟨s1,hs1⟩:∃ s,st.aw [cv,b.slice 8]=s:=⟨_,rfl⟩;obtain⟨r1,hr1⟩:∃ r,st.next=r:=⟨_,rfl⟩;rw[hs1]at c0 l0 k0;have tabK:∀ {s:St},Kp [] [] s1 s->mI s:=fun kk=>by obtain⟨ty,ht⟩:=hT;exact⟨ty,by rw[(k0.trans kk).get 0 h0 (by simp)];exact ht⟩
 have two1:∀ {s:St},Kp [] [] s1 s->Ci s r1 cv (b.slice 8):=fun kk=>by rw[<-hr1];exact zJ (kk.ce c0 l0 l0 (by simp) (by simp))
 have a0:∃ t,ao (aq (dR 0)) ⟨prog,fH 4 (Tw (C7 N7) N),false,f3.ntmps,N⟩ (tmpsOf [.ag [cv,b.slice 8]] 0 .lf) st=.nx t s1/\ab t 1=.p r1 0:=by simp[dR,aq,f3,hs1,hr1]
 obtain⟨t0,a0,b1⟩:=a0;rw[st_ 0 _ _ _ _ rfl a0];have lv:=fun st:St=>VB (S:=Tw (C7 N7) N) (st:=st) 4
 have a1:∃ t,ao (aq (dR 1)) ⟨prog,fH 4 (Tw (C7 N7) N),false,f3.ntmps,N⟩ t0 s1=.nx t s1/\ab t 1=.p r1 0:=by simp[dR,aq,aj,f3,lv,b1]
 obtain⟨t1,a1,b1⟩:=a1;rw[st_ 1 _ _ _ _ rfl a1];obtain⟨M0,hM0⟩:∃ M0,N=M0+1:=⟨N-1,by omega⟩;obtain⟨r,s2,x1,x2,x3⟩:=abn (c:=C7 N7) (st:=s1) hv hb (N:=M0) (by omega);rw[<-hM0]at x1;have x1':=(ncl (f:=5) rfl [.ag [cv,b.slice 8]] s1).trans x1;have w1:=two1 (.refl _ _ _);have w2:=two1 x2;by_cases hr:r=true
 case neg =>
  have hr:r=false:=by simpa using hr
  subst hr;refine sr_ 2 _ _ rfl ?_;unfold uH;simp[dR,aq,aj,f3,b1,eP,w1.all,x1']
 subst hr;obtain⟨hsz,hd⟩:=x3 rfl;have a2:∃ t,ao (aq (dR 2)) ⟨prog,fH 4 (Tw (C7 N7) N),false,f3.ntmps,N⟩ t1 s1=.nx t s2/\ab t 1=.p r1 0:=by simp[dR,aq,aj,f3,b1,eP,w1.all,x1']
 obtain⟨t2,a2,b1⟩:=a2;rw[st_ 2 _ _ _ _ rfl a2];obtain⟨q,hq⟩:∃ q,gB b=q:=⟨_,rfl⟩;have tq:q.Ty 1:=by rw[<-hq];exact aaG hb
 have sq0:q.size<=4*b.size:=by rw[<-hq];exact TS b
 obtain⟨g1,C1,C1f,C1t⟩:=DC hv (by omega) hb (by omega) (N:=N7) (by omega);obtain⟨g2,C2,C2f,C2t⟩:=DC hv (by omega) tq (by omega) (N:=N7) (by omega);have okb:g1=0->uO N7 cv ds b:=fun h=>by
  have hf:nN b=true:=by
   cases hf:nN b with
   |true=>rfl
   |false=>have:=C1f hf;omega
  exact(C1t hf).1 h
 have Mb:g1=0->Made N7 cv ds b:=fun h=>made hv (by omega) (by omega) (okb h) (by omega)
 obtain⟨s3,y1,y2⟩:=VT (c:=C7 N7) (st:=s2) (e2:=g2) hv (by omega) hb (by omega) (tabK x2) (by have:=x2.next;omega) C1 (fun h=>by rw[hq];exact C2) (fun h=>by have:=(Mb h).wt;have:=(Mb h).bG;omega) (N:=N) (by omega);have y1':=(ncl (f:=6) rfl [.ag [cv,b.slice 8]] s2).trans y1;rw[hq]at y1';have K3:=x2.trans y2;have zz:bm prog 25=some [.sn,.sn]:=yf;by_cases hg1:g1=0
 case neg =>
  rw[if_pos hg1,if_pos hg1]at y1';obtain⟨s4,u1,u2,u3,u4⟩:=cO (s:=s3) (z:=[.sn,.sn]) (cells:=[.sn,.sn]) rfl rfl;have a3:∃ t,ao (aq (dR 3)) ⟨prog,fH 4 (Tw (C7 N7) N),false,f3.ntmps,N⟩ t2 s2=.nx t s4/\ab t 4=.i .i64 g1:=by simp[dR,aq,aj,f3,b1,eP,w2.all,y1',aJ,zz,aI lI eP,u1]
  obtain⟨t3,a3,b4⟩:=a3;rw[st_ 3 _ _ _ _ rfl a3];refine sr_ 4 _ _ rfl ?_;unfold uH;simp[dR,aq,aj,f3,b4,hg1]
 have m1:¬ (g1≠0):=fun h=>h hg1
 rw[if_neg m1,if_neg m1]at y1';by_cases hg2:g2=0
 case neg =>
  rw[if_pos hg2]at y1';obtain⟨s4,u1,u2,u3,u4⟩:=cO (s:=s3) (z:=[.sn,.sn]) (cells:=[.sn,.sn]) rfl rfl;have a3:∃ t,ao (aq (dR 3)) ⟨prog,fH 4 (Tw (C7 N7) N),false,f3.ntmps,N⟩ t2 s2=.nx t s4/\ab t 4=.i .i64 g2:=by simp[dR,aq,aj,f3,b1,eP,w2.all,y1',aJ,zz,aI lI eP,u1]
  obtain⟨t3,a3,b4⟩:=a3;rw[st_ 3 _ _ _ _ rfl a3];refine sr_ 4 _ _ rfl ?_;unfold uH;simp[dR,aq,aj,f3,b4,hg2]
 have m2:¬ (g2≠0):=fun h=>h hg2
 rw[if_neg m2,hg2]at y1';obtain⟨s4,u1,u2,u3,u4⟩:=cO (s:=s3) (z:=[.sn,.sn]) (cells:=[cv,q.slice 8]) rfl (by simp[hcs.2.1,ae.yu]);obtain⟨r3,hr3⟩:∃ r,s3.next=r:=⟨_,rfl⟩;rw[hr3]at u1 u2 u4;have K4:=K3.trans u3;have v4:=zJ u2;have a3:∃ t,ao (aq (dR 3)) ⟨prog,fH 4 (Tw (C7 N7) N),false,f3.ntmps,N⟩ t2 s2=.nx t s4/\ab t 4=.i .i64 0/\ab t 3=.p r3 0:=by simp[dR,aq,aj,f3,b1,eP,w2.all,y1',aJ,zz,hr3,aI lI eP,u1]
 obtain⟨t3,a3,b4,b3⟩:=a3;rw[st_ 3 _ _ _ _ rfl a3];have a4:∃ t,ao (aq (dR 4)) ⟨prog,fH 4 (Tw (C7 N7) N),false,f3.ntmps,N⟩ t3 s4=.nx t s4/\ab t 3=.p r3 0:=by simp[dR,aq,aj,f3,b3,b4]
 obtain⟨t4,a4,b3⟩:=a4;rw[st_ 4 _ _ _ _ rfl a4];rw[hg2]at C2;have M:=Mb hg1;have Mok:=M.ok;have Mnm:=M.names;have Mnr:=M.dZ;have Mon:=M.once;have Mnf:=M.nf;have Mwt:=M.wt;have Mpt:=M.bG;rw[hq]at Mok Mnm Mnr Mon Mnf;rw[<-Mnm]at Mon;have hwl:=Ya q;have hnl:=TR q;have hql:=q.bZ;have qb:q.bC.length<=132000:=by obtain⟨-,hI⟩:=Dn b.names b kZ b.names 0;have hI':eX b.names 0 (c8 b.names b kZ b.names 0).2 (gB b).bC:=hI;rw[hq]at hI';have h1:=WY hI';have h2:=Ac b.names b kZ b.names 0;have h3:=oM b.names (c8 b.names b kZ b.names 0).2;omega
 have qn:q.names.length<=8000:=by rw[eW];omega
 have hU:(q.names++q.bC).length<=140000:=by rw[Z7];omega
 have q1:1<=q.len:=by rw[<-eW];exact List.length_pos_of_mem Mok.2.2.2.2
 have n4:=K4.next;obtain⟨M3,hM3⟩:∃ M3,N=M3+3:=⟨N-3,by omega⟩;obtain⟨s5,a,e,z1,z2,z3,z4⟩:=abC (c:=C7 N7) (st:=s4) hv (by omega) tq (Vq (PM hv (by omega) (by omega) Mok) Mok.2.2.2.1 Mnf tq Mnr) Mnr (by omega) (by omega) q1 Mon (by omega) C2 (fun a ha hs=>by
   obtain⟨e,h,-⟩:=DC hv (by omega) ha hs (N:=N7) (by omega);exact⟨e,h⟩) (by omega) (by
   have h5:=tY (bW bX (q.names++q.bC)) (n:=0);have h6:=GX (f:=bX) (T:=q.names++q.bC);unfold bG;omega) (tabK K4) (by omega) (.inr (by decide)) (N:=M3) (by omega)
 rw[<-hM3]at z1;have z1':=(ncl (f:=7) rfl [.ag [cv,q.slice 8]] s4).trans z1;have K5:=K4.trans z2;have n5:=z2.next;have v5:=zJ (z2.ce u2 u4 u4 (by simp) (by simp));by_cases he:e=0
 case neg =>
  rw[if_neg he,if_neg he]at z1';obtain⟨s6,p1,p2,p3,p4⟩:=cO (s:=s5) (z:=[.sn,.sn]) (cells:=[.sn,.sn]) rfl rfl;have a5:∃ t,ao (aq (dR 5)) ⟨prog,fH 4 (Tw (C7 N7) N),false,f3.ntmps,N⟩ t4 s4=.nx t s6/\ab t 4=.i .i64 3:=by simp[dR,aq,aj,f3,b3,eP,v4.all,z1',aJ,zz,aI lI eP,p1]
  obtain⟨t5,a5,b4⟩:=a5;rw[st_ 5 _ _ _ _ rfl a5];refine sr_ 6 _ _ rfl ?_;unfold uH;simp[dR,aq,aj,f3,b4]
 rw[if_pos he,if_pos he]at z1';rw[he]at z3;have ta:=z4.ty tq;have sa:=z4.size;have la:=a.bZ;obtain⟨s6,p1,p2,p3,p4⟩:=cO (s:=s5) (z:=[.sn,.sn]) (cells:=[cv,a.slice 8]) rfl (by simp[hcs.2.1,ae.yu]);obtain⟨r5,hr5⟩:∃ r,s5.next=r:=⟨_,rfl⟩;rw[hr5]at p1 p2 p4;have x6:=zJ p2;have v6:=zJ ((z2.trans p3).ce u2 u4 u4 (by simp) (by simp));have a5:∃ t,ao (aq (dR 5)) ⟨prog,fH 4 (Tw (C7 N7) N),false,f3.ntmps,N⟩ t4 s4=.nx t s6/\ab t 3=.p r3 0/\ab t 5=.p r5 0/\ab t 4=.i .i64 0:=by simp[dR,aq,aj,f3,b3,eP,v4.all,z1',aJ,zz,hr5,aI lI eP,p1]
 obtain⟨t5,a5,b3,b5,b4⟩:=a5;rw[st_ 5 _ _ _ _ rfl a5];have a6:∃ t,ao (aq (dR 6)) ⟨prog,fH 4 (Tw (C7 N7) N),false,f3.ntmps,N⟩ t5 s6=.nx t s6/\ab t 3=.p r3 0/\ab t 5=.p r5 0:=by simp[dR,aq,aj,f3,b3,b4,b5]
 obtain⟨t6,a6,b3,b5⟩:=a6;rw[st_ 6 _ _ _ _ rfl a6];have a7:∃ t,ao (aq (dR 7)) ⟨prog,fH 4 (Tw (C7 N7) N),false,f3.ntmps,N⟩ t6 s6=.nx t s6/\ab t 3=.p r3 0/\ab t 5=.p r5 0/\ab t 6=.i .i64 0:=by simp[dR,aq,aj,f3,b3,b5]
 obtain⟨t7,a7,b3,b5,b6⟩:=a7;rw[st_ 7 _ _ _ _ rfl a7];obtain⟨e',C3,C3f,C3t⟩:=DC hv (by omega) ta (by omega) (N:=N7) (by omega);have ee:=XZ hcs.2.2 ta z3 C3;have oka:uO N7 cv ds a:=by
  have hf:nN a=true:=by
   cases hf:nN a with
   |true=>rfl
   |false=>have:=C3f hf;omega
  exact(C3t hf).1 ee.symm
 have an:=Qr oka.2.1;have qnn:=Qr Mok.2.1;obtain⟨gs,gp,-⟩:=z4.names;have sub:q.names.Sublist a.names:=Gq (fun _ _ h1 h2=>KY h1 h2) a.names q.names (Qo Mok.2.2.1) (Qo oka.2.2.1) qnn an fun x hx=>gp.mem_iff.2 (Q9 _ hx)
 obtain⟨t8,a8,b3,b5,b6⟩:=XK (N7:=N7) (cv:=cv) tq ta (by omega) (by omega) sub b3 b5 b6 v6 x6 (N:=N) (by omega);rw[st_ 8 _ _ _ _ rfl a8];have zZ:=z4.zZ;have pr:=fun st:St=>(ncl (f:=8) rfl [.ag [cv,a.slice 8]] st).trans (LJ (c:=C7 N7) (st:=st) hcs ta (by omega) z3 (z4.dZ oka.2.2.2.1) (z4.once Mon an) (by omega) (N:=N) (by omega) (.inr (by decide)))
 have ck:=fun st:St=>(ncl (f:=9) rfl [.ag [cv,a.slice 8]] st).trans (z3 st _ N (by omega) (.pure (by simp[bg,aQ,hcs.2.2,ae.mg ta 8])))
 have lq':=fun st:St=>aY (st:=st) underlying23 (q.bK 8) (q.bJ 8)
 have la':=fun st:St=>aY (st:=st) underlying23 (a.bK 8) (a.bJ 8)
 have ll:=z4.len;have e9:(q.len:Int)<=(a.len:Int):=by omega
 unfold uH;simp[dR,aj,f3,b3,b5,b6,eP,v6.c1,x6.c1,x6.all,lq',la',pr,ck,e9]
theorem Xh(hv:iq cv ds)(hb:b.Ty 1)(hT:mI st)(h0:0<st.next):
  ∃ st',ke prog (fH 4 (Tw (C7 10000000000010000000) (b.size+40000000000000000000))) (b.size+40000000000000000000) 3 [.ag [cv,b.slice 8]] st=some (.b true,st'):=by
 obtain⟨t,s,h1,h2⟩:=Vt hv hb (Q8 _) (Q8 _) hT h0;refine⟨s,?_⟩;rw[rQ func3 rfl (J1 rfl)];show eE prog f3.results.toList (ao (dR 0) _ _ _)=_
 rw[h1];simp[f3,h2,aG,aF]
