/- A part of the proof. -/
import Derived.Test.YtnmofhngblebiaaGreatDoorS11
set_option maxRecDepth 100000
open Option renaming some->So,none->No
open Bool renaming true->Tt,false->Ff
open Nat renaming le_refl->Q0,lt_of_lt_of_le->Q8,le_of_ble_eq_true->J3,le_trans->J4,eq_zero_or_pos->Z0,zero_mul->Z3,le_succ->Z4
open Bool renaming and_eq_true->Q1,and_true->Q6
open List renaming append_nil->Q2,length_append->Q3,append_assoc->Q4,getElem_mem->Q5,eq_nil_of_length_eq_zero->Q7,all_cons->Q9,all_nil->J1,nil_append->J5,length_map->J6,nodup_append->J8
open Option.some renaming inj->J9
open Go.Proofs.Tryz
open Go.Proofs.Tryz renaming prog->π
noncomputable section
open Go.Ev
namespace Go.Proofs.YtnmofhngblebiaaGreatDoor
variable {A al al0 ale:List Nat}{C:ae->Option AV}{L M T:List ae}{N hi i lo m mr n n' n0 r r2 rE rO rR tr z:Nat}{P:Program}{S:aU}{a b l late:aa}{bv cv o3 o4 o6 ps sv v v15 v5:AV}{c:Option Self}{c15 c5 cs l0 oc p:List AV}{ds:List bG}{e ty:TypeId}{g g15 g5:Option Nat}{k num:Int}{nm:ae}{out x:Ex}{s s' s'' s0 sX st:St}{sc sc':List (List ae)}{t t':Tr AV}
set_option maxHeartbeats 8000000
structure mA(s s':St)(mr tr rO:Nat)(T:List ae)(n:Nat)(sv:AV)(S:aU)(oc:List AV):Prop where
 co:∃al,s'.ce rO=So (oc,rO,al)
 M:Mk s' mr tr T n
 V:jX s' mr tr sv S
 K:Kp [mr,tr,rO] [mr,rO] s s'
 nx:s.next<=s'.next
theorem mA.keep{B:List Nat}(h:mA s s' mr tr rO T n sv S oc)(k:Kp A B s' s'')(hA:∀x,x∈A->x=mr\/x=tr\/s.next<=x)(hB:∀x,x∈B->x=mr\/s.next<=x)(hr:rO<s.next/\mr<rO/\tr<rO)(hM:Mk s'' mr tr T n')(hV:jX s'' mr tr sv S):mA s s'' mr tr rO T n' sv S oc:=by
 have⟨al,co⟩:=h.co;have:=h.nx;refine⟨⟨al,k.ce co (by omega) (by omega) (λhh=>by have:=hA _ hh;omega) (λhh=>by have:=hB _ hh;omega)⟩,hM,hV,mR h.K k (λx hx=>?_) (λx hx=>?_),J4 h.nx k.next⟩
 ·rcases hA x hx with h|h|h<;>simp[h]
 ·rcases hB x hx with h|h<;>simp[h]
theorem mA.rq{B:List Nat}(h:mA s s' mr tr rO T n sv S oc)(k:Kp A B s' s'')(hA:∀x,x∈A->s'.next<=x\/(s.next<=x/\∃p,s'.ce x=So p))(hB:∀x,x∈B->s.next<=x)(hr:rO<s.next/\mr<rO/\tr<rO):mA s s'' mr tr rO T n sv S oc:=by
 have hA':∀x,x∈A->s.next<=x:=λx hx=>by have:=h.nx;rcases hA x hx with h|h<;>omega
 have hz:=h.M.z1;refine h.keep k (λx hx=>.inr (.inr (hA' x hx))) (λx hx=>.inr (hB x hx)) hr (h.M.keep k (λhh=>by have:=hA' _ hh;omega) (λhh=>by have:=hA' _ hh;omega) (λhh=>by have:=hB _ hh;omega) (λhh=>by have:=hA' _ hh;omega)) ?_;rcases h.V with h1|⟨r,h1,⟨es,q,h2,h2'⟩,h3,h4,h5,h6⟩
 ·exact .inl h1
 ·refine .inr ⟨r,h1,⟨es,q,?_,h2'⟩,Q8 h3 k.next,h4,h5,h6⟩;rw[k.get r h3 ?_]
  ·exact h2
  ·intro hh;rcases hA r hh with h|⟨-,⟨l,g,al⟩,h⟩
   ·omega
   ·rw[Hb h]at h2;cases h2
structure qA(s:St)(lo:Nat)(v5:AV)(i:Nat)(c5:List AV)(v15:AV)(m:Nat)(c15:List AV)(g5 g15:Option Nat):Prop where
 z5:i=0->v5=.sn
 z15:m=0->v15=.sn
 o5:bD s lo 7 v5 i c5 g5
 o15:bD s lo 8 v15 m c15 g15
 ap:∀x,g5=So x->g15≠So x
theorem qA.keep{s s':St}{lo:Nat}{v5:AV}{i:Nat}{c5:List AV}{v15:AV}{m:Nat}{c15:List AV}{g5 g15:Option Nat}{A B:List Nat}(h:qA s lo v5 i c5 v15 m c15 g5 g15)(k:Kp A B s s')(hA:∀x,x∈A->x<lo)(hB:∀x,x∈B->x<lo):qA s' lo v5 i c5 v15 m c15 g5 g15 :=
 ⟨h.z5,h.z15,h.o5.keep k hA (λx hx=>.inl (hB x hx)),h.o15.keep k hA (λx hx=>.inl (hB x hx)),h.ap⟩
def TV(s sX:St)(mr tr rO:Nat)(T:List ae)(n:Nat)(sv:AV)(S:aU)(k:Int)(nm:ae)(num:Int)(o3 o4 o6 v5:AV)(i:Nat)(c5:List AV)(v15:AV)(m:Nat)(c15:List AV)(Y:Ex):Prop :=
 ∃v' g5' g15 sA sB,fD π (sX.aj Y.cells) [44,44] [v5,.sl sX.next 0 1 7 (So 1)]=So (v',sA)/\v'.cells=So [v']/\wt sA rO 5 [v']=So sB/\mA s sB mr tr rO T n sv S [.i .i64 k,.s nm,.i .i64 num,o3,o4,v',o6]/\qA sB s.next v' (i+1) (c5++Y.cells) v15 m c15 g5' g15
theorem GC{Y:Ex}
  (h:mA s sX mr tr rO T n sv S [.i .i64 k,.s nm,.i .i64 num,o3,o4,v5,o6]) (hG:qA sX s.next v5 i c5 v15 m c15 g5 g15) (hY:Y.Ty) (hi:i<=1000000) (hr:rO<s.next/\mr<rO/\tr<rO):TV s sX mr tr rO T n sv S k nm num o3 o4 o6 v5 i c5 v15 m c15 Y:=by
 have cY:=Y.bp;have⟨v',g',sA,w1,w2,w3,w4⟩:=hG.o5.iW Ay (Ex.eU hY.wf) cY (by omega) h.nx;have hgl:=hG.o5.jd;have hB4:∀x,x∈g5.toList->s.next<=x:=λx hx=>(hgl x (by simpa using hx)).1
 have hA:=h.rq w3 (by simp) hB4 hr;have⟨al,co⟩:=hA.co;have hw:=c9 co 5 [v'] (by simp) (by simp[w2.sc]);simp at hw;have k5:Kp [rO] [rO] sA (sA.aG rO [.i .i64 k,.s nm,.i .i64 num,o3,o4,v',o6] rO):=.aG (by simp) (by simp);have hz:=h.M.z1;have n1:=h.nx;have hg':g'≠So rO:=by
  rcases w4 with rfl|⟨x,rfl,hx⟩
  ·exact λhh=>by have:=hgl rO hh;omega
  ·intro hh;cases hh;omega
 refine⟨v',g',g15,sA,_,w1,w2.cells,hw,⟨⟨_,dA _ _ _⟩,hA.M.keep k5 (by simp;omega) (by simp;omega) (by simp;omega) (by simp;omega),hA.V.DY (Kp.qk k5 (by simp) (λx hx=>hx)) co,mR hA.K k5 (by simp) (by simp),hA.nx⟩,⟨λhh=>by omega,hG.z15,?_,?_,?_⟩⟩
 ·exact w2.keep k5 (by simp;omega) (λx hx=>.inr (by simp at hx;subst hx;exact hg'))
 ·have hgl15:=hG.o15.jd;refine(hG.o15.keep w3 (by simp) (λx hx=>.inr ?_)).keep k5 (by simp;omega) (λx hx=>.inl (by simp at hx;omega));exact hG.ap x (by simpa using hx)
 ·have hgl15:=hG.o15.jd;intro x hx;rcases w4 with rfl|⟨y,rfl,hy⟩
  ·exact hG.ap x hx
  ·have e:=J9 hx;subst e;intro hh;have:=hgl15 y hh;omega
theorem Qe{r0:Nat}(h:bD s lo z v n cs g)(hr:s.ce r0=So (l0,r0,al0))(hg:g≠So r0)(k:Kp [r0] [r0] s s'):bD s' lo z v n cs g:=by
 rcases h with h|h|⟨r,f,al,rfl,rfl,hc,hl,h0,h1,h2,h3,h4⟩
 ·exact .inl h
 ·exact .inr (.inl h)
 ·have hf:f≠r0:=λe=>hg (by rw[e])
  have hrr:r≠r0:=by rintro rfl;rw[hc]at hr;cases hr;exact hf rfl
  exact .inr (.inr ⟨r,f,al,rfl,rfl,k.ce hc h3 h4 (by simp[hrr]) (by simp[hf]),hl,h0,h1,h2,Q8 h3 k.next,Q8 h4 k.next⟩)
theorem XZ{r0:Nat}(h:qA s lo v5 i c5 v15 m c15 g5 g15)(hr:s.ce r0=So (l0,r0,al0))(h5:g5≠So r0)(h15:g15≠So r0)(k:Kp [r0] [r0] s s'):qA s' lo v5 i c5 v15 m c15 g5 g15 :=
 ⟨h.z5,h.z15,Qe h.o5 hr h5 k,Qe h.o15 hr h15 k,h.ap⟩
theorem YN{new:List AV}
  (h:mA s sX mr tr rO T n sv S oc) (hG:qA sX s.next v5 i c5 v15 m c15 g5 g15) (h1:bH new=Tt) (h2:new.length=8) (hm:m<=1000000) (hr:rO<s.next/\mr<rO/\tr<rO):
  ∃v' g15' sA,fD π (sX.aj new) [23,23] [v15,.sl sX.next 0 1 8 (So 1)]=So (v',sA)/\mA s sA mr tr rO T n sv S oc/\qA sA s.next v5 i c5 v' (m+1) (c15++new) g5 g15'/\Kp [] g15.toList sX sA/\(g15'=g15\/∃x,g15'=So x/\sX.next<=x):=by
 have⟨v',g',sA,w1,w2,w3,w4⟩:=hG.o15.iW wF h1 h2 (by omega) h.nx;have hgl:=hG.o15.jd;have hB4:∀x,x∈g15.toList->s.next<=x:=λx hx=>(hgl x (by simpa using hx)).1
 have n1:=h.nx;refine⟨v',g',sA,w1,h.rq w3 (by simp) hB4 hr,⟨hG.z5,λhh=>by omega,hG.o5.keep w3 (by simp) (λx hx=>.inr λhh=>?_),w2,λx hx hh=>?_⟩,w3,w4⟩
 ·exact hG.ap x hh (by simpa using hx)
 ·rcases w4 with rfl|⟨y,rfl,hy⟩
  ·exact hG.ap x hx hh
  ·have e:=J9 hh;subst e;have:=hG.o5.jd y hx;omega
def dF(s:St)(lo:Nat)(T:List ae)(S:aU)(a:aa)(k0:Int)(n0:Nat)(v5 v15:AV)(i ni:Nat):Prop :=
 ∃(acc accL:List (List AV×Ex)) (g5 g15:Option Nat),acc.length=i/\accL.length<=i/\qA s lo v5 i (fh acc).flat v15 accL.length (fh accL).flat g5 g15/\
  bM T a S k0 0 n0=(jY acc (bM T (db a i) S k0 i ni).1,jY accL (bM T (db a i) S k0 i ni).2.1,(bM T (db a i) S k0 i ni).2.2)/\dK T ni+((db a i).len+(db a i).wt)<=dK T n0+(a.len+a.wt)
def FV(s:St)(mr tr rE rR rO:Nat)(T:List ae)(n:Nat)(sv:AV)(S:aU)(k:Int)(nm:ae)(num:Int)(o3 o4 o6:AV)(a:aa)(k0:Int)(i:Nat)(t':Tr AV)(s':St):Prop :=
 ∃v5 ni,sM s s' t' mr tr rE rR rO T ni sv S [.i .i64 k,.s nm,.i .i64 num,o3,o4,v5,o6]/\dF s' s.next T S a k0 n v5 (ab t' 15) i ni
theorem sM.tt(h:sM s s' t' mr tr rE rR rO T n sv S oc):mA s s' mr tr rO T n sv S oc:=⟨h.co,h.M,h.V,h.K,h.K.next⟩
theorem mA.ss(h:mA s s' mr tr rO T n sv S oc)(h0:ab t' 0=.p mr 0)(h2:ab t' 2=sv)(h4:ab t' 4=.p rE 0)(h6:ab t' 6=.p rR 0)(h7:ab t' 7=.p rO 0):sM s s' t' mr tr rE rR rO T n sv S oc:=⟨h0,h2,h4,h6,h7,h.co,h.M,h.V,h.K⟩
theorem WK(ha:a.Ty 0)(hs:a.size<=1000000)(hIH:∀p∈a.list,Cq c p.2)
  (h:fB st s t mr tr rE rR rO T n sv S (.mk k nm num ps b a l) [.i .i64 k,.s nm,.i .i64 num,o3,o4,.sn,o6]) (h15:ab t 15=.sn) (hp:dK T n+(a.len+a.wt)<1000000) (hN:a.size+4000000<=N):
  ∃t' s',ao (au (cH 9)) ⟨π,Tw c N,Ff,f18.ntmps,N⟩ t s=.nx t' s'/\FV s mr tr rE rR rO T n sv S k nm num o3 o4 o6 a (fm strF k nm a.len) a.list.length t' s':=by
 obtain⟨l1,l2,l3,l4⟩:=h.lo;obtain⟨m1,m2⟩:=h.ml;obtain⟨al,ce⟩:=h.ce;have hal:=a.cq;have ra:=(ju ce).a;have ln:=λst:St=>bg (st:=st) underlying44 (a.bU 7) (a.bV 7)
 have hro:rO<s.next/\mr<rO/\tr<rO:=⟨l4,by omega,by omega⟩;have hst:=λ(s:St) (n:Nat)=>R3 (c:=c) (st:=s) k nm num ps b a l n
 obtain⟨k0,hk0⟩:∃k0,fm strF k nm a.len=k0:=⟨_,rfl⟩;rw[hk0];simp only[hk0]at hst;simp[cH,ev,au,aw,f18,h.t4,ra,ln,ba];generalize hL:aQ _ _ _ _=L;obtain⟨t1,s1,rfl,p0⟩:=cD hL 4 a.list.length
  (λi t' s'=>ab t' 99=a.slice 7/\ab t' 100=.i .i64 (a.len:Int)/\ab t' 101=.i .i64 (i:Int)/\FV s mr tr rE rR rO T n sv S k nm num o3 o4 o6 a k0 i t' s')
  (λt' s'=>FV s mr tr rE rR rO T n sv S k nm num o3 o4 o6 a k0 a.list.length t' s') (by rw[<-aa.aF];omega)
  ⟨by simp,by simp,by simp,.sn,n,h.lp (by simp) (by simp) (by simp) (by simp) (by simp),[],[],No,No,rfl,Q0 _,⟨λ_=>rfl,λ_=>by simp[h15],.nil _ _ _,by simpa[h15,fh,aa.flat]using bD.nil s s.next 8,λ_ h=>(by cases h)⟩,by simp[jY,db],by simp[db]⟩
  (by
   rintro i t' s' hi ⟨i99,i100,i101,v5,ni,iL,acc,accL,g5,g15,q1,q1',qG,q3,q4⟩;obtain⟨v15,i15⟩:∃v,ab t' 15=v:=⟨_,rfl⟩;rw[i15]at qG;have hil:i<a.len:=by rw[aa.aF];exact hi
   have e3:(i:Int)<(a.len:Int):=by omega
   have e4:wr .i64 ((i:Int)+1)=((i+1:Nat):Int):=by rw[aP (by omega) (by omega)];rfl
   obtain⟨r,r1,r2⟩:=eK ha.pre (show fH 0+7=7 from rfl) hi;have ix:=dP underlying44 cM aX a.flat a.len i hil;rw[<-aa.dR hil,r1,Q7 r2,J5]at ix;have hmem:=Q5 hi;have hT:=aa.dC ha _ hmem;have hsz':=aa.dX hmem;have ld:=λst:St=>ei (st:=st) (r:=r) cM gT aX (a.list[i].2.bp)
   rw[uY a i hi]at q3 q4;simp only[aa.wt,aa.len]at q4;have cl7:=a.list[i].2.bp;obtain⟨s2,u1,u2,u3,u4⟩:=bJ (z:=jB) (cells:=a.list[i].2.cells) cl7 (Ex.eU hT.2.wf);have L2:=iL.tt.rq u3 (by simp) (by simp) hro;have rx:rd s2 s'.next 0 7=So a.list[i].2.cells:=by
    rw[ai u2,eV];have:=mV a.list[i].2.cells []
    rwa [Ex.bp,Q2]at this
   have qpot:=rL T a.list[i].2 S ni;obtain⟨s3,f1,f2,f3⟩:=hIH _ hmem hT.2 (by omega) s2 mr tr ni T sv S N L2.M L2.V (by omega) (by omega);have tR:=wX T a.list[i].2 S ni hT.2;obtain⟨R,hR⟩:∃R,bm T a.list[i].2 S ni=R:=⟨_,rfl⟩;rw[hR]at f1 f2 qpot tR;have cR:=R.1.bp;have L3:=L2.keep f3 (by simp) (by simp) hro f2 (L2.V.keep f3 (by simp));have G3:=(qG.keep u3 (by simp) (by simp)).keep f3 (by simp;omega) (by simp;omega);obtain⟨s4,y1,y2,y3,y4⟩:=bJ (s:=s3) (z:=jB) (cells:=R.1.cells) cR (Ex.eU tR.wf);have L4:=L3.rq y3 (by simp) (by simp) hro;have G4:=G3.keep y3 (by simp) (by simp);have takeR:takeN 7 R.1.cells=So R.1.cells:=by
    have:=mV R.1.cells []
    rwa [Ex.bp,Q2]at this
   obtain⟨alE,cE⟩:=(iL.fr h).ce;have n1:=iL.K.next;have n2:=f3.next;have cE4:=y3.ce (f3.ce (u3.ce cE (by omega) (by omega) (by simp) (by simp)) (by omega) (by omega) (by simp;omega) (by simp;omega)) (by omega) (by omega) (by simp) (by simp);have rE4:=(ju cE4).all;obtain⟨ec,hec⟩:∃ec,(Ex.mk k nm num ps b a l).cells=ec:=⟨_,rfl⟩;have st4:=hst s4 (N-2);rw[hec]at rE4 st4;rw[show N-2+2=N by omega]at st4;have k5:=Kp.aj (st:=s4) [] [] ec;obtain⟨s5,hs5⟩:∃x,s4.aj ec=x:=⟨_,rfl⟩;rw[hs5]at st4 k5;have n5:s5.next=s4.next+1:=by rw[<-hs5];rfl
   have L5:=L4.rq k5 (by simp) (by simp) hro;have G5:=G4.keep k5 (by simp) (by simp);have y5:=k5.ce y2 (by omega) (by omega) (by simp) (by simp);have r5:rd s5 s3.next 0 7=So R.1.cells:=by rw[ai y5,eV,takeR]
   have at5:=GG (c:=c) (st:=s5) R.1 (N-1);rw[show N-1+1=N by omega]at at5;have k6:=Kp.aj (st:=s5) [] [] R.1.cells;obtain⟨s6,hs6⟩:∃x,s5.aj R.1.cells=x:=⟨_,rfl⟩;rw[hs6]at at5 k6;have n6:s6.next=s5.next+1:=by rw[<-hs6];rfl
   have L6:=L5.rq k6 (by simp) (by simp) hro;have G6:=G5.keep k6 (by simp) (by simp);have y6:=k6.ce y5 (by omega) (by omega) (by simp) (by simp);have r6:rd s6 s3.next 0 7=So R.1.cells:=by rw[ai y6,eV,takeR]
   have zz:bt π 47=So jB:=xL;by_cases hk:k0<=(i:Int)
   ·cases hat:R.1.atom with
    |true=>
     rw[hat]at at5;obtain⟨v',g5',g15',sA,sB,w1,w2,w3,w4,w5⟩:=GC L6 G6 tR (by omega) hro;obtain⟨al6,co6⟩:=L6.co;have rO6:rd s6 rO 5 1=So [v5]:=by rw[ai co6];rfl
     have bo:=λ(t:Tr AV) (h:ah t (.tmp 132)=.ag R.1.cells)=>ef (S:=Tw c N) (t:=t) (st:=s6) Ay (x:=.tmp 132) (cs:=R.1.cells) (by rw[h];exact gh _) cR
     simp[i99,i100,i101,iL.t0,iL.t2,iL.t4,iL.t7,e3,e4,ix,ld,aB,zz,aC cM aX,cl7,u1,aX,rx,f1,cR,y1,rE4,st4,hk,r5,r6,at5,rO6,bo,w1,bN AG Kj,w2,w3];refine⟨_,_,⟨rfl,rfl⟩,by simp[i99],by simp[i100],by simp,v',R.2,w4.ss (by simp[iL.t0]) (by simp[iL.t2]) (by simp[iL.t4]) (by simp[iL.t6]) (by simp[iL.t7]),acc++[([],R.1)],accL,g5',g15',by simp[q1],by omega,?_,?_,by omega⟩
     ·rw[wR];simpa[i15]using w5
     ·rw[q3,bM];simp only[hR,hk,hat,true_and,Bool.true_eq_false,if_false];rw[uD];rfl
    |false=>
     rw[hat]at at5;rw[bM]at q3;simp only[hR,hk,hat,true_and,if_true]at q3;have qn:=yL T R.2;have qb:=oO T (bY T R.2);obtain⟨s7,e7,M7,k7⟩:=HZ (c:=c) L6.M (by omega) (N:=N) (by omega);obtain⟨pn,hpn⟩:∃pn,dt (bY T R.2)=pn:=⟨_,rfl⟩;rw[hpn]at e7 q3;have L7:=L6.keep k7 (by simp) (by simp) hro M7 (L6.V.keep k7 (by simp));have G7:=G6.keep k7 (by simp;omega) (by simp;omega);have n7:=k7.next;have y7:=k7.ce y6 (by omega) (by omega) (by simp;omega) (by simp;omega);have r7:rd s7 s3.next 0 7=So R.1.cells:=by rw[ai y7,eV,takeR]
     have bo1:=λ(t:Tr AV) (h1:ah t (.tmp 120)=.s pn) (h2:ah t (.tmp 121)=.ag R.1.cells)=>GV (S:=Tw c N) (st:=s7) (t:=t) h1 h2 cR
     have sR:bH (.s pn::R.1.cells)=true:=by simp[Ex.eU tR.wf]
     have cR8:(AV.s pn::R.1.cells).length=8:=by simp[cR]
     obtain⟨s8,z1,z2,z3,z4⟩:=bJ (s:=s7) (z:=mX) (cells:=.s pn::R.1.cells) cR8 sR;have L8:=L7.rq z3 (by simp) (by simp) hro;have G8:=G7.keep z3 (by simp) (by simp);have y8:=z3.ce y7 (by omega) (by omega) (by simp) (by simp);have r8:rd s8 s7.next 0 8=So (.s pn::R.1.cells):=by
      rw[ai z2,eV];have:=mV (.s pn::R.1.cells) []
      rwa [cR8,Q2]at this
     have bo2:=λ(t:Tr AV) (h:ah t (.tmp 124)=.ag (.s pn::R.1.cells))=>ef (S:=Tw c N) (t:=t) (st:=s8) wF (x:=.tmp 124) (cs:=.s pn::R.1.cells) (by rw[h];exact gh _) cR8
     have hacc:=hi;obtain⟨v15',g15',s9,x1,L9,G9,k9,x4⟩:=YN L8 G8 sR cR8 (by omega) hro;have n9:=k9.next;have hgl:=qG.o15.jd;have hB9:∀x,x∈g15.toList->x<s'.next:=λx hx=>(hgl x (by simpa using hx)).2
     have y9:=k9.ce y8 (by omega) (by omega) (by simp) (λhh=>by have:=hB9 _ hh;omega);have z9:=k9.ce z2 (by omega) (by omega) (by simp) (λhh=>by have:=hB9 _ hh;omega);have r9:rd s9 s7.next 0 1=So [.s pn]:=by rw[ai z9];simp
     have bo3:=λ(t:Tr AV) (h2:ah t (.tmp 128)=.s pn)=>UW (S:=Tw c N) (st:=s9) (t:=t) (x:=.const (.int .i64 1)) (Nd t .i64 1) h2
     have hw:=c9 y9 0 (jU pn).cells (by rw[Ex.bp,cR];omega) (by simp[jU,Ex.cells,aa.slice]);rw[pY,nU (by rw[Ex.bp,cR])]at hw;have k10:Kp [s3.next] [s3.next] s9 (s9.aG s3.next (jU pn).cells s3.next):=.aG (by simp) (by simp);have c10:(s9.aG s3.next (jU pn).cells s3.next).ce s3.next=So ((jU pn).cells,s3.next,[s3.next]):=dA _ _ _;obtain⟨s10,hs10⟩:∃x,s9.aG s3.next (jU pn).cells s3.next=x:=⟨_,rfl⟩;rw[hs10]at hw k10 c10;have vc:(jU pn).cells=[.i .i64 1,.s pn,.i .i64 0,.sn,.sn,.sn,.sn]:=by simp[jU,Ex.cells,aa.slice]
     have r10:rd s10 s3.next 0 7=So [.i .i64 1,.s pn,.i .i64 0,.sn,.sn,.sn,.sn]:=by rw[ai c10,vc];rfl
     have L10:=L9.rq k10 (λx hx=>.inr ⟨by simp at hx;omega,by simp at hx;subst hx;exact⟨_,y9⟩⟩) (λx hx=>by simp at hx;omega) hro;have G10:=XZ G9 y9 (λhh=>by have:=qG.o5.jd _ hh;omega) (λhh=>by
      rcases x4 with e|⟨y,e,hy⟩
      ·rw[e]at hh;have:=hgl _ hh;omega
      ·rw[e]at hh;cases hh;omega) k10
     have tV:(jU pn).Ty:=by simp only[jU,Ex.Ty,aa.Ty];exact⟨⟨by decide,by decide⟩,⟨[],.inl ⟨rfl,rfl⟩,by decide⟩,trivial,trivial,trivial⟩
     obtain⟨v',g5',g15'',sA,sB,w1,w2,w3,w4,w5⟩:=GC L10 G10 tV (by omega) hro;obtain⟨al6,co6⟩:=L10.co;have rO6:rd s10 rO 5 1=So [v5]:=by rw[ai co6];rfl
     rw[vc]at hw w1;have bo:=λ(t:Tr AV) (h:ah t (.tmp 132)=.ag [.i .i64 1,.s pn,.i .i64 0,.sn,.sn,.sn,.sn])=>ef (S:=Tw c N) (t:=t) (st:=s10) Ay (x:=.tmp 132) (cs:=[.i .i64 1,.s pn,.i .i64 0,.sn,.sn,.sn,.sn]) (by rw[h];exact gh _) rfl
     have zz2:bt π 49=So mX:=xM;simp[i99,i100,i101,iL.t0,iL.t2,iL.t4,e3,ix,ld,aB,zz,aC cM aX,cl7,u1,aX,rx,f1,cR,y1,rE4,st4,hk,r5,at5,aY];rw[ft (fl:=[(2,0)])]
     ·simp[i101,i15,iL.t0,iL.t7,e4,e7,aX,r7,bo1,aB,zz2,aC dc cK,cR,z1,cK,r8,bo2,x1,r9,bo3,aC cM aX,hw,r10,rO6,bo,w1,bN AG Kj,w2,w3];refine⟨_,_,⟨rfl,rfl⟩,by simp[i99],by simp[i100],by simp,v',bY T R.2,w4.ss (by simp[iL.t0]) (by simp[iL.t2]) (by simp[iL.t4]) (by simp[iL.t6]) (by simp[iL.t7]),acc++[([],jU pn)],accL++[([.s pn],R.1)],g5',g15'',by simp[q1],by simp;omega,?_,?_,by omega⟩
      ·rw[wR,wR,Q3];simpa using w5
      ·rw[q3,uD,uD];rfl
     ·kernel_rfl
     ·intro R' hR';simp[iL.t0,e7,aX,r7,bo1,aB,zz2,aC dc cK,cR,z1]at hR';subst hR';simp only[Q9,J1,Q6];refine cZ rfl rfl rfl (s:=s6) ?_;simp[aX,r6]
   ·obtain⟨v',g5',g15',sA,sB,w1,w2,w3,w4,w5⟩:=GC L5 G5 tR (by omega) hro;obtain⟨al6,co6⟩:=L5.co;have rO6:rd s5 rO 5 1=So [v5]:=by rw[ai co6];rfl
    have bo:=λ(t:Tr AV) (h:ah t (.tmp 132)=.ag R.1.cells)=>ef (S:=Tw c N) (t:=t) (st:=s5) Ay (x:=.tmp 132) (cs:=R.1.cells) (by rw[h];exact gh _) cR
    simp[i99,i100,i101,iL.t0,iL.t2,iL.t4,iL.t7,e3,e4,ix,ld,aB,zz,aC cM aX,cl7,u1,aX,rx,f1,cR,y1,rE4,st4,hk,r5,rO6,bo,w1,bN AG Kj,w2,w3];refine⟨_,_,⟨rfl,rfl⟩,by simp[i99],by simp[i100],by simp,v',R.2,w4.ss (by simp[iL.t0]) (by simp[iL.t2]) (by simp[iL.t4]) (by simp[iL.t6]) (by simp[iL.t7]),acc++[([],R.1)],accL,g5',g15',by simp[q1],by omega,?_,?_,by omega⟩
    ·rw[wR];simpa[i15]using w5
    ·rw[q3,bM];simp only[hR,hk,false_and,if_false];rw[uD];rfl)
  (by rintro t' s' ⟨i99,i100,i101,v5,ni,iL,iA⟩;simp[i100,i101,aa.aF];exact⟨_,_,⟨rfl,rfl⟩,v5,ni,⟨by simp[iL.t0],by simp[iL.t2],by simp[iL.t4],by simp[iL.t6],by simp[iL.t7],iL.co,iL.M,iL.V,iL.K⟩,by simpa using iA⟩)
 clear hL;exact⟨t1,s1,by simp,p0⟩
set_option maxHeartbeats 8000000
def TJ(s:St)(lo:Nat)(T:List ae)(S:aU)(l:aa)(n0:Nat)(v:AV)(i ni:Nat):Prop :=
 ∃(acc:List (List AV×Ex)),acc.length=i/\fI s lo 11 v i (fh acc).flat/\
  dz T l S n0=(jY acc (dz T (db l i) S ni).1,(dz T (db l i) S ni).2)/\dK T ni+(db l i).kD<=dK T n0+l.kD
def Gd(s:St)(mr tr rE rR rO:Nat)(T:List ae)(n:Nat)(sv:AV)(S:aU)(k:Int)(nm:ae)(num:Int)(o3 o4 o5:AV)(l:aa)(i:Nat)(t':Tr AV)(s':St):Prop :=
 ∃v6 ni,sM s s' t' mr tr rE rR rO T ni sv S [.i .i64 k,.s nm,.i .i64 num,o3,o4,o5,v6]/\TJ s' s.next T S l n v6 i ni
theorem WJ{o5:AV}(hl:l.Ty 4)(hs:l.size<=1000000)(hIH:∀p∈l.list,Cq c p.2)
  (h:fB st s t mr tr rE rR rO T n sv S (.mk k nm num ps b a l) [.i .i64 k,.s nm,.i .i64 num,o3,o4,o5,.sn]) (h15:ab t 15=v15) (hp:dK T n+l.kD<1000000) (hN:l.size+4000000<=N):
  ∃t' s' v6,ao (au (cH 10)) ⟨π,Tw c N,Ff,f18.ntmps,N⟩ t s=.nx t' s'/\fB st s' t' mr tr rE rR rO T (dz T l S n).2 sv S (.mk k nm num ps b a l) [.i .i64 k,.s nm,.i .i64 num,o3,o4,o5,v6]/\fI s' s.next 11 v6 l.len (dz T l S n).1.flat/\Kp [mr,tr,rO] [mr,rO] s s'/\(∃L,(dz T l S n).1=fh L)/\ab t' 15=v15:=by
 obtain⟨l1,l2,l3,l4⟩:=h.lo;obtain⟨m1,m2⟩:=h.ml;obtain⟨al,ce⟩:=h.ce;have hll:=l.cq;have rl:=(ju ce).l;have ln:=λst:St=>bg (st:=st) underlying45 (l.bU 11) (l.bV 11)
 have hro:rO<s.next/\mr<rO/\tr<rO:=⟨l4,by omega,by omega⟩;have key:∃t' s',ao (au (cH 10)) ⟨π,Tw c N,Ff,f18.ntmps,N⟩ t s=.nx t' s'/\Gd s mr tr rE rR rO T n sv S k nm num o3 o4 o5 l l.list.length t' s'/\ab t' 15=v15:=by
  simp[cH,ev,au,aw,f18,h.t4,rl,ln,ba];generalize hL:aQ _ _ _ _=L;obtain⟨t1,s1,rfl,p0,p15⟩:=cD hL 6 l.list.length
   (λi t' s'=>ab t' 15=v15/\ab t' 138=l.slice 11/\ab t' 139=.i .i64 (l.len:Int)/\ab t' 140=.i .i64 (i:Int)/\Gd s mr tr rE rR rO T n sv S k nm num o3 o4 o5 l i t' s')
   (λt' s'=>Gd s mr tr rE rR rO T n sv S k nm num o3 o4 o5 l l.list.length t' s'/\ab t' 15=v15) (by rw[<-aa.aF];omega)
   ⟨by simp[h15],by simp,by simp,by simp,.sn,n,h.lp (by simp) (by simp) (by simp) (by simp) (by simp),[],rfl,⟨No,λ_=>rfl,.nil _ _ _⟩,by simp[jY,db],by simp[db]⟩
   (by
    rintro i t' s' hi ⟨i15,i138,i139,i140,v6,ni,iL,acc,q1,⟨g,q0,qO⟩,q3,q4⟩;have hil:i<l.len:=by rw[aa.aF];exact hi
    have e3:(i:Int)<(l.len:Int):=by omega
    have e4:wr .i64 ((i:Int)+1)=((i+1:Nat):Int):=by rw[aP (by omega) (by omega)];rfl
    obtain⟨r,r1,r2⟩:=eK hl.pre (show fH 4+7=11 from rfl) hi;have ix:=dP underlying45 bQ bL l.flat l.len i hil;rw[<-aa.dR hil,r1,<-Q4]at ix;have hmem:=Q5 hi;have hT:=aa.dC hl _ hmem;have hsz':=aa.dX hmem;obtain⟨vs,p1,p2,p3⟩:=Gu hT.1;obtain⟨H,hH⟩:∃H,aM l.list[i]=H:=⟨_,rfl⟩;rw[hH]at p1 p3;have hce:(l.list[i].1++l.list[i].2.cells).length=11:=by rw[Q3,r2,Ex.bp];rfl
    have hsc:bH (l.list[i].1++l.list[i].2.cells)=true:=jk hT.1.sc (Ex.eU hT.2.wf);have ld:=λst:St=>ei (st:=st) (r:=r) bQ xW bL hce
    have c0:cut (l.list[i].1++l.list[i].2.cells) 0 1=So [.i .i64 H.k]:=by rw[p1];rfl
    have c1:cut (l.list[i].1++l.list[i].2.cells) 1 1=So [.s H.n]:=by rw[p1];rfl
    have c2:cut (l.list[i].1++l.list[i].2.cells) 2 1=So [.i .i64 H.m]:=by rw[p1];rfl
    have c3:cut (l.list[i].1++l.list[i].2.cells) 3 1=So [vs]:=by rw[p1];rfl
    have c4:cut (l.list[i].1++l.list[i].2.cells) 4 7=So l.list[i].2.cells:=by rw[p1];have:=mV l.list[i].2.cells [];rw[Ex.bp,Q2]at this;simpa using this
    generalize l.list[i].1++l.list[i].2.cells=cl at*;obtain⟨s2,u1,u2,u3,u4⟩:=bJ (z:=zu) hce hsc;have L2:=iL.tt.rq u3 (by simp) (by simp) hro;have n1:=iL.K.next;have n2:=u3.next;rw[uY l i hi]at q3 q4;have wt1:(aa.cons l.list[i].1 l.list[i].2 (db l (i+1))).kD=H.vs.length+l.list[i].2.wt+(db l (i+1)).kD:=by simp only[aa.kD];rw[show((l.list[i].1,l.list[i].2):List AV×Ex)=l.list[i] from rfl,hH]
    rw[wt1]at q4;have pr1:∀m,dz T (aa.cons l.list[i].1 l.list[i].2 (db l (i+1))) S m=(.cons [.i .i64 H.k,.s H.n,.i .i64 H.m,cJ (aI T S H.vs m).2.1] (bm T l.list[i].2 (aI T S H.vs m).1 (aI T S H.vs m).2.2).1 (dz T (db l (i+1)) S (bm T l.list[i].2 (aI T S H.vs m).1 (aI T S H.vs m).2.2).2).1,(dz T (db l (i+1)) S (bm T l.list[i].2 (aI T S H.vs m).1 (aI T S H.vs m).2.2).2).2):=by intro m;simp only[dz];rw[show((l.list[i].1,l.list[i].2):List AV×Ex)=l.list[i] from rfl,hH]
    rw[pr1]at q3;have qw:=(sw T H.vs S ni).1;have qwb:=oO T ni;obtain⟨s3,sv3,f1,f2,f3,f4⟩:=KE (c:=c) (st:=s2) (v:=vs) (l:=H.vs) (.inl (by rw[p3];exact DW p2)) (by omega) L2.V L2.M (by omega) (N:=N) (by omega);obtain⟨W,hW⟩:∃W,aI T S H.vs ni=W:=⟨_,rfl⟩;rw[hW]at f1 f2 f3 q3 qw;have L3:=L2.keep f4 (by simp) (by simp) hro f3 (L2.V.keep f4 (by simp));have n3:=f4.next;have u2':=f4.ce u2 (by omega) (by omega) (by simp;omega) (by simp;omega);have d0:rd s3 s'.next 0 1=So [.i .i64 H.k]:=by rw[ai u2',c0]
    have d1:rd s3 s'.next 1 1=So [.s H.n]:=by rw[ai u2',c1]
    have d2:rd s3 s'.next 2 1=So [.i .i64 H.m]:=by rw[ai u2',c2]
    have d3:rd s2 s'.next 3 1=So [vs]:=by rw[ai u2,c3]
    have d4:rd s3 s'.next 4 7=So l.list[i].2.cells:=by rw[ai u2',c4]
    obtain⟨al3,co3⟩:=L3.co;have rO3:rd s3 rO 6 1=So [v6]:=by rw[ai co3];rfl
    have qpot:=rL T l.list[i].2 W.1 W.2.2;obtain⟨s4,e5,e6,e7⟩:=hIH _ hmem hT.2 (by omega) s3 mr tr W.2.2 T sv3 W.1 N L3.M f2 (by omega) (by omega);have tR:=wX T l.list[i].2 W.1 W.2.2 hT.2;obtain⟨R,hR⟩:∃R,bm T l.list[i].2 W.1 W.2.2=R:=⟨_,rfl⟩;rw[hR]at e5 e6 q3 qpot tR;have cR:=R.1.bp;have L4:=L3.keep e7 (by simp) (by simp) hro e6 (L3.V.keep e7 (by simp));have n4:=e7.next;obtain⟨al4,co4⟩:=L4.co;have rO4:rd s4 rO 6 1=So [v6]:=by rw[ai co4];rfl
    have u2'':=e7.ce u2' (by omega) (by omega) (by simp;omega) (by simp;omega);have g0:rd s4 s'.next 0 1=So [.i .i64 H.k]:=by rw[ai u2'',c0]
    have g1:rd s4 s'.next 1 1=So [.s H.n]:=by rw[ai u2'',c1]
    have g2:rd s4 s'.next 2 1=So [.i .i64 H.m]:=by rw[ai u2'',c2]
    have bo:=λ(t:Tr AV) (h1:ah t (.tmp 155)=.i .i64 H.k) (h2:ah t (.tmp 157)=.s H.n) (h3:ah t (.tmp 159)=.i .i64 H.m) (h4:ah t (.tmp 160)=cJ W.2.1) (h5:ah t (.tmp 165)=.ag R.1.cells)=>US (S:=Tw c N) (st:=s4) (t:=t) h1 h2 h3 h4 h5 cR (BM _).1
    have cN:(AV.i IntKind.i64 H.k::AV.s H.n::AV.i IntKind.i64 H.m::cJ W.2.1::R.1.cells).length=11:=by simp[cR]
    have bo2:=λ(t:Tr AV) (h:ah t (.tmp 166)=.ag (.i .i64 H.k::.s H.n::.i .i64 H.m::cJ W.2.1::R.1.cells))=>ef (S:=Tw c N) (t:=t) (st:=s4) NW (x:=.tmp 166) (cs:=.i .i64 H.k::.s H.n::.i .i64 H.m::cJ W.2.1::R.1.cells) (by rw[h];exact gh _) cN
    have sR:bH (AV.i IntKind.i64 H.k::AV.s H.n::AV.i IntKind.i64 H.m::cJ W.2.1::R.1.cells)=true:=by simp[Ex.eU tR.wf,(BM W.2.1).2]
    have O4:=((qO.keep u3 (by simp) (by simp)).keep f4 (by simp;omega) (λx hx=>.inl (by simp at hx;omega))).keep e7 (by simp;omega) (λx hx=>.inl (by simp at hx;omega));obtain⟨v',g',s5,w1,w2,w3,w4⟩:=O4.iW NW sR cN (by omega) L4.nx;have hgl:=qO.jd;have hB4:∀x,x∈g.toList->s.next<=x:=λx hx=>(hgl x (by simpa using hx)).1
    have L5:=L4.rq w3 (by simp) hB4 hro;obtain⟨al5,co5⟩:=L5.co;have hw:=c9 co5 6 [v'] (by simp) (by simp[w2.sc]);simp at hw;have k5:Kp [rO] [rO] s5 (s5.aG rO [.i .i64 k,.s nm,.i .i64 num,o3,o4,o5,v'] rO):=.aG (by simp) (by simp);have c5:(s5.aG rO [.i .i64 k,.s nm,.i .i64 num,o3,o4,o5,v'] rO).ce rO=So ([.i .i64 k,.s nm,.i .i64 num,o3,o4,o5,v'],rO,[rO]):=dA _ _ _;obtain⟨s6,hs6⟩:∃x,s5.aG rO [.i .i64 k,.s nm,.i .i64 num,o3,o4,o5,v'] rO=x:=⟨_,rfl⟩;rw[hs6]at hw k5 c5;have hz:=iL.M.z1;have L6:mA s s6 mr tr rO T R.2 sv S [.i .i64 k,.s nm,.i .i64 num,o3,o4,o5,v'] :=
     ⟨⟨_,c5⟩,L5.M.keep k5 (by simp;omega) (by simp;omega) (by simp;omega) (by simp;omega),L5.V.DY (Kp.qk k5 (by simp) (λx hx=>hx)) co5,mR L5.K k5 (by simp) (by simp),J4 L5.nx k5.next⟩
    have G6:fI s6 s.next 11 v' (i+1) (fh (acc++[([.i .i64 H.k,.s H.n,.i .i64 H.m,cJ W.2.1],R.1)])).flat:=by
     refine⟨g',λhh=>by omega,?_⟩;rw[wR];have hg':g'≠So rO:=by
      rcases w4 with rfl|⟨x,rfl,hx⟩
      ·exact λhh=>by have:=hgl rO hh;omega
      ·intro hh;cases hh;omega
     exact w2.keep k5 (by simp;omega) (λx hx=>.inr (by simp at hx;subst hx;exact hg'))
    have zz:bt π 133=So zu:=KH;simp[i138,i139,i140,iL.t0,iL.t2,e3,ix,ld,aB,zz,aC bQ bL,hce,u1,d3,f1,aY];rw[ft (fl:=[(1,14),(3,14),(5,14),(7,14)])]
    ·simp[iL.t0,iL.t7,i140,rO3,d0,d1,d2,aX,d4,e5,bo,bo2,w1,bN DP Sb,w2.cells,hw,e4];refine⟨_,_,⟨rfl,rfl⟩,by simp[i15],by simp[i138],by simp[i139],by simp,v',R.2,L6.ss (by simp[iL.t0]) (by simp[iL.t2]) (by simp[iL.t4]) (by simp[iL.t6]) (by simp[iL.t7]),acc++[([.i .i64 H.k,.s H.n,.i .i64 H.m,cJ W.2.1],R.1)],by simp[q1],G6,?_,by omega⟩;rw[q3,uD];rfl
    ·kernel_rfl
    ·intro R' hR';simp[iL.t0,iL.t7,rO3,d0,d1,d2,aX,d4,e5,bo,bo2,w1,bN DP Sb,w2.cells,hw]at hR';subst hR';simp only[Q9,J1,Q6,Q1];refine⟨cZ rfl rfl rfl (s:=s4) ?_,cZ rfl rfl rfl (s:=s4) ?_,cZ rfl rfl rfl (s:=s4) ?_,cZ rfl rfl rfl (s:=s4) ?_⟩
     ·simp[rO4]
     ·simp[g0]
     ·simp[g1]
     ·simp[g2])
   (by rintro t' s' ⟨i15,i138,i139,i140,v6,ni,iL,iB⟩;simp[i139,i140,aa.aF];refine⟨_,_,⟨rfl,rfl⟩,⟨v6,ni,⟨by simp[iL.t0],by simp[iL.t2],by simp[iL.t4],by simp[iL.t6],by simp[iL.t7],iL.co,iL.M,iL.V,iL.K⟩,iB⟩,by simp[i15]⟩)
  clear hL;exact⟨t1,s1,by simp,p0,p15⟩
 obtain⟨t',s',q1,⟨v6,ni,q2,acc,a1,a2,a4,a5⟩,a15⟩:=key;obtain⟨f,hf⟩:=uZ l;rw[hf]at a4;simp only[dz,zV]at a4;refine⟨t',s',v6,q1,?_,?_,q2.K,⟨acc,by rw[a4]⟩,a15⟩
 ·rw[a4];exact q2.fr h
 ·rw[a4,aa.aF];exact a2
theorem AA(h:fI s lo z v n cs):v.cells=So [v]/\bR v=true:=by obtain⟨g,-,h⟩:=h;exact⟨h.cells,h.sc⟩
theorem fI.oN(h:fI s lo z v n cs)(k:Kp [mr,tr,rO] [mr,rO] s s')(h1:mr<lo/\tr<lo/\rO<lo):fI s' lo z v n cs:=by
 have⟨g,h0,h⟩:=h;refine⟨g,h0,h.keep k (λx hx=>?_) (λx hx=>.inl ?_)⟩
 ·simp at hx;omega
 ·simp at hx;omega
theorem fI.AJ{B:List Nat}(h:fI s lo z v n cs)(k:Kp A B s s')(hA:∀x,x∈A->x<lo)(hB:∀x,x∈B->x<lo):fI s' lo z v n cs:=by have⟨g,h0,h⟩:=h;exact⟨g,h0,h.keep k hA (λx hx=>.inl (hB x hx))⟩
theorem fI.part{L:List (List AV×Ex)}(h:fI s lo z v l.len l.flat)(hl:l=fh L)(hn:n0<=lo)(hz:1<=z)(hT:l.Ty m):Fz n0 s v (l.slice z):=by
 subst hl;have⟨g,h0,h⟩:=h;rw[rA]at h h0;have⟨v',h1,h2⟩:=h.fz hn hz (fV.pure (aa.Au hT));rcases Z0 L.length with e|e
 ·have e1:=h0 e;subst e1;have:v'=.sn:=h1.uniq (.pure rfl);rw[<-NY (λ_=>this) h2];exact h1
 ·rw[<-NY (λhh=>by omega) h2];exact h1
def Ts(o:Out)(st:St)(mr tr rR:Nat)(T:List ae)(n:Nat)(y:Ex):Prop :=
 ∃t' s' cs,o=.rt t' s'/\ab t' 6=.p rR 0/\(∃al,s'.ce rR=So (cs,rR,al))/\cs.length=7/\fV st.next s' cs y.cells/\Kp [mr,tr] [mr] st s'/\Mk s' mr tr T n
theorem WN{v4 v6:AV}{pn:List ae}{lb la ll lt:aa}{Lb La Ll Lt:List (List AV×Ex)}{lo4 lo5 lo6:Nat}
  (h:fB st s t mr tr rE rR rO T n sv S x [.i .i64 k,.s nm,.i .i64 num,cJ pn,v4,v5,v6]) (h15:ab t 15=v15)
  (g4:fI s lo4 8 v4 lb.len lb.flat) (g5:fI s lo5 7 v5 la.len la.flat) (g6:fI s lo6 11 v6 ll.len ll.flat) (g15:fI s lo5 8 v15 lt.len lt.flat)
  (e4:lb=fh Lb) (e5:la=fh La) (e6:ll=fh Ll) (e15:lt=fh Lt) (t4:lb.Ty 1) (t5:la.Ty 0) (t6:ll.Ty 4) (t15:lt.Ty 1) (_:(Ex.mk k nm num (cJ pn) lb la ll).Ty)
  (q4:rO<lo4) (q5:rO<lo5) (q6:rO<lo6) (hm:lt.len<=1000000):
  Ts (ao (cH 11) ⟨π,Tw c N,Ff,f18.ntmps,N⟩ t s) st mr tr rR T n (jA lt (.mk k nm num (cJ pn) lb la ll)):=by
 have⟨l1,l2,l3,l4⟩:=h.lo;have⟨m1,m2⟩:=h.ml;have⟨al2,cr⟩:=h.cr;have⟨al3,co⟩:=h.co;have c4:=AA g4;have c5:=AA g5;have c6:=AA g6;have c15:=AA g15;have cp:=BM pn;have ro:rd s rO 0 7=So [.i .i64 k,.s nm,.i .i64 num,cJ pn,v4,v5,v6]:=by rw[ai co];rfl
 have sO:bH [.i .i64 k,.s nm,.i .i64 num,cJ pn,v4,v5,v6]=true:=by simp[c4.2,c5.2,c6.2,cp.2]
 have fzO:∀{s':St}{A B:List Nat},Kp A B s s'->(∀x,x∈A->x<=rO)->(∀x,x∈B->x<=rO)->fV st.next s' [.i .i64 k,.s nm,.i .i64 num,cJ pn,v4,v5,v6] (Ex.mk k nm num (cJ pn) lb la ll).cells:=by
  intro s' A B kk hA hB;unfold Ex.cells;have pp:aE (cJ pn)=true:=(Fw pn).pure (kR pn);refine .cons (.pure rfl) (.cons (.pure rfl) (.cons (.pure rfl) (.cons (.pure pp) (.cons ?_ (.cons ?_ (.cons ?_ .nil))))))
  ·exact(g4.AJ kk (λx hx=>by have:=hA x hx;omega) (λx hx=>by have:=hB x hx;omega)).part e4 (by omega) (by decide) t4
  ·exact(g5.AJ kk (λx hx=>by have:=hA x hx;omega) (λx hx=>by have:=hB x hx;omega)).part e5 (by omega) (by decide) t5
  ·exact(g6.AJ kk (λx hx=>by have:=hA x hx;omega) (λx hx=>by have:=hB x hx;omega)).part e6 (by omega) (by decide) t6
 have ln:∀s:St,cP π s [23] [v15]=So (.i .i64 (lt.len:Int),s):=λs=>by obtain⟨g,-,hg⟩:=g15;exact bg underlying23 hg.len.1 hg.len.2
 cases hlt:lt with
 |nil f=>
  rw[hlt]at ln;have hw:=c9 cr 0 [.i .i64 k,.s nm,.i .i64 num,cJ pn,v4,v5,v6] (by simp[jB]) sO;rw[pY,nU (by simp[jB])]at hw;have k2:Kp [rR] [rR] s (s.aG rR [.i .i64 k,.s nm,.i .i64 num,cJ pn,v4,v5,v6] rR):=.aG (by simp) (by simp);have key:∃t',ao (cH 11) ⟨π,Tw c N,Ff,f18.ntmps,N⟩ t s=.rt t' (s.aG rR [.i .i64 k,.s nm,.i .i64 num,cJ pn,v4,v5,v6] rR)/\ab t' 6=.p rR 0:=by simp[cH,ev,aw,f18,h15,ln,aa.len,h.t6,h.t7,aX,ro,aC cM aX,hw]
  have⟨t',k1,k3⟩:=key;exact⟨t',_,_,k1,k3,⟨_,dA _ _ _⟩,rfl,fzO k2 (by simp;omega) (by simp;omega),ey h.K k2 (by simp;omega) (by simp;omega),h.M.keep k2 (by simp;omega) (by simp;omega) (by simp;omega) (by simp;omega)⟩
 |cons p y r=>
  have hpos:0<lt.len:=by rw[hlt];simp[aa.len]
  have hpos':(0:Int)<(lt.len:Int):=by omega
  have bo:=λ(t:Tr AV) (hh:ah t (.tmp 175)=.ag [.i .i64 k,.s nm,.i .i64 num,cJ pn,v4,v5,v6])=>ef (S:=Tw c N) (st:=s) Ay (cs:=[.i .i64 k,.s nm,.i .i64 num,cJ pn,v4,v5,v6]) (by rw[hh];exact gh _) rfl
  have k1:=Kp.aj (st:=s) [] [] [.i .i64 k,.s nm,.i .i64 num,cJ pn,v4,v5,v6];have cn:=bq (st:=s) [.i .i64 k,.s nm,.i .i64 num,cJ pn,v4,v5,v6];obtain⟨s1,hs1⟩:∃x,s.aj [.i .i64 k,.s nm,.i .i64 num,cJ pn,v4,v5,v6]=x:=⟨_,rfl⟩;have n1:s1.next=s.next+1:=by rw[<-hs1];rfl
  rw[hs1]at bo k1 cn;have bo2:=λ(t:Tr AV) (h1:ah t (.tmp 174)=v15) (h2:ah t (.tmp 176)=.sl s.next 0 1 7 (So 1))=>UV (S:=Tw c N) (st:=s1) (t:=t) (x:=.const (.int .i64 7)) (Nd t .i64 7) h1 h2 c15.1 (by simp)
  have cr1:=k1.ce cr (by omega) (by omega) (by simp) (by simp);have hw:=c9 cr1 0 [.i .i64 7,.s [],.i .i64 0,.sn,v15,.sl s.next 0 1 7 (So 1),.sn] (by simp[jB]) (by simp[c15.2]);rw[pY,nU (by simp[jB])]at hw;have k2:Kp [rR] [rR] s1 (s1.aG rR [.i .i64 7,.s [],.i .i64 0,.sn,v15,.sl s.next 0 1 7 (So 1),.sn] rR):=.aG (by simp) (by simp);obtain⟨s2,hs2⟩:∃x,s1.aG rR [.i .i64 7,.s [],.i .i64 0,.sn,v15,.sl s.next 0 1 7 (So 1),.sn] rR=x:=⟨_,rfl⟩;have cr2:(s1.aG rR [.i .i64 7,.s [],.i .i64 0,.sn,v15,.sl s.next 0 1 7 (So 1),.sn] rR).ce rR=So ([.i .i64 7,.s [],.i .i64 0,.sn,v15,.sl s.next 0 1 7 (So 1),.sn],rR,[rR]):=dA _ _ _;rw[hs2]at hw k2 cr2;have key:∃t',ao (cH 11) ⟨π,Tw c N,Ff,f18.ntmps,N⟩ t s=.rt t' s2/\ab t' 6=.p rR 0:=by simp[cH,ev,aw,f18,h15,ln,hpos,h.t6,h.t7,aX,ro,bo,bo2,aC cM aX,hw]
  have⟨t',q1,q3⟩:=key;have kk:Kp [rR] [rR] s s2:=mR (AN k1) k2 (by simp) (by simp);refine⟨t',s2,_,q1,q3,⟨_,cr2⟩,rfl,?_,ey h.K kk (by simp;omega) (by simp;omega),h.M.keep kk (by simp;omega) (by simp;omega) (by simp;omega) (by simp;omega)⟩;have f15:=(g15.AJ kk (by simp;omega) (by simp;omega)).part (n0:=st.next) e15 (by omega) (by decide) t15;rw[hlt]at f15;have cn2:=k2.ce cn (by omega) (by omega) (by simp;omega) (by simp;omega);have fO:=Fz.slice (c:=So 1) (m:=1) (z:=7) cn2 rfl (by omega) (fzO kk (by simp;omega) (by simp;omega)) (by decide);have hce:(jA (.cons p y r) (.mk k nm num (cJ pn) lb la ll)).cells=[.i .i64 7,.s [],.i .i64 0,.sn,(aa.cons p y r).slice 8,.rs (Ex.mk k nm num (cJ pn) lb la ll).cells 1 7,.sn]:=by simp[jA,Ex.cells,aa.slice,aa.flat,aa.len]
  rw[hce];exact .cons (.pure rfl) (.cons (.pure rfl) (.cons (.pure rfl) (.cons (.pure rfl) (.cons f15 (.cons fO (.cons (.pure rfl) .nil))))))
theorem Rb{k:Tmp}(h:ab t k=v)(hv:v≠.un):oW P t st (.cell k ty)=loadAt P ty st v:=by
 unfold ab at h;show(match t.get k with|some v=>loadAt P ty st v|none=>No)=_
 cases hk:t.get k with
 |none=>rw[hk]at h;exact absurd h.symm hv
 |some u=>rw[hk]at h;subst h;rfl
theorem WU(h6:ab t' 6=.p rR 0)(hc:s'.ce rR=So (cs,rR,al))(hl:cs.length=7):fN π f18.results.toList (.rt t' s')=So (.ag cs,s'):=by
 have r:rd s' rR 0 7=So cs:=by rw[ai hc,eV,<-hl,gY]
 have r1:oW π t' s' (.cell 6 47)=So (.ag cs):=by rw[Rb h6 (by simp),cu cM gT,aX,r];rfl
 simp[f18,bf,aO,r1]
theorem abh:∀x,Cq c x:=by
 refine Ex.ind λk nm num ps b a l hb ha hl=>?_
 intro hT hs st mr tr n T sv S N hM hS hp hN;cases N
 ·omega
 rename_i N;have hsz:(Ex.mk k nm num ps b a l).size=1+b.size+a.size+l.size:=by simp only[Ex.size]
 have hTy:=hT;simp only[Ex.Ty]at hT;obtain⟨hkb,hps,hTb,hTa,hTl⟩:=hT;simp only[Ex.wt]at hp;have hbl:=b.cq;have hal:=a.cq;have pn:=oO T n
 suffices hh:∃t' s' rR cs,ao ev ⟨π,Tw c N,Ff,f18.ntmps,N⟩ (tmpsOf [.p mr 0,.ag (Ex.mk k nm num ps b a l).cells,sv] 0 .lf) st=.rt t' s'/\ab t' 6=.p rR 0/\(∃al,s'.ce rR=So (cs,rR,al))/\cs.length=7/\fV st.next s' cs (bm T (.mk k nm num ps b a l) S n).1.cells/\Kp [mr,tr] [mr] st s'/\Mk s' mr tr T (bm T (.mk k nm num ps b a l) S n).2 by
  obtain⟨t',s',rR,cs,h1,h2,⟨al',h3⟩,h4,h5,h6,h7⟩:=hh;have he:aJ c N f18 (f18.body.getD .skip) [.p mr 0,.ag (Ex.mk k nm num ps b a l).cells,sv] st=So (.ag cs,s'):=by unfold aJ;rw[show(f18.body.getD .skip)=ev from rfl,h1];exact WU h2 h3 h4
  exact⟨s'.shut st.next,wq rfl rfl rfl rfl rfl (by decide) func18 rfl (J3 rfl) he (.ag h5),h7.shut hM.mrl,h6.shut (Q0 _)⟩
 obtain⟨t0,s0,rE,rR,rO,a0,h0⟩:=WV k nm num ps b a l hM hS;rw[a0];by_cases hk:k=1
 ·subst hk;obtain⟨t1,s1,b1,b2,b3,b4,b5⟩:=WW (c:=c) h0 (N:=N);rw[b1];have e:bm T (.mk 1 nm num ps b a l) S n=(.mk 1 ((S nm).getD nm) num .sn (.nil Tt) (.nil Tt) (.nil Tt),n):=by rw[bm,if_pos rfl]
  rw[e];refine⟨t1,s1,rR,_,rfl,b2,b3,rfl,?_,b4,b5⟩;have:(Ex.mk 1 ((S nm).getD nm) num .sn (.nil Tt) (.nil Tt) (.nil Tt)).cells=[.i .i64 1,.s ((S nm).getD nm),.i .i64 num,.sn,.sn,.sn,.sn]:=by simp[Ex.cells,aa.slice]
  rw[this];exact .pure rfl
 ·obtain⟨t1,b1,h1⟩:=WS (c:=c) hk h0 (N:=N);rw[b1,dN];have w1:=sw T (aL ps) S n;obtain⟨t2,s2,sv2,b2,h2⟩:=WT (c:=c) hps (by omega) (by omega) h1 (N:=N) (by omega);obtain⟨W1,hW1⟩:∃W,aI T S (aL ps) n=W:=⟨_,rfl⟩;rw[hW1]at w1 h2;obtain⟨t3,b3,b3',h3⟩:=WQ (c:=c) h2 (N:=N);obtain⟨t4,s4,b4,h4,b4'⟩:=WO (c:=c) hTb (by omega) h3 b3' (N:=N) (by omega);have w2:=sw T b.names W1.1 W1.2.2;have w2l:=xH T b.names W1.1 W1.2.2;rw[fg]at w2 w2l;obtain⟨t5,s5,sv5,b5,h5,b5'⟩:=WM (c:=c) (l:=b.names) (by rw[fg];omega) (by rw[fg];omega) h4 b4' (N:=N) (by omega);obtain⟨W2,hW2⟩:∃W,aI T W1.1 b.names W1.2.2=W:=⟨_,rfl⟩;rw[hW2]at w2 w2l h5 b5';have w3:=Br T b W2.1 W2.2.1 W2.2.2;have y3:=Bs T b W2.1 W2.2.1 W2.2.2 hTb;have z3:=Jh T b W2.1 W2.2.1 W2.2.2;obtain⟨t6,s6,v4,b6,h6,g6,k6,⟨Lb,hLb⟩⟩:=WL (c:=c) hTb (by omega) hb w2l h5 b5' (by omega) (N:=N) (by omega);obtain⟨RB,hRB⟩:∃W,cy T b W2.1 W2.2.1 W2.2.2=W:=⟨_,rfl⟩;rw[hRB]at w3 y3 z3 h6 g6 hLb;obtain⟨t7,b7,b7',h7⟩:=WR (c:=c) h6 (N:=N);have w4:=Bq T a W2.1 (fm strF k nm a.len) 0 RB.2;have y4:=ER T a W2.1 (fm strF k nm a.len) 0 RB.2 hTa;have z4:=EP T a W2.1 (fm strF k nm a.len) 0 RB.2;obtain⟨t8,s8,b8,v5,n8,L8,La,Lt,g5,g15,q1,q1',qG,q3,q4⟩:=WK (c:=c) hTa (by omega) ha h7 b7' (by omega) (N:=N) (by omega);obtain⟨RA,hRA⟩:∃W,bM T a W2.1 (fm strF k nm a.len) 0 RB.2=W:=⟨_,rfl⟩;rw[hRA]at w4 y4 z4 q3;obtain⟨fa,hfa⟩:=uZ a;rw[hfa]at q3;simp only[bM,zV]at q3;have h8:=L8.fr h7;have hA1:RA.1=fh La:=by rw[q3]
  have hA2:RA.2.1=fh Lt:=by rw[q3]
  have hA3:RA.2.2=n8:=by rw[q3]
  have ga:fI s8 s6.next 7 v5 RA.1.len RA.1.flat:=⟨g5,by rw[hA1,rA,q1];exact qG.z5,by rw[hA1,rA,q1];exact qG.o5⟩;have gt:fI s8 s6.next 8 (ab t8 15) RA.2.1.len RA.2.1.flat:=⟨g15,by rw[hA2,rA];exact qG.z15,by rw[hA2,rA];exact qG.o15⟩;rw[<-hA3]at h8;have w5:=EV T l W2.1 RA.2.2;have y5:=Jq T l W2.1 RA.2.2 hTl;obtain⟨t9,s9,v6,b9,h9,g9,k9,⟨Ll,hLl⟩,b9'⟩:=WJ (c:=c) hTl (by omega) hl h8 rfl (by omega) (N:=N) (by omega);obtain⟨RL,hRL⟩:∃W,dz T l W2.1 RA.2.2=W:=⟨_,rfl⟩;rw[hRL]at w5 y5 h9 g9 hLl;have lo5:=h5.lo;have lo6:=h6.lo;have lo8:=h8.lo;have m:=h5.ml;have kk:=L8.K;have g4':=(g6.oN kk ⟨by omega,by omega,by omega⟩).oN k9 ⟨by omega,by omega,by omega⟩;rw[z3.symm]at g4';have ga':=ga.oN k9 ⟨by omega,by omega,by omega⟩;have gt':=gt.oN k9 ⟨by omega,by omega,by omega⟩;have zl:=Jp T l W2.1 RA.2.2;rw[hRL]at zl;rw[zl.symm]at g9;have tO:(Ex.mk k nm num (cJ W1.2.1) RB.1 RA.1 RL.1).Ty:=by simp only[Ex.Ty];exact⟨hkb,JQ (by rw[<-hW1,xH];exact Im hps),y3,y4.1,y5⟩
  obtain⟨tE,sE,cs,c1,c2,c3,c4,c5,c6,c7⟩:=WN (c:=c) h9 b9' g4' ga' g9 gt' hLb hA1 hLl hA2 y3 y4.1 y5 y4.2 tO (by omega) (by omega) (by omega) (by rw[hA2,rA,aa.aF]at *;omega) (N:=N);have e:bm T (.mk k nm num ps b a l) S n=(jA RA.2.1 (.mk k nm num (cJ W1.2.1) RB.1 RA.1 RL.1),RL.2):=by rw[bm,if_neg hk];simp only[hW1,hW2,hRB,hRA,hRL]
  rw[e];refine⟨tE,sE,rR,cs,?_,c2,c3,c4,c5,c6,c7⟩;rw[show ao (aw (aw (aw ev))) ⟨π,Tw c N,Ff,f18.ntmps,N⟩ t1 s0=bW (ao (au (cH 3)) ⟨π,Tw c N,Ff,f18.ntmps,N⟩ t1 s0) (ao (cH 4) ⟨π,Tw c N,Ff,f18.ntmps,N⟩) from rfl,b2,dN];rw[show ao (cH 4) ⟨π,Tw c N,Ff,f18.ntmps,N⟩ t2 s2=bW (ao (au (cH 4)) ⟨π,Tw c N,Ff,f18.ntmps,N⟩ t2 s2) (ao (cH 5) ⟨π,Tw c N,Ff,f18.ntmps,N⟩) from rfl,b3,dN];rw[show ao (cH 5) ⟨π,Tw c N,Ff,f18.ntmps,N⟩ t3 s2=bW (ao (au (cH 5)) ⟨π,Tw c N,Ff,f18.ntmps,N⟩ t3 s2) (ao (cH 6) ⟨π,Tw c N,Ff,f18.ntmps,N⟩) from rfl,b4,dN];rw[show ao (cH 6) ⟨π,Tw c N,Ff,f18.ntmps,N⟩ t4 s4=bW (ao (au (cH 6)) ⟨π,Tw c N,Ff,f18.ntmps,N⟩ t4 s4) (ao (cH 7) ⟨π,Tw c N,Ff,f18.ntmps,N⟩) from rfl,b5,dN];rw[show ao (cH 7) ⟨π,Tw c N,Ff,f18.ntmps,N⟩ t5 s5=bW (ao (au (cH 7)) ⟨π,Tw c N,Ff,f18.ntmps,N⟩ t5 s5) (ao (cH 8) ⟨π,Tw c N,Ff,f18.ntmps,N⟩) from rfl,b6,dN];rw[show ao (cH 8) ⟨π,Tw c N,Ff,f18.ntmps,N⟩ t6 s6=bW (ao (au (cH 8)) ⟨π,Tw c N,Ff,f18.ntmps,N⟩ t6 s6) (ao (cH 9) ⟨π,Tw c N,Ff,f18.ntmps,N⟩) from rfl,b7,dN];rw[show ao (cH 9) ⟨π,Tw c N,Ff,f18.ntmps,N⟩ t7 s6=bW (ao (au (cH 9)) ⟨π,Tw c N,Ff,f18.ntmps,N⟩ t7 s6) (ao (cH 10) ⟨π,Tw c N,Ff,f18.ntmps,N⟩) from rfl,b8,dN];rw[show ao (cH 10) ⟨π,Tw c N,Ff,f18.ntmps,N⟩ t8 s8=bW (ao (au (cH 10)) ⟨π,Tw c N,Ff,f18.ntmps,N⟩ t8 s8) (ao (cH 11) ⟨π,Tw c N,Ff,f18.ntmps,N⟩) from rfl,b9,dN];exact c1
theorem RN{k:Bool}(h:P.underlying ty=So (.slice e)):Go.Ev.binOp P ty k .eql .sn .sn=So (.b Tt):=by
 show kc P ty k .eql .sn .sn=_
 grind[kc,lC,gK,lB,AV.yE,orElse]
theorem JR{k:Bool}(h:P.underlying ty=So (.slice e)):Go.Ev.binOp P ty k .eql (.rs cs n z) .sn=So (.b Ff):=by
 show kc P ty k .eql (.rs cs n z) .sn=_
 grind[kc,lC,gK,lB,AV.yE,orElse]
def mY(s:St)(lo z:Nat)(cv v:AV):Prop:=(cv=.sn/\v=.sn)\/∃cs n g,cv=.rs cs n z/\v≠.sn/\bD s lo z v n cs g/\aA cs=Tt
theorem mY.keep{s s':St}{lo z:Nat}{cv v:AV}{A B:List Nat}(h:mY s lo z cv v)(k:Kp A B s s')(hA:∀x,x∈A->x<lo)(hB:∀x,x∈B->x<lo):mY s' lo z cv v:=by
 rcases h with h|⟨cs,n,g,h1,h2,h3,h4⟩
 ·exact .inl h
 ·exact .inr ⟨cs,n,g,h1,h2,h3.keep k hA (λx hx=>.inl (hB x hx)),h4⟩
theorem mY.cells{s:St}{lo z:Nat}{cv v:AV}(h:mY s lo z cv v):v.cells=So [v]/\bR v=true:=by
 rcases h with ⟨-,rfl⟩|⟨cs,n,g,h1,h2,h3,h4⟩
 ·simp
 ·exact⟨h3.cells,h3.sc⟩
theorem mY.fz(h:mY s lo z cv v)(hn:n0<=lo)(_:1<=z):Fz n0 s v cv:=by
 rcases h with ⟨rfl,rfl⟩|⟨cs,n,g,rfl,h2,h3,h4⟩
 ·exact .pure rfl
 ·rcases h3 with ⟨rfl,-⟩|⟨r,rfl,rfl,rfl,-⟩|⟨r,f,al,-,rfl,k1,k2,k3,k4,k5,k6,k7⟩
  ·exact absurd rfl h2
  ·exact .rY
  ·exact .slice k1 k2.symm (by omega) (.pure h4) (by omega)
theorem aaQ(h:bD s lo z v n cs g)(hv:v≠.sn)(hp:aA cs=Tt):im [] s v (.rs cs n z):=by
 rcases h with ⟨rfl,-⟩|⟨r,rfl,rfl,rfl,-⟩|⟨r,f,al,-,rfl,k1,k2,k3,k4,k5,k6,k7⟩
 ·grind
 ·exact .rY
 ·exact .slice k1 k2.symm k6 k7 (by simp) (by simp) (.pure hp) (by omega)
theorem fI.vH{L:List (List AV×Ex)}(h:fI s lo z v l.len l.flat)(hl:l=fh L)(hT:l.Ty m):im [] s v (l.slice z):=by
 subst hl;have⟨g,h0,h⟩:=h;rw[rA]at h h0;rcases Z0 L.length with e|e
 ·rw[h0 e];have:L=[]:=Q7 e;subst this;exact .pure rfl
 ·have hv:v≠.sn:=by
   rintro rfl;rcases h with ⟨-,h,-⟩|⟨r,h,-⟩|⟨r,f,al,-,h,-⟩
   ·omega
   ·cases h
   ·cases h
  grind[aaQ,aa.Au,aa.dR,rA]
def Ti(o:Option (AV×St))(st:St)(cv:AV):Prop:=∃v s',o=So (v,s')/\mY s' st.next 4 cv v/\Kp [] [] st s'
theorem GU{S:Self}{ty e:Nat}(T:gz P ty e z):cO (.buildSlice ty 0 #[]) P S t st=So (.sl st.next 0 0 z (So 0),st.aj []):=by
 have⟨zs,hz,hzl⟩:=T.zero;show(match dO P ty with
 |none=>No
 |some e=>match bt P e with
  |none=>No
  |some z=>(@Bool.rec (λ_=>aD) No (yC st 0 (aq P e) (fill (nV (aq P e)) (rep 0 z) (eB t []))) (Nat.ble (0*aq P e) 16777216)))=_
 rw[T.el];simp only[hz,T.sl.sz,Z3];rfl
theorem Ug{ty e:Nat}(T:gz P ty e z):fD P st [ty,ty] [.sl r 0 0 z (So 0),.rs [] 0 z]=So (.sl r 0 0 z (So 0),st):=by
 have e0:(tI P [ty,ty]&&aN P e&&bH [])=true:=by rw[T.plain,T.sl.inf];rfl
 have eb:fD P st [ty,ty] [.sl r 0 0 z (So 0),.rs [] 0 z]=append P st [ty,ty] (.sl r 0 0 z (So 0)) (.rs [] 0 z):=by
  show wj P st [ty,ty] _ _ (gO (.rs [] 0 z))=_
  rw[show gO (.rs [] 0 z)=No from rfl];show pH P st [ty,ty] _ (append P st [ty,ty] _ _)=_
  unfold pH;rw[T.ty0]
 rw[eb];have h1:lenOf (.rs [] 0 z)=So 0:=rfl;have h2:firstCells st z 0 (.rs [] 0 z)=So []:=by
  show cut [] 0 (0*z)=_
  rw[Z3];rfl
 unfold append;simp only[T.el,h1,T.sl.sz,h2,e0];simp[ ]
theorem Mw(hv:fq cv ds)(hl:ds.length<=1000000)(hN:1<=N):Ti ((Tw c N).call 17 [cv] st) st cv:=by
 cases N
 ·omega
 rename_i N;rw[dV rfl func17 rfl (J3 rfl)];unfold aJ;obtain⟨hv,hz⟩:=hv;rcases hv with ⟨rfl,-⟩|rfl
 ·refine⟨.sn,st,?_,.inl ⟨rfl,rfl⟩,.refl _ _ _⟩;simp_all[RN]
 ·have hlen:(ds.map bG.cells).flatten.length=ds.length*4:=by
   clear hz hl;induction ds with
   |nil=>rfl
   |cons d ds ih=>simp_all[bG.cells,Nat.add_mul]
  have hsc:bH (ds.map bG.cells).flatten=true:=by
   induction ds with
   |nil=>rfl
   |cons d ds ih=>grind[jk,yW]
  have hO:bD (st.aj []) st.next 4 (.sl st.next 0 0 4 (So 0)) 0 [] none:=.inr (.inl ⟨_,rfl,rfl,rfl,rfl⟩);cases hds:ds with
  |nil=>
   refine⟨_,_,?_,.inr ⟨[],0,No,by simp,?_,hO,rfl⟩,.aj _ _ _⟩
   ·simp[f17,JR underlying22,GU DK,Ug DK]
   grind
  |cons d0 ds0=>
   rw[<-hds];have hc:firstCells (st.aj []) 4 ds.length (.rs (ds.map bG.cells).flatten ds.length 4)=So (ds.map bG.cells).flatten:=by
    show cut _ 0 (ds.length*4)=_
    rw[eV,<-hlen,gY]
   obtain⟨v',g',s',w1,w2,w3,w4⟩:=hO.app DK rfl hc rfl hsc hlen (by omega) (Z4 _);refine⟨v',s',?_,.inr ⟨_,_,g',by grind,?_,w2,pure_cons ds⟩,(Kp.aj _ _ _).trans w3⟩
   ·simp[f17,JR underlying22,GU DK,w1]
   ·rintro rfl;rcases w2 with ⟨-,e,-⟩|⟨r,e,-⟩|⟨r,f,al,-,e,-⟩
    ·rw[hds]at e;cases e
    ·cases e
    ·cases e
def po(s:St)(lo hi z:Nat)(cv v:AV):Prop:=(cv=.sn/\v=.sn)\/(∃r,v=.sl r 0 0 z (So 0)/\cv=.rs [] 0 z)\/∃r f al cs n,v=.sl r 0 n z No/\cv=.rs cs n z/\s.ce r=So (cs,f,al)/\cs.length=n*z/\1<=n/\lo<=r/\lo<=f/\r<hi/\f<hi/\hi<=s.next/\aA cs=Tt
theorem mY.w(h:mY s lo z cv v):po s lo s.next z cv v:=by
 rcases h with h|⟨cs,n,g,rfl,h2,h3,h4⟩
 ·exact .inl h
 ·rcases h3 with ⟨rfl,-⟩|⟨r,rfl,rfl,rfl,-⟩|⟨r,f,al,-,rfl,k1,k2,k3,k4,k5,k6,k7⟩
  ·exact absurd rfl h2
  ·exact .inr (.inl ⟨r,rfl,rfl⟩)
  ·exact .inr (.inr ⟨r,f,al,cs,n,rfl,rfl,k1,k2,k3,k4,k5,k6,k7,Q0 _,h4⟩)
theorem po.keep{B:List Nat}(h:po s lo hi z cv v)(k:Kp A B s s')(hA:∀x,x∈A->x<lo\/hi<=x)(hB:∀x,x∈B->x<lo\/hi<=x):po s' lo hi z cv v:=by
 rcases h with h|h|⟨r,f,al,cs,n,h1,h2,h3,h4,h5,h6,h7,h8,h9,h10,h11⟩
 ·exact .inl h
 ·exact .inr (.inl h)
 ·exact .inr (.inr ⟨r,f,al,cs,n,h1,h2,k.ce h3 (by omega) (by omega) (λhh=>by have:=hA _ hh;omega) (λhh=>by have:=hB _ hh;omega),h4,h5,h6,h7,h8,h9,J4 h10 k.next,h11⟩)
theorem po.cells{s:St}{lo hi z:Nat}{cv v:AV}(h:po s lo hi z cv v):v.cells=So [v]/\bR v=true:=by rcases h with ⟨-,rfl⟩|⟨r,rfl,-⟩|⟨r,f,al,cs,n,rfl,-⟩<;>simp
theorem po.fz(h:po s lo hi z cv v)(hn:n0<=lo):Fz n0 s v cv:=by
 rcases h with ⟨rfl,rfl⟩|⟨r,rfl,rfl⟩|⟨r,f,al,cs,n,rfl,rfl,h3,h4,h5,h6,h7,h8,h9,h10,h11⟩
 ·exact .pure rfl
 ·exact .rY
 ·exact .slice h3 h4.symm (by omega) (.pure h11) (by omega)
theorem po.vH(h:po s lo hi z cv v):im [] s v cv:=by
 rcases h with ⟨rfl,rfl⟩|⟨r,rfl,rfl⟩|⟨r,f,al,cs,n,rfl,rfl,h3,h4,h5,h6,h7,h8,h9,h10,h11⟩
 ·exact .pure rfl
 ·exact .rY
 ·exact .slice h3 h4.symm (by omega) (by omega) (by simp) (by simp) (.pure h11) (by omega)
def qu(c:Option Self)(cv:AV)(l:aa)(e:Int):Prop:=∀(st:St) (x:AV) (N:Nat),1<=N->im [] st x (.ag [cv,l.slice 8])->(Tw c N).call 16 [x] st=So (.i .i64 e,st)
theorem KC:eC π 25=true:=by kernel_rfl
theorem xK:bt π 25=So [.sn,.sn]:=by kernel_rfl
theorem I4:∃fs,π.underlying 25=So (.struct fs)/\gP π fs 0=So (0,1)/\gP π fs 1=So (1,1):=⟨_,underlying25,by kernel_rfl,by kernel_rfl⟩
theorem UT{S:Self}{x:Operand}(hx:ah t x=v)(hv:v.cells=So [v]):cO (.build 25 #[(0,x)]) π S t st=So (.ag [v,.sn],st):=by
 have⟨fs,h1,h2,h3⟩:=I4;show @Bool.rec (λ_=>aD) No (cI π 25 [(0,ah t x)] st) (eC π 25)=_
 rw[KC,hx];show cI π 25 _ st=_
 unfold cI;rw[h1];simp only[xK,jc,fill,h2,hv];rfl
theorem Mg{S:Self}:cO (.build 25 #[]) π S t st=So (.ag [.sn,.sn],st):=by
 have⟨fs,h1,h2,h3⟩:=I4;show @Bool.rec (λ_=>aD) No (cI π 25 [] st) (eC π 25)=_
 rw[KC];show cI π 25 _ st=_
 unfold cI;rw[h1];simp only[xK,jc,fill];rfl
theorem ad6:eC π 60=true:=by kernel_rfl
theorem aeh:bt π 60=So [.mn,.i .i64 0]:=by kernel_rfl
theorem aa7:∃fs,π.underlying 60=So (.struct fs)/\gP π fs 0=So (0,1):=⟨_,underlying60,by kernel_rfl⟩
theorem UX{S:Self}{x:Operand}(hx:ah t x=.m r):cO (.build 60 #[(0,x)]) π S t st=So (.ag [.m r,.i .i64 0],st):=by
 have⟨fs,h1,h2⟩:=aa7;show @Bool.rec (λ_=>aD) No (cI π 60 [(0,ah t x)] st) (eC π 60)=_
 rw[ad6,hx];show cI π 60 _ st=_
 unfold cI;rw[h1];simp only[aeh,jc,fill,h2,Mr];rfl
noncomputable def dy:Nat->Code
 |0=>f7.body.getD .skip
 |k+1=>aw (dy k)
structure F6(st s:St)(t:Tr AV)(r1 r2:Nat)(cv bv:AV):Prop where
 t1:ab t 1=.p r1 0
 t2:ab t 2=.p r2 0
 c1:∃al,s.ce r1=So ([cv,bv],r1,al)
 c2:∃al,s.ce r2=So ([.sn,.sn],r2,al)
 lo:st.next<=r1/\r1<r2/\r2<s.next
 K:Kp [] [] st s
theorem F6.keep{r1:Nat}{B:List Nat}(h:F6 st s t r1 r2 cv bv)(k:Kp A B s s')(hA:∀x,x∈A->r2<x)(hB:∀x,x∈B->r2<x)(h1:ab t' 1=.p r1 0)(h2:ab t' 2=.p r2 0):F6 st s' t' r1 r2 cv bv:=by have⟨l1,l2,l3⟩:=h.lo;have⟨a1,c1⟩:=h.c1;have⟨a2,c2⟩:=h.c2;have:=k.next;exact⟨h1,h2,⟨a1,k.ce c1 (by omega) (by omega) (λhh=>by have:=hA _ hh;omega) (λhh=>by have:=hB _ hh;omega)⟩,⟨a2,k.ce c2 (by omega) (by omega) (λhh=>by have:=hA _ hh;omega) (λhh=>by have:=hB _ hh;omega)⟩,⟨l1,l2,by omega⟩,ey h.K k (λx hx=>by have:=hA _ hx;omega) (λx hx=>by have:=hB _ hx;omega)⟩
theorem Xe{e:Int}(hcs:cv.cells=So [cv]/\bR cv=Tt/\aE cv=Tt)(hb:b.Ty 1)(hC:qu c cv b e)(hN:1<=N):
  (e≠0->∃t s r2,ao (dy 0) ⟨π,Tw c N,Ff,f7.ntmps,N⟩ (tmpsOf [.ag [cv,b.slice 8]] 0 .lf) st=.rt t s/\ab t 2=.p r2 0/\(∃al,s.ce r2=So ([.sn,.sn],r2,al))/\ab t 3=.i .i64 e/\Kp [] [] st s)/\
  (e=0->∃t s r1 r2,ao (dy 0) ⟨π,Tw c N,Ff,f7.ntmps,N⟩ (tmpsOf [.ag [cv,b.slice 8]] 0 .lf) st=ao (dy 2) ⟨π,Tw c N,Ff,f7.ntmps,N⟩ t s/\F6 st s t r1 r2 cv (b.slice 8)):=by
 have c1:=bq (st:=st) [cv,b.slice 8];have k1:=Kp.aj (st:=st) [] [] [cv,b.slice 8];obtain⟨s1,hs1⟩:∃s,st.aj [cv,b.slice 8]=s:=⟨_,rfl⟩;have n1:s1.next=st.next+1:=by rw[<-hs1];rfl
 rw[hs1]at c1 k1;have c2:=bq (st:=s1) [.sn,.sn];have k2:=Kp.aj (st:=s1) [] [] [.sn,.sn];obtain⟨s2,hs2⟩:∃s,s1.aj [.sn,.sn]=s:=⟨_,rfl⟩;have n2:s2.next=s1.next+1:=by rw[<-hs2];rfl
 rw[hs2]at c2 k2;have c1':=k2.ce c1 (by omega) (by omega) (by simp) (by simp);have ra:rd s2 st.next 0 2=So [cv,b.slice 8]:=by rw[ai c1'];rfl
 have ck:=hC s2 (.ag [cv,b.slice 8]) N hN (.pure (by simp[aE,aA,hcs.2.2,aa.tQ hb 8]));have a0:∃t,ao (au (dy 0)) ⟨π,Tw c N,Ff,f7.ntmps,N⟩ (tmpsOf [.ag [cv,b.slice 8]] 0 .lf) st=.nx t s2/\ab t 1=.p st.next 0/\ab t 2=.p s1.next 0:=by simp[dy,au,f7,aB,xK,hs1,hs2]
 have⟨t1,a0,b1,b2⟩:=a0;rw[show ao (dy 0) ⟨π,Tw c N,Ff,f7.ntmps,N⟩ (tmpsOf [.ag [cv,b.slice 8]] 0 .lf) st=bW (ao (au (dy 0)) ⟨π,Tw c N,Ff,f7.ntmps,N⟩ (tmpsOf [.ag [cv,b.slice 8]] 0 .lf) st) (λt s=>bW (ao (au (dy 1)) ⟨π,Tw c N,Ff,f7.ntmps,N⟩ t s) (ao (dy 2) ⟨π,Tw c N,Ff,f7.ntmps,N⟩)) from rfl,a0,dN];constructor
 ·intro he;have hw:=c9 c2 0 [.sn,.sn] (by simp) (by simp);simp at hw;have k3:Kp [s1.next] [s1.next] s2 (s2.aG s1.next [.sn,.sn] s1.next):=.aG (by simp) (by simp);have a1:∃t,ao (au (dy 1)) ⟨π,Tw c N,Ff,f7.ntmps,N⟩ t1 s2=.rt t (s2.aG s1.next [.sn,.sn] s1.next)/\ab t 2=.p s1.next 0/\ab t 3=.i .i64 e:=by
   simp[dy,au,aw,f7,b1,b2,gC,ra,ck,he,Mg,aC nO gC,hw]
  have⟨t2,a1,d2,d3⟩:=a1;rw[a1,adk];exact⟨t2,_,s1.next,rfl,d2,⟨_,dA _ _ _⟩,d3,ey (k1.trans k2) k3 (by simp;omega) (by simp;omega)⟩
 ·intro he;subst he;have a1:∃t,ao (au (dy 1)) ⟨π,Tw c N,Ff,f7.ntmps,N⟩ t1 s2=.nx t s2/\ab t 1=.p st.next 0/\ab t 2=.p s1.next 0:=by
   simp[dy,au,aw,f7,b1,b2,gC,ra,ck]
  have⟨t2,a1,d1,d2⟩:=a1;rw[a1,dN];exact⟨t2,s2,st.next,s1.next,rfl,d1,d2,⟨_,c1'⟩,⟨_,c2⟩,⟨Q0 _,by omega,by omega⟩,k1.trans k2⟩
theorem Xd{r1:Nat}(h:F6 st s t r1 r2 cv bv):
  ∃t' s' mr tr,ao (au (dy 2)) ⟨π,Tw c N,Ff,f7.ntmps,N⟩ t s=.nx t' s'/\F6 st s' t' r1 r2 cv bv/\ab t' 5=.p mr 0/\(∃al,s'.ce mr=So ([.m tr,.i .i64 0],mr,al))/\bZ s' tr (ig [])/\tr=s.next/\mr=s.next+1/\mr<s'.next:=by
 have m0:=bZ.new s;have k1:=Kp.new (st:=s) [] [] (.mp [] 0);obtain⟨s1,hs1⟩:∃x,s.new (.mp [] 0)=x:=⟨_,rfl⟩;have n1:s1.next=s.next+1:=by rw[<-hs1];rfl
 rw[hs1]at m0 k1;have bo:=λ(t:Tr AV) (hx:ah t (.tmp 18)=.m s.next)=>UX (st:=s1) (S:=Tw c N) hx
 have c2:=bq (st:=s1) [.m s.next,.i .i64 0];have k2:=Kp.aj (st:=s1) [] [] [.m s.next,.i .i64 0];obtain⟨s2,hs2⟩:∃x,s1.aj [.m s.next,.i .i64 0]=x:=⟨_,rfl⟩;have n2:s2.next=s1.next+1:=by rw[<-hs2];rfl
 rw[hs2]at c2 k2;have key:∃t',ao (au (dy 2)) ⟨π,Tw c N,Ff,f7.ntmps,N⟩ t s=.nx t' s2/\ab t' 1=.p r1 0/\ab t' 2=.p r2 0/\ab t' 5=.p s1.next 0:=by simp[dy,au,aw,f7,h.t1,h.t2,hs1,bo,hs2]
 have⟨t',q0,q1,q2,q3⟩:=key;exact⟨t',s2,s1.next,s.next,q0,h.keep (k1.trans k2) (by simp) (by simp) q1 q2,q3,⟨_,c2⟩,A5 (m0.keep k2 (by omega) (by simp)) (λx=>by simp[ig]),rfl,n1,by omega⟩
theorem Xf{r1:Nat}(hb:b.Ty 1)(hl:b.len<=1000000)(h:F6 st s t r1 r2 cv (b.slice 8))(h5:ab t 5=.p mr 0)(hm:∃al,s.ce mr=So ([.m tr,.i .i64 0],mr,al))(hM:bZ s tr (ig []))(hr:r2<tr/\tr<mr/\mr<s.next)(hT:pD s)(_:0<st.next)(hN:2000000<=N):
  ∃t' s',ao (au (dy 3)) ⟨π,Tw c N,Ff,f7.ntmps,N⟩ t s=.nx t' s'/\F6 st s' t' r1 r2 cv (b.slice 8)/\ab t' 5=.p mr 0/\Mk s' mr tr b.names 0/\s.next<=s'.next:=by
 have⟨l1,l2,l3⟩:=h.lo;have⟨a1,c1⟩:=h.c1;have⟨am,cm⟩:=hm;have rb:rd s r1 1 1=So [b.slice 8]:=by rw[ai c1];rfl
 have ln:=λst:St=>bg (st:=st) underlying23 (b.bU 8) (b.bV 8)
 have key:∃t' s',ao (au (dy 3)) ⟨π,Tw c N,Ff,f7.ntmps,N⟩ t s=.nx t' s'/\ab t' 1=.p r1 0/\ab t' 2=.p r2 0/\ab t' 5=.p mr 0/\bZ s' tr (ig b.names)/\Kp [tr] [] s s':=by
  simp[dy,au,aw,f7,h.t1,rb,ln,ba];generalize hL:aQ _ _ _ _=L;obtain⟨t1,s1,rfl,p1,p2,p5,pM,pK⟩:=cD hL 0 b.list.length
   (λi t' s'=>ab t' 1=.p r1 0/\ab t' 2=.p r2 0/\ab t' 5=.p mr 0/\ab t' 22=b.slice 8/\ab t' 23=.i .i64 (b.len:Int)/\ab t' 24=.i .i64 (i:Int)/\bZ s' tr (ig (b.names.take i))/\Kp [tr] [] s s')
   (λt' s'=>ab t' 1=.p r1 0/\ab t' 2=.p r2 0/\ab t' 5=.p mr 0/\bZ s' tr (ig b.names)/\Kp [tr] [] s s') (by rw[<-aa.aF];omega)
   ⟨by simp[h.t1],by simp[h.t2],by simp[h5],by simp,by simp,by simp,by simpa using hM,.refl _ _ _⟩
   (by
    rintro i t' s' hi ⟨i1,i2,i5,i22,i23,i24,iM,iK⟩;have hil:i<b.len:=by rw[aa.aF];exact hi
    have hin:i<b.names.length:=by rw[fg];exact hil
    have e3:(i:Int)<(b.len:Int):=by omega
    have e4:wr .i64 ((i:Int)+1)=((i+1:Nat):Int):=by rw[aP (by omega) (by omega)];rfl
    have⟨r,r1',r2'⟩:=eK hb.pre (show fH 1+7=8 from rfl) hi;have ix:=dP underlying23 dc cK b.flat b.len i hil;rw[<-aa.dR hil,r1',<-Q4]at ix;have hT:=aa.dC hb _ (Q5 hi);have hpr:=gW hT.1;have hnm:b.names[i]=fo (b.list[i].1.headD .un):=by simp[aa.names,eD]
    rw[<-hnm]at hpr;have hce:(b.list[i].1++b.list[i].2.cells).length=8:=by rw[Q3,r2',Ex.bp];rfl
    have hsc:bH (b.list[i].1++b.list[i].2.cells)=true:=jk hT.1.sc (Ex.eU hT.2.wf);have ld:=λst:St=>ei (st:=st) (r:=r) dc np cK hce
    have hhd:cut (b.list[i].1++b.list[i].2.cells) 0 1=So [.s b.names[i]]:=by rw[hpr];rfl
    generalize b.list[i].1++b.list[i].2.cells=cl at*;have⟨s2,u1,u2,u3,u4⟩:=bJ (s:=s') (z:=mX) hce hsc;have n1:=iK.next;have n2:=u3.next;have M2:=iM.keep u3 (by omega) (by simp);have⟨s3,w1,w2,w3,w4⟩:=M2.set mb b.names[i] (.b Tt);rw[xh,List.take_append_getElem hin]at w2;have cm2:=u3.ce (iK.ce cm (by omega) (by omega) (by simp;omega) (by simp)) (by omega) (by omega) (by simp) (by simp);have rm:rd s2 mr 0 1=So [.m tr]:=by rw[ai cm2];rfl
    have rn:rd s2 s'.next 0 1=So [.s b.names[i]]:=by rw[ai u2,hhd]
    have zz:bt π 49=So mX:=xM;simp[i22,i23,i24,e3,ix,ld,aB,zz,aC dc cK,hce,u1,aY];rw[bP (by kernel_rfl)];simp[i5,i24,e4,rm,rn,w1];exact⟨_,_,⟨rfl,rfl⟩,by simp[i1],by simp[i2],by simp[i5],by simp[i22],by simp[i23],by simp,w2,mR (mR iK u3 (by simp) (by simp)) w3 (by simp) (by simp)⟩)
   (by rintro t' s' ⟨i1,i2,i5,i22,i23,i24,iM,iK⟩;simp[i23,i24,aa.aF];refine⟨_,_,⟨rfl,rfl⟩,by simp[i1],by simp[i2],by simp[i5],?_,iK⟩;rw[<-aa.aF,<-fg,List.take_length]at iM;exact iM)
  clear hL;exact⟨t1,s1,by simp,p1,p2,p5,pM,pK⟩
 have⟨t',s',q0,q1,q2,q5,qM,qK⟩:=key;have⟨ty,hty⟩:=hT;have n1:=qK.next;refine⟨t',s',q0,h.keep qK (by simp;omega) (by simp) q1 q2,q5,⟨⟨am,qK.ce cm (by omega) (by omega) (by simp;omega) (by simp)⟩,by omega,by omega,by omega,⟨_,qM,λj _=>yX _ _⟩,⟨ty,?_⟩,by omega,by omega⟩,n1⟩;rw[qK.get 0 (by omega) (by simp;omega)];exact hty
theorem Xc{r1:Nat}(hv:fq cv ds)(hl:ds.length<=1000000)(h:F6 st s t r1 r2 cv bv)(h5:ab t 5=.p mr 0)(hM:Mk s mr tr T n)(hN:1<=N):
  ∃t' s' v r8 hi,ao (au (dy 4)) ⟨π,Tw c N,Ff,f7.ntmps,N⟩ t s=.nx t' s'/\F6 st s' t' r1 r2 cv bv/\ab t' 5=.p mr 0/\ab t' 8=.p r8 0/\(∃al,s'.ce r8=So ([v,.sn],r8,al))/\Mk s' mr tr T n/\po s' s.next hi 4 cv v/\hi<=r8/\s.next<=hi/\r8<s'.next:=by
 have⟨l1,l2,l3⟩:=h.lo;have⟨a1,c1⟩:=h.c1;have rc:rd s r1 0 1=So [cv]:=by rw[ai c1];rfl
 have⟨v,s1,f1,f2,f3⟩:=Mw (c:=c) (st:=s) hv hl hN;have f2w:=f2.w;have cc:=f2.cells;have bo:=λ(t:Tr AV) (hx:ah t (.tmp 37)=v)=>UT (st:=s1) (S:=Tw c N) hx cc.1
 have⟨s2,u1,u2,u3,u4⟩:=bJ (s:=s1) (z:=[.sn,.sn]) (cells:=[v,.sn]) rfl (by simp[cc.2]);have key:∃t',ao (au (dy 4)) ⟨π,Tw c N,Ff,f7.ntmps,N⟩ t s=.nx t' s2/\ab t' 1=.p r1 0/\ab t' 2=.p r2 0/\ab t' 5=.p mr 0/\ab t' 8=.p s1.next 0:=by simp[dy,au,aw,f7,h.t1,h.t2,h5,rc,f1,bo,aB,xK,aC nO gC,u1]
 have⟨t',q0,q1,q2,q5,q8⟩:=key;have k:Kp [] [] s s2:=f3.trans u3;exact⟨t',s2,v,s1.next,s1.next,q0,h.keep k (by simp) (by simp) q1 q2,q5,q8,⟨_,u2⟩,hM.keep k (by simp) (by simp) (by simp) (by simp),f2w.keep u3 (by simp) (by simp),Q0 _,f3.next,u4⟩
set_option maxHeartbeats 8000000
def jG:aU:=λ_=>No
def fG(b:aa):aa:=(cy b.names b jG b.names 0).1
structure L6(s0 s':St)(t':Tr AV)(r1 r2 mr tr r8 hi:Nat)(T:List ae)(n:Nat)(cv v v4:AV):Prop where
 t1:ab t' 1=.p r1 0
 t2:ab t' 2=.p r2 0
 t5:ab t' 5=.p mr 0
 t8:ab t' 8=.p r8 0
 co:∃al,s'.ce r8=So ([v,v4],r8,al)
 M:Mk s' mr tr T n
 K:Kp [mr,tr,r8] [mr,r8] s0 s'
def B6(s0:St)(r1 r2 mr tr r8 hi:Nat)(cv v:AV)(b:aa)(i:Nat)(t':Tr AV)(s':St):Prop :=
 ∃v4 ni,L6 s0 s' t' r1 r2 mr tr r8 hi b.names ni cv v v4/\KL s' s0.next b.names jG b b.names 0 v4 i ni
theorem Xb{r1 r8 hi:Nat}(hb:b.Ty 1)(hs:b.size<=1000000)(h:F6 st s t r1 r2 cv (b.slice 8))(h5:ab t 5=.p mr 0)(h8:ab t 8=.p r8 0)(hc8:∃al,s.ce r8=So ([v,.sn],r8,al))(hM:Mk s mr tr b.names 0)
  (hr:r2<tr/\tr<mr/\mr<r8/\r8<s.next) (_:v.cells=So [v]/\bR v=Tt) (hp:dK b.names 0+b.wt<1000000) (hN:b.size+4000000<=N):
  ∃t' s' v4,ao (au (dy 5)) ⟨π,Tw c N,Ff,f7.ntmps,N⟩ t s=.nx t' s'/\F6 st s' t' r1 r2 cv (b.slice 8)/\ab t' 8=.p r8 0/\(∃al,s'.ce r8=So ([v,v4],r8,al))/\fI s' s.next 8 v4 (fG b).len (fG b).flat/\(∃L,fG b=fh L)/\Kp [mr,tr,r8] [mr,r8] s s':=by
 have⟨l1,l2,l3⟩:=h.lo;have⟨a1,c1⟩:=h.c1;have hbl:=b.cq;have rb:rd s r1 1 1=So [b.slice 8]:=by rw[ai c1];rfl
 have ln:=λst:St=>bg (st:=st) underlying23 (b.bU 8) (b.bV 8)
 have key:∃t' s',ao (au (dy 5)) ⟨π,Tw c N,Ff,f7.ntmps,N⟩ t s=.nx t' s'/\B6 s r1 r2 mr tr r8 hi cv v b b.list.length t' s':=by
  simp[dy,au,aw,f7,h.t1,rb,ln,ba];generalize hL:aQ _ _ _ _=L;obtain⟨t1,s1,rfl,p0⟩:=cD hL 2 b.list.length
   (λi t' s'=>ab t' 40=b.slice 8/\ab t' 41=.i .i64 (b.len:Int)/\ab t' 42=.i .i64 (i:Int)/\B6 s r1 r2 mr tr r8 hi cv v b i t' s')
   (λt' s'=>B6 s r1 r2 mr tr r8 hi cv v b b.list.length t' s') (by rw[<-aa.aF];omega)
   ⟨by simp,by simp,by simp,.sn,0,⟨by simp[h.t1],by simp[h.t2],by simp[h5],by simp[h8],hc8,hM,.refl _ _ _⟩,[],rfl,⟨No,λ_=>rfl,.nil _ _ _⟩,by simp[jY,db],by simp[db]⟩
   (by
    rintro i t' s' hi' ⟨i40,i41,i42,v4,ni,iL,acc,q1,⟨g,q0,qO⟩,q3,q4⟩;have hil:i<b.len:=by rw[aa.aF];exact hi'
    have hin:i<b.names.length:=by rw[fg];exact hil
    have e3:(i:Int)<(b.len:Int):=by omega
    have e4:wr .i64 ((i:Int)+1)=((i+1:Nat):Int):=by rw[aP (by omega) (by omega)];rfl
    have⟨r,r1',r2'⟩:=eK hb.pre (show fH 1+7=8 from rfl) hi';have ix:=dP underlying23 dc cK b.flat b.len i hil;rw[<-aa.dR hil,r1',<-Q4]at ix;have hmem:=Q5 hi';have hT:=aa.dC hb _ hmem;have hsz':=aa.dX hmem;have hpr:=gW hT.1;have hnm:b.names[i]=fo (b.list[i].1.headD .un):=by simp[aa.names,eD]
    rw[<-hnm]at hpr;have hce:(b.list[i].1++b.list[i].2.cells).length=8:=by rw[Q3,r2',Ex.bp];rfl
    have hsc:bH (b.list[i].1++b.list[i].2.cells)=true:=jk hT.1.sc (Ex.eU hT.2.wf);have ld:=λst:St=>ei (st:=st) (r:=r) dc np cK hce
    have hhd:cut (b.list[i].1++b.list[i].2.cells) 0 1=So [.s b.names[i]]:=by rw[hpr];rfl
    have hcut:cut (b.list[i].1++b.list[i].2.cells) 1 7=So b.list[i].2.cells:=by rw[hpr];have:=mV b.list[i].2.cells [];rw[Ex.bp,Q2]at this;simpa using this
    generalize b.list[i].1++b.list[i].2.cells=cl at*;have⟨s2,u1,u2,u3,u4⟩:=bJ (s:=s') (z:=mX) hce hsc;have⟨al3,co⟩:=iL.co;have n1:=iL.K.next;have n2:=u3.next;have co2:=u3.ce co (by omega) (by omega) (by simp) (by simp);have rO2:rd s2 r8 1 1=So [v4]:=by rw[ai co2];rfl
    have rx:rd s2 s'.next 1 7=So b.list[i].2.cells:=by rw[ai u2,hcut]
    have rn:rd s2 s'.next 0 1=So [.s b.names[i]]:=by rw[ai u2,hhd]
    rw[uY b i hi']at q3 q4;simp only[cy,aa.wt]at q3 q4;have qpot:=rL b.names b.list[i].2 jG ni;have⟨s3,f1,f2,f3⟩:=abh (c:=c) b.list[i].2 hT.2 (by omega) s2 mr tr ni b.names .mn jG N (iL.M.keep u3 (by simp) (by simp) (by simp) (by simp)) (.inl ⟨rfl,λ_=>rfl⟩) (by omega) (by omega);obtain⟨R,hR⟩:∃R,bm b.names b.list[i].2 jG ni=R:=⟨_,rfl⟩;have tR:=wX b.names b.list[i].2 jG ni hT.2;rw[hR]at f1 f2 q3 qpot tR;have cR:=R.1.bp;have n3:=f3.next;have co3:=f3.ce co2 (by omega) (by omega) (by simp;omega) (by simp;omega);have rO3:rd s3 r8 1 1=So [v4]:=by rw[ai co3];rfl
    have u2':=f3.ce u2 (by omega) (by omega) (by simp;omega) (by simp;omega);have rn3:rd s3 s'.next 0 1=So [.s b.names[i]]:=by rw[ai u2',hhd]
    have bo:=λ(t:Tr AV) (h1:ah t (.tmp 49)=.s b.names[i]) (h2:ah t (.tmp 53)=.ag R.1.cells)=>GV (S:=Tw c N) (st:=s3) (t:=t) h1 h2 cR
    have bo2:=λ(t:Tr AV) (h:ah t (.tmp 54)=.ag (.s b.names[i]::R.1.cells))=>ef (S:=Tw c N) (t:=t) (st:=s3) wF (x:=.tmp 54) (cs:=.s b.names[i]::R.1.cells) (by rw[h];exact gh _) (by simp[cR])
    have sR:bH (.s b.names[i]::R.1.cells)=true:=by simp[Ex.eU tR.wf]
    have O3:=(qO.keep u3 (by simp) (by simp)).keep f3 (by simp;omega) (λx hx=>.inl (by simp at hx;omega));have⟨v',g',s4,w1,w2,w3,w4⟩:=O3.iW wF (new:=.s b.names[i]::R.1.cells) sR (by simp[cR]) (by omega) (by omega);have hgl:=qO.jd;have hB4:∀x,x∈g.toList->s.next<=x:=λx hx=>(hgl x (by simpa using hx)).1
    have n4:=w3.next;have co4:=w3.ce co3 (by omega) (by omega) (by simp) (λhh=>by have:=hB4 _ hh;omega);have hw:=c9 co4 1 [v'] (by simp) (by simp[w2.sc]);simp at hw;have k5:Kp [r8] [r8] s4 (s4.aG r8 [v,v'] r8):=.aG (by simp) (by simp);have c5:(s4.aG r8 [v,v'] r8).ce r8=So ([v,v'],r8,[r8]):=dA _ _ _;obtain⟨s5,hs5⟩:∃x,s4.aG r8 [v,v'] r8=x:=⟨_,rfl⟩;rw[hs5]at hw k5 c5;have hz:=iL.M.z1;have M5:=((f2.keep w3 (by simp) (by simp) (λhh=>by have:=hB4 _ hh;omega) (by simp)).keep k5 (by simp;omega) (by simp;omega) (by simp;omega) (by simp;omega));have K5:=mR (mR (mR (mR iL.K u3 (by simp) (by simp)) f3 (by simp) (by simp)) w3 (by simp) (λx hx=>.inr (hB4 x hx))) k5 (by simp) (by simp);have G5:fI s5 s.next 8 v' (i+1) (fh (acc++[([.s b.names[i]],R.1)])).flat:=by
     refine⟨g',λhh=>by omega,?_⟩;rw[wR];have hg':g'≠So r8:=by
      rcases w4 with rfl|⟨x,rfl,hx⟩
      ·exact λhh=>by have:=hgl r8 hh;omega
      ·intro hh;cases hh;omega
     exact w2.keep k5 (by simp;omega) (λx hx=>.inr (by simp at hx;subst hx;exact hg'))
    have zz:bt π 49=So mX:=xM;simp[i40,i41,i42,e3,ix,ld,aB,zz,aC dc cK,hce,u1,aY];rw[ft (fl:=[(1,8),(3,8)])]
    ·simp[i42,iL.t5,iL.t8,e4,rO2,rn,aX,rx,f1,bo,bo2,w1,bN yt FE,w2.cells,hw];refine⟨_,_,⟨rfl,rfl⟩,by simp[i40],by simp[i41],by simp,v',R.2,⟨by simp[iL.t1],by simp[iL.t2],by simp[iL.t5],by simp[iL.t8],⟨_,c5⟩,M5,K5⟩,acc++[([.s b.names[i]],R.1)],by simp[q1],G5,?_,by omega⟩;rw[q3,uD,List.tail_drop];have hh:(b.names.drop i).headD []=b.names[i]:=by rw[List.drop_eq_getElem_cons hin];rfl
     rw[hh];rfl
    ·kernel_rfl
    ·intro R' hR';simp[iL.t5,iL.t8,rO2,rn,aX,rx,f1,bo,bo2,w1,bN yt FE,w2.cells,hw]at hR';subst hR';simp only[Q9,J1,Q6,Q1];refine⟨cZ rfl rfl rfl (s:=s3) ?_,cZ rfl rfl rfl (s:=s3) ?_⟩
     ·simp[rO3]
     ·simp[rn3])
   (by rintro t' s' ⟨i40,i41,i42,v4,ni,iL,iB⟩;simp[i41,i42,aa.aF];exact⟨_,_,⟨rfl,rfl⟩,v4,ni,⟨by simp[iL.t1],by simp[iL.t2],by simp[iL.t5],by simp[iL.t8],iL.co,iL.M,iL.K⟩,iB⟩)
  clear hL;exact⟨t1,s1,by simp,p0⟩
 have⟨t',s',q1,v4,ni,q2,acc,a1',a2,a4,a5⟩:=key;have⟨f,hf⟩:=uZ b;rw[hf]at a4;simp only[cy,zV]at a4;have hpb:fG b=fh acc:=by unfold fG;rw[a4]
 refine⟨t',s',v4,q1,h.keep q2.K (by simp;omega) (by simp;omega) q2.t1 q2.t2,q2.t8,q2.co,?_,⟨acc,hpb⟩,q2.K⟩;rw[hpb,rA,a1'];exact a2
def TN(o:Option (AV×St))(st:St)(a:AV)(e:Int):Prop:=∃s',o=So (.tu [a,.i .i64 e],s')/\Kp [] [] st s'
theorem HM{x y:AV}{e:Int}(h2:ab t' 2=.p r2 0)(h3:ab t' 3=.i .i64 e)(hc:s'.ce r2=So ([x,y],r2,al)):fN π f7.results.toList (.rt t' s')=So (.tu [.ag [x,y],.i .i64 e],s'):=by
 have r:rd s' r2 0 2=So [x,y]:=by rw[ai hc];rfl
 have r1:oW π t' s' (.cell 2 25)=So (.ag [x,y]):=by rw[Rb h2 (by simp),cu nO zQ,gC,r];rfl
 simp[f7,bf,aO,r1,h3]
theorem abg{e1 e2:Int}(hv:fq cv ds)(hl:ds.length<=1000000)(hb:b.Ty 1)(hs:b.size<=1000000)(hT:pD st)(h0:0<st.next)(hC1:qu c cv b e1)(hC2:e1=0->qu c cv (fG b) e2)(hp:e1=0->dK b.names 0+b.wt<1000000)(hN:b.size+5000000<=N):
  TN ((Tw c N).call 7 [.ag [cv,b.slice 8]] st) st (if e1≠0 then .ag [.sn,.sn] else if e2≠0 then .ag [.sn,.sn] else .ag [cv,(fG b).slice 8]) (if e1≠0 then e1 else e2):=by
 cases N
 ·omega
 rename_i N;have hbl:=b.cq;have hcs:cv.cells=So [cv]/\bR cv=Tt/\aE cv=true:=⟨by rcases hv.1 with ⟨rfl,-⟩|rfl<;>simp,by rcases hv.1 with ⟨rfl,-⟩|rfl<;>rfl,hv.pure⟩;have⟨A1,A2⟩:=Xe (c:=c) (st:=st) hcs hb hC1 (N:=N) (by omega)
 suffices hh:∃v1 s1,aJ c N f7 (f7.body.getD .skip) [.ag [cv,b.slice 8]] st=So (v1,s1)/\Fz st.next s1 v1 (.tu [(if e1≠0 then .ag [.sn,.sn] else if e2≠0 then .ag [.sn,.sn] else .ag [cv,(fG b).slice 8]),.i .i64 (if e1≠0 then e1 else e2)])/\Kp [] [] st s1 by have⟨v1,s1,q1,q2,q3⟩:=hh;exact⟨_,wq rfl rfl rfl rfl rfl (by decide) func7 rfl (J3 rfl) q1 q2,q3.shut (Q0 _)⟩
 unfold aJ;show ∃v1 s1,fN π f7.results.toList (ao (dy 0) ⟨π,Tw c N,Ff,f7.ntmps,N⟩ (tmpsOf [.ag [cv,b.slice 8]] 0 .lf) st)=So (v1,s1)/\_
 by_cases he:e1=0
 case neg=>have⟨t,s,r2,q1,q2,⟨al,q3⟩,q4,q5⟩:=A1 he;have hA:(if e1≠0 then(AV.ag [.sn,.sn]) else if e2≠0 then .ag [.sn,.sn] else .ag [cv,(fG b).slice 8])=.ag [.sn,.sn]:=if_pos he;have hE:(if e1≠0 then e1 else e2)=e1:=if_pos he;rw[q1,HM q2 q4 q3,hA,hE];exact⟨_,_,rfl,.pure rfl,q5⟩
 have⟨t0,s0,r1,r2,q0,h0'⟩:=A2 he;have hA:(if e1≠0 then(AV.ag [.sn,.sn]) else if e2≠0 then .ag [.sn,.sn] else .ag [cv,(fG b).slice 8])=(if e2≠0 then .ag [.sn,.sn] else .ag [cv,(fG b).slice 8]):=if_neg (by simp[he]);have hE:(if e1≠0 then e1 else e2)=e2:=if_neg (by simp[he]);rw[hA,hE,q0];have⟨t1,s1,mr,tr,a1,h1,b1,c1,d1,e1',e2',f1⟩:=Xd (c:=c) h0' (N:=N);have lo0:=h0'.lo;have lo1:=h1.lo;have T1:pD s1:=by have⟨ty,ht⟩:=hT;exact⟨ty,by rw[h1.K.get 0 h0 (by simp)];exact ht⟩
 have⟨t2,s2,a2,h2,b2,M2,n2⟩:=Xf (c:=c) hb (by omega) h1 b1 c1 d1 ⟨by omega,by omega,f1⟩ T1 h0 (N:=N) (by omega);have⟨t3,s3,v,r8,hi,a3,h3,b3,c3,d3,M3,W3,n3,n3',n3''⟩:=Xc (c:=c) hv hl h2 b2 M2 (N:=N) (by omega);have lo2:=h2.lo;have wc:=W3.cells;have⟨t4,s4,v4,a4,h4,b4,⟨al8,c4⟩,G4,⟨L4,e4⟩,k4⟩:=Xb (c:=c) (hi:=hi) hb hs h3 b3 c3 d3 M3 ⟨by omega,by omega,by omega,n3''⟩ wc (hp he) (N:=N) (by omega);have W4:=W3.keep k4 (by simp;omega) (by simp;omega);have tp:(fG b).Ty 1:=Bs b.names b jG b.names 0 hb;have gc:=AA G4;have ra:rd s4 r8 0 2=So [v,v4]:=by rw[ai c4];rfl
 have ck:=hC2 he s4 (.ag [v,v4]) N (by omega) (.ag (.cons W4.vH (.cons (G4.vH e4 tp) .nil)));rw[show ao (dy 2) ⟨π,Tw c N,Ff,f7.ntmps,N⟩ t0 s0=bW (ao (au (dy 2)) ⟨π,Tw c N,Ff,f7.ntmps,N⟩ t0 s0) (ao (dy 3) ⟨π,Tw c N,Ff,f7.ntmps,N⟩) from rfl,a1,dN];rw[show ao (dy 3) ⟨π,Tw c N,Ff,f7.ntmps,N⟩ t1 s1=bW (ao (au (dy 3)) ⟨π,Tw c N,Ff,f7.ntmps,N⟩ t1 s1) (ao (dy 4) ⟨π,Tw c N,Ff,f7.ntmps,N⟩) from rfl,a2,dN];rw[show ao (dy 4) ⟨π,Tw c N,Ff,f7.ntmps,N⟩ t2 s2=bW (ao (au (dy 4)) ⟨π,Tw c N,Ff,f7.ntmps,N⟩ t2 s2) (ao (dy 5) ⟨π,Tw c N,Ff,f7.ntmps,N⟩) from rfl,a3,dN];rw[show ao (dy 5) ⟨π,Tw c N,Ff,f7.ntmps,N⟩ t3 s3=bW (ao (au (dy 5)) ⟨π,Tw c N,Ff,f7.ntmps,N⟩ t3 s3) (ao (dy 6) ⟨π,Tw c N,Ff,f7.ntmps,N⟩) from rfl,a4,dN];have⟨alr,cr⟩:=h4.c2;have lo4:=h4.lo;by_cases h20:e2=0
 case neg=>
  have hA2:(if e2≠0 then(AV.ag [.sn,.sn]) else .ag [cv,(fG b).slice 8])=.ag [.sn,.sn]:=if_pos h20;rw[hA2];have hw:=c9 cr 0 [.sn,.sn] (by simp) (by simp);simp at hw;have k5:Kp [r2] [r2] s4 (s4.aG r2 [.sn,.sn] r2):=.aG (by simp) (by simp);have key:∃t',ao (dy 6) ⟨π,Tw c N,Ff,f7.ntmps,N⟩ t4 s4=.rt t' (s4.aG r2 [.sn,.sn] r2)/\ab t' 2=.p r2 0/\ab t' 3=.i .i64 e2:=by simp[dy,aw,f7,h4.t2,b4,gC,ra,ck,h20,Mg,aC nO gC,hw]
  have⟨t',q1,q2,q3⟩:=key;rw[q1,HM q2 q3 (dA _ _ _)];exact⟨_,_,rfl,.pure rfl,ey h4.K k5 (by simp;omega) (by simp;omega)⟩
 ·have hA2:(if e2≠0 then(AV.ag [.sn,.sn]) else .ag [cv,(fG b).slice 8])=.ag [cv,(fG b).slice 8]:=if_neg (by simp[h20]);rw[hA2];have hw:=c9 cr 0 [v,v4] (by simp) (by simp[wc.2,gc.2]);simp at hw;have k5:Kp [r2] [r2] s4 (s4.aG r2 [v,v4] r2):=.aG (by simp) (by simp);obtain⟨s5,hs5⟩:∃x,s4.aG r2 [v,v4] r2=x:=⟨_,rfl⟩;have c5:(s4.aG r2 [v,v4] r2).ce r2=So ([v,v4],r2,[r2]):=dA _ _ _;rw[hs5]at hw k5 c5;have key:∃t',ao (dy 6) ⟨π,Tw c N,Ff,f7.ntmps,N⟩ t4 s4=.rt t' s5/\ab t' 2=.p r2 0/\ab t' 3=.i .i64 0:=by
   simp[dy,aw,f7,h4.t2,b4,gC,ra,ck,h20,aC nO gC,hw]
  have⟨t',q1,q2,q3⟩:=key;rw[q1,HM q2 q3 c5,h20];refine⟨_,_,rfl,.tu (.cons (.ag (.cons ?_ (.cons ?_ .nil))) (.cons (.pure rfl) .nil)),ey h4.K k5 (by simp;omega) (by simp;omega)⟩
  ·exact(W4.keep k5 (by simp;omega) (by simp;omega)).fz (by omega)
  ·exact(G4.AJ k5 (by simp;omega) (by simp;omega)).part e4 (by omega) (by decide) tp
set_option maxHeartbeats 8000000
mutual
def _root_.Go.Ev.Ex.dj:Ex->List ae
 |.mk _ _ _ ps b a l=>aL ps++(b.jq++(a.ee++l.lj))
def _root_.Go.Ev.aa.jq:aa->List ae
 |.nil _=>[]
 |.cons p x l=>eD (p,x)::(x.dj++l.jq)
def _root_.Go.Ev.aa.ee:aa->List ae
 |.nil _=>[]
 |.cons _ x l=>x.dj++l.ee
def _root_.Go.Ev.aa.lj:aa->List ae
 |.nil _=>[]
 |.cons p x l=>(aM (p,x)).vs++(x.dj++l.lj)
end
theorem OA{l:List AV}(h:cz v l):lenOf v=So l.length/\firstCells st 1 l.length v=So l/\gO v=none:=by
 rcases h with ⟨rfl,rfl⟩|rfl
 ·exact⟨rfl,rfl,rfl⟩
 ·refine⟨rfl,?_,rfl⟩;show cut l 0 (l.length*1)=_
  rw[eV,Nat.mul_one,gY]
def qI(s:St)(lo:Nat)(v:AV)(L:List ae):Prop:=∃g,bD s lo 1 v L.length (L.map .s) g
def kG(lo:Nat)(s s':St):Prop:=s.next<=s'.next/\∀r l g al,r<lo->g<lo->s.ce r=So (l,g,al)->r<s.next->g<s.next->s'.ce r=So (l,g,al)
theorem kG.of{B:List Nat}(k:Kp A B s s')(hA:∀x,x∈A->lo<=x)(hB:∀x,x∈B->lo<=x):kG lo s s' :=
 ⟨k.next,λr l g al h1 h2 h3 h4 h5=>k.ce h3 h4 h5 (λhh=>by have:=hA _ hh;omega) (λhh=>by have:=hB _ hh;omega)⟩
theorem kG.trans{a b d:St}(h:kG lo a b)(k:kG lo b d):kG lo a d :=
 ⟨J4 h.1 k.1,λr l g al h1 h2 h3 h4 h5=>k.2 r l g al h1 h2 (h.2 r l g al h1 h2 h3 h4 h5) (Q8 h4 h.1) (Q8 h5 h.1)⟩
theorem kG.refl(lo:Nat)(s:St):kG lo s s:=⟨Q0 _,λ_ _ _ _ _ _ h _ _=>h⟩
theorem qI.one(h0:qI s0 lo v L)(k:Kp [] [] s0 s)(x:ae)(hl:L.length<1000000)(hlo:lo<=s.next):∃v' s' g,fD π (s.aj [.s x]) [43,43] [v,.sl s.next 0 1 1 (So 1)]=So (v',s')/\qI s' lo v' (L++[x])/\Kp [] g s s'/\(∀x,x∈g->lo<=x/\x<s0.next):=by have⟨g,h0⟩:=h0;have h:=h0.keep k (by simp) (by simp);have⟨v',g',s',w1,w2,w3,w4⟩:=h.iW kg (new:=[.s x]) rfl rfl (by omega) hlo;exact⟨v',s',g.toList,w1,⟨g',by simpa using w2⟩,w3,λx hx=>h0.jd x (by simpa using hx)⟩
theorem qI.more{w:AV}(h0:qI s0 lo v L)(k:Kp [] [] s0 s)(hw:cz w (M.map .s))(hl:L.length+M.length<=1000000)(hlo:lo<=s.next):∃v' s' g,fD π s [43,43] [v,w]=So (v',s')/\qI s' lo v' (L++M)/\Kp [] g s s'/\(∀x,x∈g->lo<=x/\x<s0.next):=by obtain⟨g,h0⟩:=h0;have h:=h0.keep k (by simp) (by simp);obtain⟨a1,a2,a3⟩:=OA hw;rw[J6]at a1 a2;obtain⟨v',g',s',w1,w2,w3,w4⟩:=h.app kg a1 a2 a3 (Ly M) (by simp) (by omega) hlo;exact⟨v',s',g.toList,w1,⟨g',by simpa using w2⟩,w3,λx hx=>h0.jd x (by simpa using hx)⟩
theorem VC{l:List ae}(hv:cz v (l.map .s))(hl:l.length<=1000000)(hN:1<=N):∃w s',(Tw c N).call 96 [v] st=So (w,s')/\qI s' st.next w l/\Kp [] [] st s':=by
 cases N
 ·omega
 rename_i N;rw[dV rfl func96 rfl (J3 rfl)];unfold aJ;rcases hv with ⟨rfl,h⟩|rfl
 ·have:l=[]:=by simpa using h
  subst this;refine⟨.sn,st,?_,⟨No,.nil _ _ _⟩,.refl _ _ _⟩;simp[f96,RN underlying43]
 ·have h0:qI (st.aj []) st.next (.sl st.next 0 0 1 (So 0)) []:=⟨No,.inr (.inl ⟨_,rfl,rfl,rfl,rfl⟩)⟩;obtain⟨v',s',g,w1,w2,w3,w4⟩:=h0.more (.refl _ _ _) (.inr rfl) (by simpa using hl) (Z4 _);rw[J5]at w2;rw[J6]at w1;refine⟨v',s',?_,w2,?_⟩
  ·simp[f96,JR underlying43,GU kg,w1]
  ·have k1:=Kp.aj (st:=st) [] [] [];exact ey k1 w3 (by simp) (λx hx=>(w4 x hx).1)
noncomputable def fP:Nat->Code
 |0=>f56.body.getD .skip
 |k+1=>aw (fP k)
def Th(c:Option Self)(N:Nat)(x:Ex)(v:AV):Prop:=∀st:St,(Tw c N).call 56 [.ag x.cells] st=So (v,st)
def Cf(c:Option Self)(x:Ex):Prop:=x.Ty->x.size<=1000000->x.dj.length<=1000000->∀N,x.size+2000000<=N->∃v,cz v (x.dj.map .s)/\Th c N x v
def oh(s0 s':St)(lo rE:Nat)(t':Tr AV)(L:List ae):Prop:=ab t' 1=.p rE 0/\qI s' lo (ab t' 3) L/\kG lo s0 s'/\lo<=s'.next
theorem UH(b:aa)(h:i<b.list.length):(db b i).jq=eD b.list[i]::(b.list[i].2.dj++(db b (i+1)).jq):=by rw[uY b i h];rfl
theorem LX(b:aa)(h:i<b.list.length):(db b i).ee=b.list[i].2.dj++(db b (i+1)).ee:=by rw[uY b i h];rfl
theorem UI(b:aa)(h:i<b.list.length):(db b i).lj=(aM b.list[i]).vs++(b.list[i].2.dj++(db b (i+1)).lj):=by rw[uY b i h];rfl
theorem WZ{al:Nat}(hb:b.Ty 1)(hs:b.size<=1000000)(hIH:∀p∈b.list,Cf c p.2)(h1:oh s s lo rE t L)(ce:s.ce rE=So ((Ex.mk k nm num ps b a l).cells,rE,ale))(_:rE<lo)(hlen:L.length+b.jq.length<=1000000)(hN:b.size+2000000<=N):
  ∃t' s',ao (au (fP 2)) ⟨π,Tw c N,Ff,f56.ntmps,N⟩ t s=.nx t' s'/\oh s s' lo rE t' (L++b.jq):=by
 have hbl:=b.cq;have⟨h11,h12,h13,h14⟩:=h1;have rb:=(ju ce).b;have ln:=λst:St=>bg (st:=st) underlying23 (b.bU 8) (b.bV 8)
 simp[fP,au,aw,f56,h11,rb,ln,ba];generalize hL:aQ _ _ _ _=Lo;obtain⟨t1,s1,rfl,p0⟩:=cD hL 0 b.list.length
  (λi t' s'=>ab t' 14=b.slice 8/\ab t' 15=.i .i64 (b.len:Int)/\ab t' 16=.i .i64 (i:Int)/\∃M,oh s s' lo rE t' M/\M++(db b i).jq=L++b.jq)
  (λt' s'=>oh s s' lo rE t' (L++b.jq)) (by rw[<-aa.aF];omega)
  ⟨by simp,by simp,by simp,L,⟨by simp[h11],by simpa using h12,.refl _ _,h14⟩,by simp[db]⟩
  (by
   rintro i t' s' hi ⟨i14,i15,i16,M,⟨j1,j2,j3,j4⟩,jE⟩;have hil:i<b.len:=by rw[aa.aF];exact hi
   have e3:(i:Int)<(b.len:Int):=by omega
   have e4:wr .i64 ((i:Int)+1)=((i+1:Nat):Int):=by rw[aP (by omega) (by omega)];rfl
   have⟨r,r1',r2'⟩:=eK hb.pre (show fH 1+7=8 from rfl) hi;have ix:=dP underlying23 dc cK b.flat b.len i hil;rw[<-aa.dR hil,r1',<-Q4]at ix;have hmem:=Q5 hi;have hT:=aa.dC hb _ hmem;have hsz':=aa.dX hmem;have hpr:=gW hT.1;rw[show fo (b.list[i].1.headD .un)=eD b.list[i] from rfl]at hpr;rw[UH b hi]at jE;have jl:=congrArg List.length jE;simp only[Q3,List.length_cons]at jl;obtain⟨bn,hbn⟩:∃x,eD b.list[i]=x:=⟨_,rfl⟩;rw[hbn]at hpr jE;have hce:(b.list[i].1++b.list[i].2.cells).length=8:=by rw[Q3,r2',Ex.bp];rfl
   have hsc:bH (b.list[i].1++b.list[i].2.cells)=true:=jk hT.1.sc (Ex.eU hT.2.wf);have ld:=λst:St=>ei (st:=st) (r:=r) dc np cK hce
   have hhd:cut (b.list[i].1++b.list[i].2.cells) 0 1=So [.s bn]:=by rw[hpr];rfl
   have hcut:cut (b.list[i].1++b.list[i].2.cells) 1 7=So b.list[i].2.cells:=by rw[hpr];have:=mV b.list[i].2.cells [];rw[Ex.bp,Q2]at this;simpa using this
   have⟨v,v1,v2⟩:=hIH _ hmem hT.2 (by omega) (by omega) N (by omega);generalize b.list[i].1++b.list[i].2.cells=cl at*;have⟨s2,u1,u2,u3,u4⟩:=bJ (s:=s') (z:=mX) hce hsc;have n2:=u3.next;have rx:rd s2 s'.next 1 7=So b.list[i].2.cells:=by rw[ai u2,hcut]
   have rn:rd s2 s'.next 0 1=So [.s bn]:=by rw[ai u2,hhd]
   obtain⟨va,hva⟩:∃va,ab t' 3=va:=⟨_,rfl⟩;rw[hva]at j2;have bo:=λ(t:Tr AV) (h:ah t (.tmp 22)=.s bn)=>ef (S:=Tw c N) (st:=s2) kg (cs:=[.s bn]) (by rw[h];simp) rfl
   have⟨v',s3,g,w1,w2,w3,w4⟩:=j2.one u3 bn (by omega) (by omega);have n3:=w3.next;have hg:s'.next∉g:=λhh=>by have:=w4 _ hh;omega
   have rx3:rd s3 s'.next 1 7=So b.list[i].2.cells:=by rw[ai (w3.ce u2 u4 u4 (by simp) hg),hcut]
   have⟨v'',s4,g',y1,y2,y3,y4⟩:=w2.more (.refl _ _ _) v1 (by simp;omega) (by omega);have zz:bt π 49=So mX:=xM;simp[i14,i15,i16,e3,ix,ld,aB,zz,aC dc cK,hce,u1,aY];rw[ft (fl:=[(6,0)])]
   ·simp[i16,hva,e4,rn,bo,w1,aX,rx3,v2 s3,y1];refine⟨_,_,⟨rfl,rfl⟩,by simp[i14],by simp[i15],by simp,M++[bn]++b.list[i].2.dj,⟨by simp[j1],by simpa using y2,j3.trans ((kG.of u3 (by simp) (by simp)).trans ((kG.of w3 (by simp) (λx hx=>(w4 x hx).1)).trans (kG.of y3 (by simp) (λx hx=>(y4 x hx).1)))),by have:=y3.next;omega⟩,?_⟩;simpa using jE
   ·kernel_rfl
   ·intro R' hR';simp[hva,rn,bo,w1,aX,rx3,v2 s3,y1]at hR';subst hR';simp only[Q9,J1,Q6];refine cZ rfl rfl rfl (s:=s2) ?_;simp[aX,rx])
  (by rintro t' s' ⟨i14,i15,i16,M,⟨j1,j2,j3,j4⟩,jE⟩;simp[i15,i16,aa.aF];have⟨f,hf⟩:=uZ b;rw[hf]at jE;simp only[aa.jq,Q2]at jE;rw[jE]at j2;exact⟨_,_,⟨rfl,rfl⟩,by simp[j1],by simpa using j2,j3,j4⟩)
 clear hL;exact⟨t1,s1,by simp,p0⟩
theorem WY(hb:a.Ty 0)(hs:a.size<=1000000)(hIH:∀p∈a.list,Cf c p.2)(h1:oh s s lo rE t L)(ce:s.ce rE=So ((Ex.mk k nm num ps b a l).cells,rE,ale))(hlen:L.length+a.ee.length<=1000000)(hN:a.size+2000000<=N):
  ∃t' s',ao (au (fP 3)) ⟨π,Tw c N,Ff,f56.ntmps,N⟩ t s=.nx t' s'/\oh s s' lo rE t' (L++a.ee):=by
 have hbl:=a.cq;have⟨h11,h12,h13,h14⟩:=h1;have rb:=(ju ce).a;have ln:=λst:St=>bg (st:=st) underlying44 (a.bU 7) (a.bV 7)
 simp[fP,au,aw,f56,h11,rb,ln,ba];generalize hL:aQ _ _ _ _=Lo;obtain⟨t1,s1,rfl,p0⟩:=cD hL 2 a.list.length
  (λi t' s'=>ab t' 31=a.slice 7/\ab t' 32=.i .i64 (a.len:Int)/\ab t' 33=.i .i64 (i:Int)/\∃M,oh s s' lo rE t' M/\M++(db a i).ee=L++a.ee)
  (λt' s'=>oh s s' lo rE t' (L++a.ee)) (by rw[<-aa.aF];omega)
  ⟨by simp,by simp,by simp,L,⟨by simp[h11],by simpa using h12,.refl _ _,h14⟩,by simp[db]⟩
  (by
   rintro i t' s' hi ⟨i14,i15,i16,M,⟨j1,j2,j3,j4⟩,jE⟩;have hil:i<a.len:=by rw[aa.aF];exact hi
   have e3:(i:Int)<(a.len:Int):=by omega
   have e4:wr .i64 ((i:Int)+1)=((i+1:Nat):Int):=by rw[aP (by omega) (by omega)];rfl
   have⟨r,r1',r2'⟩:=eK hb.pre (show fH 0+7=7 from rfl) hi;have ix:=dP underlying44 cM aX a.flat a.len i hil;rw[<-aa.dR hil,r1',Q7 r2',J5]at ix;have hmem:=Q5 hi;have hT:=aa.dC hb _ hmem;have hsz':=aa.dX hmem;rw[LX a hi]at jE;have jl:=congrArg List.length jE;simp only[Q3]at jl;have hce:=a.list[i].2.bp;have hsc:=Ex.eU hT.2.wf;have ld:=λst:St=>ei (st:=st) (r:=r) cM gT aX hce
   have hcut:cut a.list[i].2.cells 0 7=So a.list[i].2.cells:=by have:=mV a.list[i].2.cells [];rw[Ex.bp,Q2]at this;simpa using this
   have⟨v,v1,v2⟩:=hIH _ hmem hT.2 (by omega) (by omega) N (by omega);have⟨s2,u1,u2,u3,u4⟩:=bJ (s:=s') (z:=jB) hce hsc;have n2:=u3.next;have rx:rd s2 s'.next 0 7=So a.list[i].2.cells:=by rw[ai u2,hcut]
   obtain⟨va,hva⟩:∃va,ab t' 3=va:=⟨_,rfl⟩;rw[hva]at j2;have⟨v'',s4,g',y1,y2,y3,y4⟩:=j2.more u3 v1 (by omega) (by omega);have zz:bt π 47=So jB:=xL;simp[i14,i15,i16,hva,e3,e4,ix,ld,aB,zz,aC cM aX,hce,u1,aX,rx,v2 s2,y1];refine⟨_,_,⟨rfl,rfl⟩,by simp[i14],by simp[i15],by simp,M++a.list[i].2.dj,⟨by simp[j1],by simpa using y2,j3.trans ((kG.of u3 (by simp) (by simp)).trans (kG.of y3 (by simp) (λx hx=>(y4 x hx).1))),by have:=y3.next;omega⟩,?_⟩;simpa using jE)
  (by rintro t' s' ⟨i14,i15,i16,M,⟨j1,j2,j3,j4⟩,jE⟩;simp[i15,i16,aa.aF];have⟨f,hf⟩:=uZ a;rw[hf]at jE;simp only[aa.ee,Q2]at jE;rw[jE]at j2;exact⟨_,_,⟨rfl,rfl⟩,by simp[j1],by simpa using j2,j3,j4⟩)
 clear hL;exact⟨t1,s1,by simp,p0⟩
theorem Xa(hb:l.Ty 4)(hs:l.size<=1000000)(hIH:∀p∈l.list,Cf c p.2)(h1:oh s s lo rE t L)(ce:s.ce rE=So ((Ex.mk k nm num ps b a l).cells,rE,ale))(hlen:L.length+l.lj.length<=1000000)(hN:l.size+2000000<=N):
  ∃t' s',ao (au (fP 4)) ⟨π,Tw c N,Ff,f56.ntmps,N⟩ t s=.nx t' s'/\oh s s' lo rE t' (L++l.lj):=by
 have hbl:=l.cq;obtain⟨h11,h12,h13,h14⟩:=h1;have rb:=(ju ce).l;have ln:=λst:St=>bg (st:=st) underlying45 (l.bU 11) (l.bV 11)
 simp[fP,au,aw,f56,h11,rb,ln,ba];generalize hL:aQ _ _ _ _=Lo;obtain⟨t1,s1,rfl,p0⟩:=cD hL 4 l.list.length
  (λi t' s'=>ab t' 43=l.slice 11/\ab t' 44=.i .i64 (l.len:Int)/\ab t' 45=.i .i64 (i:Int)/\∃M,oh s s' lo rE t' M/\M++(db l i).lj=L++l.lj)
  (λt' s'=>oh s s' lo rE t' (L++l.lj)) (by rw[<-aa.aF];omega)
  ⟨by simp,by simp,by simp,L,⟨by simp[h11],by simpa using h12,.refl _ _,h14⟩,by simp[db]⟩
  (by
   rintro i t' s' hi ⟨i14,i15,i16,M,⟨j1,j2,j3,j4⟩,jE⟩;have hil:i<l.len:=by rw[aa.aF];exact hi
   have e3:(i:Int)<(l.len:Int):=by omega
   have e4:wr .i64 ((i:Int)+1)=((i+1:Nat):Int):=by rw[aP (by omega) (by omega)];rfl
   obtain⟨r,r1',r2'⟩:=eK hb.pre (show fH 4+7=11 from rfl) hi;have ix:=dP underlying45 bQ bL l.flat l.len i hil;rw[<-aa.dR hil,r1',<-Q4]at ix;have hmem:=Q5 hi;have hT:=aa.dC hb _ hmem;have hsz':=aa.dX hmem;obtain⟨vs,p1,p2,p3⟩:=Gu hT.1;rw[UI l hi]at jE;have jl:=congrArg List.length jE;simp only[Q3]at jl;obtain⟨H,hH⟩:∃H,aM l.list[i]=H:=⟨_,rfl⟩;rw[hH]at p1 p3 jE jl;have hce:(l.list[i].1++l.list[i].2.cells).length=11:=by rw[Q3,r2',Ex.bp];rfl
   have hsc:bH (l.list[i].1++l.list[i].2.cells)=true:=jk hT.1.sc (Ex.eU hT.2.wf);have ld:=λst:St=>ei (st:=st) (r:=r) bQ xW bL hce
   have c3:cut (l.list[i].1++l.list[i].2.cells) 3 1=So [vs]:=by rw[p1];rfl
   have hcut:cut (l.list[i].1++l.list[i].2.cells) 4 7=So l.list[i].2.cells:=by rw[p1];have:=mV l.list[i].2.cells [];rw[Ex.bp,Q2]at this;simpa using this
   obtain⟨v,v1,v2⟩:=hIH _ hmem hT.2 (by omega) (by omega) N (by omega);generalize l.list[i].1++l.list[i].2.cells=cl at*;obtain⟨s2,u1,u2,u3,u4⟩:=bJ (s:=s') (z:=zu) hce hsc;have n2:=u3.next;have rx:rd s2 s'.next 4 7=So l.list[i].2.cells:=by rw[ai u2,hcut]
   have rn:rd s2 s'.next 3 1=So [vs]:=by rw[ai u2,c3]
   obtain⟨va,hva⟩:∃va,ab t' 3=va:=⟨_,rfl⟩;rw[hva]at j2;obtain⟨v',s3,g,w1,w2,w3,w4⟩:=j2.more u3 (M:=H.vs) (by rw[p3];exact DW p2) (by omega) (by omega);have n3:=w3.next;have hg:s'.next∉g:=λhh=>by have:=w4 _ hh;omega
   have rx3:rd s3 s'.next 4 7=So l.list[i].2.cells:=by rw[ai (w3.ce u2 u4 u4 (by simp) hg),hcut]
   obtain⟨v'',s4,g',y1,y2,y3,y4⟩:=w2.more (.refl _ _ _) v1 (by simp;omega) (by omega);have zz:bt π 133=So zu:=KH;simp[i14,i15,i16,e3,ix,ld,aB,zz,aC bQ bL,hce,u1,aY];rw[ft (fl:=[(5,0)])]
   ·simp[i16,hva,e4,rn,w1,aX,rx3,v2 s3,y1];refine⟨_,_,⟨rfl,rfl⟩,by simp[i14],by simp[i15],by simp,M++H.vs++l.list[i].2.dj,⟨by simp[j1],by simpa using y2,j3.trans ((kG.of u3 (by simp) (by simp)).trans ((kG.of w3 (by simp) (λx hx=>(w4 x hx).1)).trans (kG.of y3 (by simp) (λx hx=>(y4 x hx).1)))),by have:=y3.next;omega⟩,?_⟩;simpa using jE
   ·kernel_rfl
   ·intro R' hR';simp[hva,rn,w1,aX,rx3,v2 s3,y1]at hR';subst hR';simp only[Q9,J1,Q6];refine cZ rfl rfl rfl (s:=s2) ?_;simp[aX,rx])
  (by rintro t' s' ⟨i14,i15,i16,M,⟨j1,j2,j3,j4⟩,jE⟩;simp[i15,i16,aa.aF];obtain⟨f,hf⟩:=uZ l;rw[hf]at jE;simp only[aa.lj,Q2]at jE;rw[jE]at j2;exact⟨_,_,⟨rfl,rfl⟩,by simp[j1],by simpa using j2,j3,j4⟩)
 clear hL;exact⟨t1,s1,by simp,p0⟩
theorem UP:∀x,Cf c x:=by
 refine Ex.ind λk nm num ps b a l hb ha hl=>?_
 intro hT hs hbn N hN;cases N
 ·omega
 rename_i N;have hsz:(Ex.mk k nm num ps b a l).size=1+b.size+a.size+l.size:=by simp only[Ex.size]
 have hTy:=hT;simp only[Ex.Ty]at hT;obtain⟨hkb,hps,hTb,hTa,hTl⟩:=hT;have hbe:(Ex.mk k nm num ps b a l).dj=aL ps++(b.jq++(a.ee++l.lj)):=by simp only[Ex.dj]
 rw[hbe]at hbn;simp only[Q3]at hbn
 suffices hh:∃v1 s1,aJ c N f56 (f56.body.getD .skip) [.ag (Ex.mk k nm num ps b a l).cells] ay=So (v1,s1)/\qI s1 1 v1 ((Ex.mk k nm num ps b a l).dj) by
  obtain⟨v1,s1,q1,g,q2⟩:=hh;obtain⟨w,h3,h4⟩:=q2.fz (Nat.zero_le _) (Q0 1) (fV.pure (kR _));have hw:cz w ((Ex.mk k nm num ps b a l).dj.map .s):=by
   rcases h4 with ⟨rfl,h5,h6⟩|rfl
   ·exact .inl ⟨rfl,h6⟩
   ·right;rw[J6]
  exact⟨w,hw,λst=>CO rfl rfl rfl rfl (by decide) (by simp[aA,aE,Ex.Aa hTy]) func56 rfl (J3 rfl) (hw.pure (kR _)) ⟨_,_,q1,h3⟩⟩
 unfold aJ;show ∃v1 s1,fN π f56.results.toList (ao (fP 0) ⟨π,Tw c N,Ff,f56.ntmps,N⟩ (tmpsOf [.ag (Ex.mk k nm num ps b a l).cells] 0 .lf) ay)=So (v1,s1)/\_
 have c1:=bq (st:=ay) (Ex.mk k nm num ps b a l).cells;obtain⟨s1,hs1⟩:∃s,ay.aj (Ex.mk k nm num ps b a l).cells=s:=⟨_,rfl⟩;have n1:s1.next=1:=by rw[<-hs1];rfl
 rw[hs1]at c1;have r3:rd s1 ay.next 3 1=So [ps]:=by rw[ai c1];rfl
 obtain⟨w,s2,f1,f2,f3⟩:=VC (c:=c) (DW hps) (by omega) (N:=N) (by omega);rw[n1]at f2;have c2:=f3.ce c1 (by rw[n1];decide) (by rw[n1];decide) (by simp) (by simp);have cl:(AV.ag (Ex.mk k nm num ps b a l).cells).cells=So (Ex.mk k nm num ps b a l).cells:=gh _;generalize hcl:(Ex.mk k nm num ps b a l).cells=cells at*;have a0:∃t,ao (au (fP 0)) ⟨π,Tw c N,Ff,f56.ntmps,N⟩ (tmpsOf [.ag cells] 0 .lf) ay=.nx t s1/\ab t 1=.p ay.next 0:=by simp[fP,au,f56,hs1]
 obtain⟨t1,a0,d1⟩:=a0;have a1:∃t,ao (au (fP 1)) ⟨π,Tw c N,Ff,f56.ntmps,N⟩ t1 s1=.nx t s2/\ab t 1=.p ay.next 0/\ab t 3=w:=by simp[fP,au,aw,f56,d1,r3,f1]
 obtain⟨t2,a1,e1,e3⟩:=a1;have n2:=f3.next;rw[<-hcl]at c2;have z0:ay.next<1:=Nat.one_pos;obtain⟨t3,s3,a2,B3⟩:=WZ (al:=0) hTb (by omega) hb ⟨e1,by rw[e3];exact f2,.refl _ _,by omega⟩ c2 z0 (by omega) (N:=N) (by omega);have c3:=B3.2.2.1.2 _ _ _ _ z0 z0 c2 (by omega) (by omega);obtain⟨t4,s4,a3,B4⟩:=WY hTa (by omega) ha ⟨B3.1,B3.2.1,.refl _ _,B3.2.2.2⟩ c3 (by simp;omega) (N:=N) (by omega);have c4:=B4.2.2.1.2 _ _ _ _ z0 z0 c3 (by have:=B3.2.2.2;omega) (by have:=B3.2.2.2;omega);obtain⟨t5,s5,a4,B5⟩:=Xa hTl (by omega) hl ⟨B4.1,B4.2.1,.refl _ _,B4.2.2.2⟩ c4 (by simp;omega) (N:=N) (by omega);rw[show ao (fP 0) ⟨π,Tw c N,Ff,f56.ntmps,N⟩ (tmpsOf [.ag cells] 0 .lf) ay=bW (ao (au (fP 0)) ⟨π,Tw c N,Ff,f56.ntmps,N⟩ (tmpsOf [.ag cells] 0 .lf) ay) (ao (fP 1) ⟨π,Tw c N,Ff,f56.ntmps,N⟩) from rfl,a0,dN];rw[show ao (fP 1) ⟨π,Tw c N,Ff,f56.ntmps,N⟩ t1 s1=bW (ao (au (fP 1)) ⟨π,Tw c N,Ff,f56.ntmps,N⟩ t1 s1) (ao (fP 2) ⟨π,Tw c N,Ff,f56.ntmps,N⟩) from rfl,a1,dN];rw[show ao (fP 2) ⟨π,Tw c N,Ff,f56.ntmps,N⟩ t2 s2=bW (ao (au (fP 2)) ⟨π,Tw c N,Ff,f56.ntmps,N⟩ t2 s2) (ao (fP 3) ⟨π,Tw c N,Ff,f56.ntmps,N⟩) from rfl,a2,dN];rw[show ao (fP 3) ⟨π,Tw c N,Ff,f56.ntmps,N⟩ t3 s3=bW (ao (au (fP 3)) ⟨π,Tw c N,Ff,f56.ntmps,N⟩ t3 s3) (ao (fP 4) ⟨π,Tw c N,Ff,f56.ntmps,N⟩) from rfl,a3,dN];rw[show ao (fP 4) ⟨π,Tw c N,Ff,f56.ntmps,N⟩ t4 s4=bW (ao (au (fP 4)) ⟨π,Tw c N,Ff,f56.ntmps,N⟩ t4 s4) (ao (fP 5) ⟨π,Tw c N,Ff,f56.ntmps,N⟩) from rfl,a4,dN];refine⟨ab t5 3,s5,?_,?_⟩
 ·simp[fP,aw,f56]
 ·rw[hbe];have:=B5.2.1;simpa using this
def dY(T:List ae)(n k:Nat)(L:List ae):Prop:=L.Nodup/\∀s∈L,∃m,n<m/\m<=k/\s=dt m/\s∉T
theorem dY.nil{k:Nat}:dY T n k []:=⟨List.nodup_nil,λs h=>by grind⟩
theorem dY.mono{k k':Nat}(h:dY T n k L)(h1:n'<=n)(h2:k<=k'):dY T n' k' L :=
 ⟨h.1,λs hs=>by have⟨m,a,b,d,e⟩:=h.2 s hs;grind⟩
theorem dY.app{k:Nat}(h:dY T n m L)(g:dY T m k M)(h1:n<=m)(h2:m<=k):dY T n k (L++M):=by
 refine⟨J8.2 ⟨h.1,g.1,λa ha b hb=>?_⟩,λs hs=>?_⟩
 ·obtain⟨i,-,i2,i3,-⟩:=h.2 a ha;obtain⟨j,j1,-,j3,-⟩:=g.2 b hb;grind[Ja]
 ·rcases List.mem_append.1 hs with hs|hs
  ·exact(h.mono (Q0 _) h2).2 s hs
  ·exact(g.mono h1 (Q0 _)).2 s hs
theorem dY.perm{k:Nat}(h:dY T n k L)(p:M.Perm L):dY T n k M :=
 ⟨p.nodup_iff.2 h.1,λs hs=>h.2 s (p.mem_iff.1 hs)⟩
theorem dY.left{k:Nat}(h:dY T n k (L++M)):dY T n k L :=
 ⟨(J8.1 h.1).1,λs hs=>h.2 s (List.mem_append_left _ hs)⟩
theorem dY.right{k:Nat}(h:dY T n k (L++M)):dY T n k M :=
 ⟨(J8.1 h.1).2.1,λs hs=>h.2 s (List.mem_append_right _ hs)⟩
theorem dY.names{k:Nat}(h:dY T n k L)(hk:k<1000000):ez L=true:=by unfold ez;simp only[Q1,List.all_eq_true,decide_eq_true_eq];refine⟨λs hs=>?_,h.1⟩;obtain⟨m,-,h2,rfl,-⟩:=h.2 s hs;exact Jb (by omega)
theorem dY.one(n:Nat):dY T n (bY T n) [dt (bY T n)] :=
 ⟨by simp,λs hs=>by grind[A9,PT]⟩
section
variable(T:List ae)
theorem ub:∀(l:List ae) (S:aU) (n:Nat),n<=(aI T S l n).2.2/\(aI T S l n).2.1.length=l.length/\dY T n (aI T S l n).2.2 (aI T S l n).2.1/\
  (∀z,z∉l->(aI T S l n).1 z=S z)/\(∀z,z∈l->∃y,y∈(aI T S l n).2.1/\(aI T S l n).1 z=So y)/\
  (l.Nodup->∀i (h:i<l.length) (h':i<(aI T S l n).2.1.length),(aI T S l n).1 l[i]=So (aI T S l n).2.1[i])
 |[],S,n=>⟨Q0 _,rfl,.nil,λ_ _=>rfl,(λz hz=>(List.not_mem_nil hz).elim),(λ_ i h=>absurd h (Nat.not_lt_zero i))⟩
 |x::l,S,n=>by
  have⟨h1,h2,h3,h4,h5,h6⟩:=ub l (sj S x (dt (bY T n))) (bY T n);have hg:=A9 T n;simp only[aI];refine⟨by omega,by grind,(dY.one n).app h3 (by omega) h1,λz hz=>?_,λz hz=>?_,λhd i hi hi'=>?_⟩
  ·grind[sj]
  ·grind[sj]
  grind[sj]
end
theorem GL:∀l:aa,l.jq.Perm (l.names++l.ee)
 |.nil f=>by simp[aa.jq,aa.names,aa.ee,aa.list]
 |.cons p x l=>by
  have ih:=GL l;have hn:(aa.cons p x l).names=eD (p,x)::l.names:=by simp[aa.names,aa.list]
  rw[hn];simp only[aa.jq,aa.ee,List.cons_append];refine List.Perm.cons _ ?_;refine(List.Perm.append_left _ ih).trans ?_;rw[<-Q4,<-Q4];exact List.Perm.append_right _ List.perm_append_comm
theorem aec(late:aa)(out:Ex):(jA late out).dj=late.jq++out.dj:=by
 cases late with
 |nil f=>simp[jA,aa.jq]
 |cons p x l=>simp[jA,Ex.dj,aa.ee,aa.lj,aL]
theorem PK(p:List AV)(x:Ex)(l:aa):(aa.cons p x l).names=eD (p,x)::l.names:=by simp[aa.names,aa.list]
theorem ET(T:List ae):∀(l:aa) (S:aU) (ns:List ae) (n:Nat),l.len<=ns.length->(cy T l S ns n).1.names=ns.take l.len
 |.nil f,S,ns,n,h=>by simp[cy,aa.names,aa.list,aa.len]
 |.cons p x l,S,[],n,h=>by simp[aa.len]at h
 |.cons p x l,S,y::ns,n,h=>by simp only[cy,aa.len,PK,List.tail_cons];rw[ET T l S ns _ (by simpa[aa.len]using h)];simp[eD,fo]
section
variable(T:List ae)
theorem yM(h:k<=(i:Int)/\(bm T x S n).1.atom=Ff):
  bM T (.cons p x l) S k i n=(.cons [] (jU (dt (bY T (bm T x S n).2))) (bM T l S k (i+1) (bY T (bm T x S n).2)).1,.cons [.s (dt (bY T (bm T x S n).2))] (bm T x S n).1 (bM T l S k (i+1) (bY T (bm T x S n).2)).2.1,(bM T l S k (i+1) (bY T (bm T x S n).2)).2.2):=by
 rw[bM];grind
theorem wW(h:¬(k<=(i:Int)/\(bm T x S n).1.atom=Ff)):
  bM T (.cons p x l) S k i n=(.cons [] (bm T x S n).1 (bM T l S k (i+1) (bm T x S n).2).1,(bM T l S k (i+1) (bm T x S n).2).2.1,(bM T l S k (i+1) (bm T x S n).2).2.2):=by
 rw[bM];grind
mutual
theorem Jl:∀(x:Ex) (S:aU) (n:Nat),n<=(bm T x S n).2/\dY T n (bm T x S n).2 (bm T x S n).1.dj
 |.mk k nm num ps b a l,S,n=>by
  unfold bm;by_cases h1:k=1
  ·rw[if_pos h1];refine⟨Q0 _,?_⟩;exact .nil
  ·rw[if_neg h1];simp only;obtain⟨a1,a2,a3,-⟩:=ub T (aL ps) S n;generalize aI T S (aL ps) n=w1 at*;obtain⟨b1,b2,b3,-⟩:=ub T b.names w1.1 w1.2.2;generalize aI T w1.1 b.names w1.2.2=w2 at*;rw[fg]at b2;have⟨c1,c2⟩:=ES b w2.1 w2.2.1 w2.2.2;have c3:=ET T b w2.1 w2.2.1 w2.2.2 (by omega);generalize cy T b w2.1 w2.2.1 w2.2.2=rb at*;have⟨d1,d2⟩:=EO a w2.1 (fm strF k nm a.len) 0 rb.2;generalize bM T a w2.1 (fm strF k nm a.len) 0 rb.2=ra at*;have⟨e1,e2⟩:=Qy l w2.1 ra.2.2;refine⟨by omega,?_⟩;rw[aec];simp only[Ex.dj,xF];have hB:=GL rb.1;refine dY.perm ((a3.app b3 a1 b1).app (c2.app (d2.app e2 d1 e1) c1 (by omega)) (by omega) (by omega)) ?_;grind
theorem ES:∀(l:aa) (S:aU) (ns:List ae) (n:Nat),n<=(cy T l S ns n).2/\dY T n (cy T l S ns n).2 (cy T l S ns n).1.ee
 |.nil _,_,_,_=>by simp only[cy,aa.ee];exact⟨Q0 _,.nil⟩
 |.cons p x l,S,ns,n=>by simp only[cy,aa.ee];have⟨h1,h2⟩:=Jl x S n;have⟨g1,g2⟩:=ES l S ns.tail (bm T x S n).2;exact⟨by omega,h2.app g2 h1 g1⟩
theorem EO:∀(l:aa) (S:aU) (k:Int) (i n:Nat),n<=(bM T l S k i n).2.2/\dY T n (bM T l S k i n).2.2 ((bM T l S k i n).1.ee++(bM T l S k i n).2.1.jq)
 |.nil _,_,_,_,_=>by simp only[bM,aa.ee,aa.jq];exact⟨Q0 _,.nil⟩
 |.cons p x l,S,k,i,n=>by
  have⟨h1,h2⟩:=Jl x S n;by_cases hc:k<=(i:Int)/\(bm T x S n).1.atom=Ff
  ·rw[yM T hc];have⟨g1,g2⟩:=EO l S k (i+1) (bY T (bm T x S n).2);have hg:=A9 T (bm T x S n).2;simp only;generalize bM T l S k (i+1) (bY T (bm T x S n).2)=q at*;refine⟨by omega,?_⟩;simp only[aa.ee,aa.jq,jU,Ex.dj,aa.lj,aL,J5,eD,List.headD_cons,fo];refine dY.perm ((h2.app (dY.one (bm T x S n).2) h1 (by omega)).app g2 (by omega) g1) ?_;rw[List.perm_iff_count];intro z;simp only[List.count_append,List.count_cons,List.count_nil];omega
  ·rw[wW T hc];have⟨g1,g2⟩:=EO l S k (i+1) (bm T x S n).2;simp only;generalize bM T l S k (i+1) (bm T x S n).2=q at*;refine⟨by omega,?_⟩;simp only[aa.ee,Q4];exact h2.app g2 h1 g1
theorem Qy:∀(l:aa) (S:aU) (n:Nat),n<=(dz T l S n).2/\dY T n (dz T l S n).2 (dz T l S n).1.lj
 |.nil _,_,_=>by simp only[dz,aa.lj];exact⟨Q0 _,.nil⟩
 |.cons p x l,S,n=>by
  simp only[dz,aa.lj];obtain⟨a1,a2,a3,-⟩:=ub T (aM (p,x)).vs S n;generalize aI T S (aM (p,x)).vs n=w at*;have⟨h1,h2⟩:=Jl x w.1 w.2.2;have⟨g1,g2⟩:=Qy l S (bm T x w.1 w.2.2).2;refine⟨by omega,?_⟩;have:(aM ([.i .i64 (aM (p,x)).k,.s (aM (p,x)).n,.i .i64 (aM (p,x)).m,cJ w.2.1],(bm T x w.1 w.2.2).1)).vs=w.2.1:=by simp[aM,xF]
  rw[this];exact a3.app (h2.app g2 h1 g1) a1 (by omega)
end
end
structure TG(k:Int)(ps bl al ll:Nat):Prop where
 p5:k≠5->ps=0
 b7:k≠7->bl=0
 l8:k≠8->ll=0
 a1:k=5\/k=7\/k=8->al=1
 a0:k=1\/k=2\/k=3->al=0
 lo:1<=k
 hi:k<=9
 p32:ps<=32
theorem vp{ps:List ae}(h:cQ C sc k nm num ps b a l=Tt):TG k ps.length b.len a.len l.len:=by
 unfold cQ dL at h;generalize ps.length=p at*;by_cases h1:k=1
 ·subst h1;simp at h;constructor<;>omega
 by_cases h2:k=2
 ·subst h2;simp at h;constructor<;>omega
 by_cases h3:k=3
 ·subst h3;simp at h;constructor<;>omega
 by_cases h4:k=4
 ·subst h4;simp at h;constructor<;>omega
 by_cases h5:k=5
 ·subst h5;simp at h;constructor<;>omega
 by_cases h6:k=6
 ·subst h6;simp at h;constructor<;>omega
 by_cases h7:k=7
 ·subst h7;simp at h;constructor<;>omega
 by_cases h8:k=8
 ·subst h8;simp at h;constructor<;>omega
 by_cases h9:k=9
 ·subst h9;simp at h;constructor<;>omega
 simp[h1,h2,h3,h4,h5,h6,h7,h8,h9]at h
theorem Ya{ps ps':List ae}{b' a' l':aa}(hk:k≠1)(h:cQ C sc k nm num ps b a l=Tt)
  (e1:ps'.length=ps.length) (e2:b'.len=b.len) (e3:a'.len=a.len) (e4:l'.len=l.len) (n1:ez ps'=Tt) (n2:ez b'.names=Tt) (hA:jJ C l.bB=Tt->jJ C l'.bB=Tt):cQ C sc' k nm num ps' b' a' l'=true:=by
 grind[cQ]
def HR(a b:dh):Prop:=a.k=b.k/\a.n=b.n/\a.m=b.m/\a.vs.length=b.vs.length/\ez b.vs=Tt
def Cj:List dh->List dh->Prop
 |[],[]=>True
 |a::l,b::m=>HR a b/\Cj l m
 |[],_::_=>False
 |_::_,[]=>False
theorem T9(l:List dh)(x:Int):l.all (λb=>decide (b.m≠x))=(l.map dh.m).all (λm=>decide (m≠x)):=by grind
theorem LD{C:ae->Option AV}:∀{H H' pre pre':List dh}{kind:Int}{typ:ae}{sm:Bool}{seen:List ae},Cj H H'->pre.map dh.m=pre'.map dh.m->bO C pre H kind typ sm seen=Tt->bO C pre' H' kind typ sm seen=Tt
 |[],[],_,_,_,_,_,_,_,_,_=>by simp only[bO]
 |[],_::_,_,_,_,_,_,_,h,_,_=>h.elim
 |_::_,[],_,_,_,_,_,_,h,_,_=>h.elim
 |a::l,a'::l',pre,pre',kind,typ,sm,seen,⟨⟨e1,e2,e3,e4,e5⟩,hs⟩,hp,h=>by
  have hp':(pre++[a]).map dh.m=(pre'++[a']).map dh.m:=by grind
  have ih:=λ(kind:Int) (typ:ae) (sm:Bool) (seen:List ae) (h:bO C (pre++[a]) l kind typ sm seen=Tt)=>LD hs hp' h
  have he:l'.isEmpty=l.isEmpty:=by
   cases l with
   |nil=>cases l' with
    |nil=>rfl
    |cons y m=>exact hs.elim
   |cons x l=>cases l' with
    |nil=>exact hs.elim
    |cons y m=>rfl
  unfold bO at h|-;rw[T9,hp]at h;grind
theorem Uc{H H':List dh}(h:Cj H H')(g:jJ C H=Tt):jJ C H'=true:=by
 unfold jJ at g|-;rw[Q1]at g|-;refine⟨?_,LD h rfl g.2⟩;cases H with
 |nil=>grind
 |cons a l=>cases H' with
  |nil=>exact h.elim
  |cons b m=>rfl
def kX(S:aU)(sc sc':List (List ae)):Prop:=∀s,hasB sc s=Tt->hasB sc' ((S s).getD s)=Tt
def uq(S:aU):Prop:=∀s y,S s=So y->named y=Tt
theorem lZ(l:List ae)(sc:List (List ae))(s:ae):hasB (l::sc) s=Tt↔s∈l\/hasB sc s=true:=by unfold hasB;simp
theorem kX.adZ(h:kX S sc sc')(A:List ae):kX S sc (A::sc'):=λs hs=>(lZ _ _ _).2 (.inr (h s hs))
section
variable(T:List ae)
theorem kX.aI{S:aU}{sc sc':List (List ae)}(h:kX S sc sc')(l:List ae)(n:Nat):kX (aI T S l n).1 (l::sc) ((Go.Proofs.YtnmofhngblebiaaGreatDoor.aI T S l n).2.1::sc'):=by
 obtain⟨-,-,-,h4,h5,-⟩:=ub T l S n;intro s hs;rw[lZ]at hs|-;by_cases hl:s∈l
 ·have⟨y,y1,y2⟩:=h5 s hl;left;rw[y2];exact y1
 ·right;rw[h4 s hl];exact h s (hs.resolve_left hl)
theorem uq.aI{S:aU}(h:uq S)(l:List ae)(n:Nat)(hk:(Go.Proofs.YtnmofhngblebiaaGreatDoor.aI T S l n).2.2<1000000):uq (Go.Proofs.YtnmofhngblebiaaGreatDoor.aI T S l n).1:=by
 obtain⟨-,-,h3,h4,h5,-⟩:=ub T l S n;intro s y hs;by_cases hl:s∈l
 ·have⟨z,y1,y2⟩:=h5 s hl;rw[y2]at hs;cases hs;obtain⟨m,-,m2,rfl,-⟩:=h3.2 _ y1;exact Jb (by omega)
 ·rw[h4 s hl]at hs;exact h s y hs
end
theorem Et(h:l.len=0):∃f,l=.nil f:=by
 cases l with
 |nil f=>grind
 |cons p x l=>simp[aa.len]at h
theorem Qv(T:List ae):∀(l:aa) (S:aU) (k:Int) (i n:Nat),(i:Int)+l.len<=k->(bM T l S k i n).2.1=.nil Tt
 |.nil _,_,_,_,_,_=>by simp only[bM]
 |.cons p x l,S,k,i,n,h=>by simp only[aa.len]at h;rw[wW T (by omega)];exact Qv T l S k (i+1) _ (by omega)
theorem ZX(h:(∃f,late=.nil f)->dQ C out sc=Tt)(g:(∀f,late≠.nil f)->dQ C out (late.names::sc)=Tt/\cS C late (late.names::sc)=Tt/\ez late.names=Tt):dQ C (jA late out) sc=true:=by
 cases late with
 |nil f=>exact h ⟨f,rfl⟩
 |cons p x l=>grind[jA,dQ,cQ,dL,aL,aa.len,cS,de,fF]
theorem N6{A:List ae}{s:ae}(h:hasB sc s=Tt):hasB (A::sc) s=true:=(lZ _ _ _).2 (.inr h)
def AP(late:aa)(sc:List (List ae)):List (List ae):=match late with
 |.nil _=>sc
 |.cons p x l=>(aa.cons p x l).names::sc
theorem YL(h:kX S sc sc'):kX S sc (AP late sc'):=by
 cases late with
 |nil f=>exact h
 |cons p x l=>exact h.adZ _
theorem YK:∀s∈late.names,hasB (AP late sc) s=true:=by
 cases late with
 |nil f=>grind[aa.names,aa.list]
 |cons p x l=>intro s hs;exact(lZ _ _ _).2 (.inl hs)
theorem ZY(h1:dQ C out (AP late sc)=Tt)(h2:cS C late (AP late sc)=Tt)(h3:ez late.names=Tt):dQ C (jA late out) sc=true :=
 ZX (λ⟨f,hf⟩=>by subst hf;exact h1) (λhn=>by
  cases late with
  |nil f=>grind
  |cons p x l=>exact⟨h1,h2,h3⟩)
theorem ID(h:l.len=0):l.names=[]:=Q7 (by rw[fg];grind)
theorem YM{k:Nat}{A:aa}(h:dY T n k (A.ee++late.jq))(hk:k<1000000):ez late.names=true :=
 ((h.right.perm (GL late).symm).left).names hk
section
variable(T:List ae)(C:ae->Option AV)
mutual
theorem Jn:∀(x:Ex) (S:aU) (n:Nat) (sc sc':List (List ae)),dQ C x sc=Tt->kX S sc sc'->uq S->dK T n+x.wt<1000000->dQ C (bm T x S n).1 sc'=Tt
 |.mk k nm num ps b a l,S,n,sc,sc',h,hS,hN,hp=>by
  simp only[dQ,Q1]at h;have⟨hh,oa,ob,ol⟩:=h;have F:=vp hh;simp only[Ex.wt]at hp;unfold bm;by_cases h1:k=1
  ·rw[if_pos h1];subst h1;have q1:=F.p5 (by decide);simp only[dQ,cS,fF,Q6];unfold cQ at hh|-;rw[if_pos rfl]at hh|-;simp only[Q1]at hh|-;have⟨g1,g2,g3⟩:=hh;refine⟨?_,?_,hS nm g3⟩
   ·grind[dL,aL,aa.len]
   ·cases hs:S nm with
    |none=>grind
    |some y=>exact hN nm y hs
  ·rw[if_neg h1];simp only;have W1:=ub T (aL ps) S n;have R1:=λsc sc' (h:kX S sc sc')=>h.aI T (aL ps) n
   have M1:=hN.aI T (aL ps) n;have P1:=sw T (aL ps) S n;have Z1:(aL ps)=[]->aI T S (aL ps) n=(S,[],n):=λh=>by rw[h];rfl
   generalize aI T S (aL ps) n=w1 at*;have W2:=ub T b.names w1.1 w1.2.2;have M2:=λh=>uq.aI T (S:=w1.1) h b.names w1.2.2
   have R2:=λsc sc' (h:kX w1.1 sc sc')=>h.aI T b.names w1.2.2
   have P2:=sw T b.names w1.1 w1.2.2;have Z2:b.names=[]->aI T w1.1 b.names w1.2.2=(w1.1,[],w1.2.2):=λh=>by rw[h];rfl
   generalize aI T w1.1 b.names w1.2.2=w2 at*;rw[fg]at P2;obtain⟨a1,a2,a3,-⟩:=W1;obtain⟨b1,b2,b3,-⟩:=W2;rw[fg]at b2;have K1:=oO T w1.2.2;have K2:=oO T w2.2.2;have c3:=ET T b w2.1 w2.2.1 w2.2.2 (by omega);rw[List.take_of_length_le (by omega)]at c3;have cl:=Jh (T:=T) b w2.1 w2.2.1 w2.2.2;have cp:=Br T b w2.1 w2.2.1 w2.2.2;have HB:=Jj b w2.1 w2.2.1 w2.2.2;generalize cy T b w2.1 w2.2.1 w2.2.2=rb at*;have⟨d1,d2⟩:=EO T a w2.1 (fm strF k nm a.len) 0 rb.2;have dl:=EP (T:=T) a w2.1 (fm strF k nm a.len) 0 rb.2;have dp:=Bq T a w2.1 (fm strF k nm a.len) 0 rb.2;have HA:=Jf a w2.1 (fm strF k nm a.len) 0 rb.2;have ZA:k=5\/k=7\/k=8->(bM T a w2.1 (fm strF k nm a.len) 0 rb.2).2.1=.nil true:=λh=>by refine Qv T a _ _ _ _ ?_;unfold fm;rw[if_neg (by omega),if_neg (by omega),if_neg (by omega)];omega
   generalize bM T a w2.1 (fm strF k nm a.len) 0 rb.2=ra at*;have el:=Jp (T:=T) l w2.1 ra.2.2;have ep:=EV T l w2.1 ra.2.2;have HL:=QB l w2.1 ra.2.2;generalize dz T l w2.1 ra.2.2=rl at*;have P1':=P1.1;have P2':=P2.1;have K3:=oO T ra.2.2;have m1:=M1 (by omega);have m2:=M2 m1 (by omega);have nl:=YM d2 (by omega);have hn1:=a3.names (by omega);have hn2:ez rb.1.names=true:=by rw[c3];exact b3.names (by omega)
   obtain⟨sc2,hsc2⟩:∃s,AP ra.2.1 sc'=s:=⟨_,rfl⟩;have hS2:kX S sc sc2:=by rw[<-hsc2];exact YL hS
   have hlt:∀s∈ra.2.1.names,hasB sc2 s=true:=by rw[<-hsc2];exact YK
   have SI:kX w2.1 (de k (aL ps) b sc) (de k w1.2.1 rb.1 sc2):=by
    unfold de;by_cases k5:k=5
    ·rw[if_pos k5,if_pos k5];have:=Z2 (ID (F.b7 (by omega)));rw[this];exact R1 _ _ hS2
    ·rw[if_neg k5,if_neg k5];have z1:=Z1 (Q7 (F.p5 k5));by_cases k7:k=7
     ·rw[if_pos k7,if_pos k7,c3];exact R2 _ _ (by rw[z1];exact hS2)
     ·rw[if_neg k7,if_neg k7,Z2 (ID (F.b7 k7)),z1];exact hS2
   have hlt':∀s∈ra.2.1.names,hasB (de k w1.2.1 rb.1 sc2) s=true:=λs hs=>by
    have:=hlt s hs;unfold de;split
    ·exact N6 this
    ·split
     ·exact N6 this
     ·exact this
   have⟨A1,A2⟩:=HA _ _ oa SI m2 (by omega) hlt';have B1:=HB _ _ ob SI m2 (by omega);have hl8:fF C rl.1 sc2=Tt/\(jJ C l.bB=Tt->jJ C rl.1.bB=Tt):=by
    by_cases k8:k=8
    ·have z1:=Z1 (Q7 (F.p5 (by omega)));have z2:=Z2 (ID (F.b7 (by omega)));have⟨q1,q2⟩:=HL sc sc2 ol (by rw[z2,z1];exact hS2) m2 (by omega);exact⟨q1,Uc q2⟩
    ·have hl0:=F.l8 k8;have⟨f,hf⟩:=Et (l:=rl.1) (by omega);rw[hf];have⟨f',hf'⟩:=Et hl0;rw[hf'];exact⟨by simp only[fF],λh=>by simp[jJ,aa.bB,aa.list]at h⟩
   refine ZY ?_ ?_ nl
   ·rw[hsc2];simp only[dQ,Q1,xF];exact⟨Ya h1 hh a2 cl dl el hn1 hn2 hl8.2,A1,B1,hl8.1⟩
   ·rw[hsc2];by_cases k578:k=5\/k=7\/k=8
    ·rw[ZA k578];simp only[cS]
    ·have hi:de k w1.2.1 rb.1 sc2=sc2:=by
      unfold de;rw[if_neg (by omega),if_neg (by omega)]
     rw[hi]at A2;exact A2
theorem Jj:∀(l:aa) (S:aU) (ns:List ae) (n:Nat) (sc sc':List (List ae)),cS C l sc=Tt->kX S sc sc'->uq S->dK T n+l.wt<1000000->cS C (cy T l S ns n).1 sc'=Tt
 |.nil _,_,_,_,_,_,_,_,_,_=>by simp only[cy,cS]
 |.cons p x l,S,ns,n,sc,sc',h,hS,hN,hp=>by simp only[cS,Q1]at h;simp only[aa.wt]at hp;have:=rL T x S n;simp only[cy,cS,Q1];exact⟨Jn x S n sc sc' h.1 hS hN (by omega),Jj l S ns.tail _ sc sc' h.2 hS hN (by omega)⟩
theorem Jf:∀(l:aa) (S:aU) (k:Int) (i n:Nat) (sc sc':List (List ae)),cS C l sc=Tt->kX S sc sc'->uq S->dK T n+(l.len+l.wt)<1000000->(∀s∈(bM T l S k i n).2.1.names,hasB sc' s=Tt)->cS C (bM T l S k i n).1 sc'=Tt/\cS C (bM T l S k i n).2.1 sc'=Tt
 |.nil _,_,_,_,_,_,_,_,_,_,_,_=>by simp only[bM,cS];exact⟨trivial,trivial⟩
 |.cons p x l,S,k,i,n,sc,sc',h,hS,hN,hp,hl=>by
  simp only[cS,Q1]at h;simp only[aa.wt,aa.len]at hp;have p1:=rL T x S n;have e1:=Jn x S n sc sc' h.1 hS hN (by omega);by_cases hc:k<=(i:Int)/\(bm T x S n).1.atom=Ff
  ·rw[yM T hc]at hl|-;have p2:=yL T (bm T x S n).2;have p3:=oO T (bY T (bm T x S n).2);simp only[PK,List.mem_cons,forall_eq_or_imp]at hl;have⟨q1,q2⟩:=Jf l S k (i+1) _ sc sc' h.2 hS hN (by omega) hl.2;simp only[cS,Q1];refine⟨⟨?_,q1⟩,e1,q2⟩;simp only[jU,dQ,cS,fF,Q6];unfold cQ dL;rw[if_pos rfl];simp[aL,aa.len];exact⟨Jb (by omega),by simpa[eD,fo]using hl.1⟩
  ·rw[wW T hc]at hl|-;have⟨q1,q2⟩:=Jf l S k (i+1) _ sc sc' h.2 hS hN (by omega) hl;simp only[cS,Q1];exact⟨⟨e1,q1⟩,q2⟩
theorem QB:∀(l:aa) (S:aU) (n:Nat) (sc sc':List (List ae)),fF C l sc=Tt->kX S sc sc'->uq S->dK T n+l.kD<1000000->fF C (dz T l S n).1 sc'=Tt/\Cj l.bB (dz T l S n).1.bB
 |.nil _,_,_,_,_,_,_,_,_=>by simp only[dz,fF];exact⟨trivial,trivial⟩
 |.cons p x l,S,n,sc,sc',h,hS,hN,hp=>by
  simp only[fF,Q1]at h;simp only[aa.kD]at hp;have hv:(aM (p,x)).vs=aL (p.getD 3 .un):=rfl;have W:=ub T (aM (p,x)).vs S n;have P:=(sw T (aM (p,x)).vs S n).1;have R:=hS.aI T (aM (p,x)).vs n;have M:=hN.aI T (aM (p,x)).vs n;simp only[dz];generalize aI T S (aM (p,x)).vs n=w at*;obtain⟨w1,w2,w3,-⟩:=W;have K:=oO T w.2.2;have m:=M (by omega);have p1:=rL T x w.1 w.2.2;have e1:=Jn x w.1 w.2.2 _ _ h.1 (by rw[<-hv];exact R) m (by omega);have⟨q1,q2⟩:=QB l S (bm T x w.1 w.2.2).2 sc sc' h.2 hS hN (by omega);have h1:(aM ([.i .i64 (aM (p,x)).k,.s (aM (p,x)).n,.i .i64 (aM (p,x)).m,cJ w.2.1],(bm T x w.1 w.2.2).1))=⟨(aM (p,x)).k,(aM (p,x)).n,(aM (p,x)).m,w.2.1⟩:=by simp[aM,xF,Go.Ev.intOf,fo]
  have hc:∀(p:List AV) (x:Ex) (l:aa),(aa.cons p x l).bB=aM (p,x)::l.bB:=λp x l=>by simp[aa.bB,aa.list]
  refine⟨?_,?_⟩
  ·simp only[fF,Q1];refine⟨?_,q1⟩;simpa[xF]using e1
  ·rw[hc,hc,h1];exact⟨⟨rfl,rfl,rfl,w2.symm,w3.names (by omega)⟩,q2⟩
end
end
end Go.Proofs.YtnmofhngblebiaaGreatDoor
end
