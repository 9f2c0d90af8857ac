/- A part of the proof. -/
import Derived.Test.YtnmofhngblebiaaGreatDoorS09
set_option maxRecDepth 100000
open Option renaming some->So
open Bool renaming true->Tt,false->Ff
open Nat renaming lt_of_lt_of_le->Q0,le_of_ble_eq_true->Q3,lt_succ_self->Q9,lt_succ_iff_lt_or_eq->Z7
open Bool renaming and_eq_true->Q1,and_true->Q7,eq_false_iff->J9,or_eq_true->Z5,not_eq_true'->Z6
open List renaming nil_append->Q2,cons_append->Q4,all_cons->Q5,all_nil->Q6,getElem_mem->Q8,drop_eq_nil_of_le->J3,all_eq_true->J5,getElem_of_mem->J6,getElem_take->J8,append_assoc->Z0,length_append->Z3,take_append_getElem->Z4,drop_append->Z8
open Iff renaming rfl->J1
open Classical renaming byContradiction->J4
open Go.Proofs.Tryz
open Go.Proofs.Tryz renaming prog->π
noncomputable section
open Go.Ev
namespace Go.Proofs.YtnmofhngblebiaaGreatDoor
variable {C:ae->Option AV}{H:List dh}{N cr i j mr:Nat}{S:Self}{c:Option Self}{fr v:AV}{l:aa}{s st:St}{sc:List (List ae)}{t:Tr AV}{w:Int}
set_option maxHeartbeats 8000000
def Ae(n:ae)(ar:Int)(ty:ae)(tag:Int):AV:=.ag [.s n,.i .i64 ar,.s ty,.i .i64 tag]
def zy(C:ae->Option AV):Prop:=∀s v,C s=So v->∃n ar ty tag,v=Ae n ar ty tag
def jr:AV->Int
 |.ag [_,.i _ ar,_,_]=>ar
 |_=>0
def oB:AV->ae
 |.ag [_,_,.s ty,_]=>ty
 |_=>[]
def bO(C:ae->Option AV):List dh->List dh->Int->ae->Bool->List ae->Bool
 |_,[],_,_,_,_=>Tt
 |pre,a::rest,kind,typ,sm,seen=>
  ez a.vs&&(decide (1<=a.k)&&(decide (a.k<=4) &&
   if a.k=4 then rest.isEmpty&&(decide (a.vs.length<=1)&&(decide (a.n=[])&&(decide (a.m=0)&&bO C (pre++[a]) rest kind typ sm seen)))
   else(decide (kind=0)||decide (a.k=kind)) &&
    if a.k≠1 then decide (a.n=[])&&(decide (a.vs.length=0)&&((decide (a.k≠3)||(decide (0<=a.m)&&decide (a.m<=255)))&&(pre.all (λb=>decide (b.m≠a.m))&&bO C (pre++[a]) rest a.k typ sm seen)))
    else decide (a.m=0)&&(decide (a.n∉seen)&&(named a.n&&match C a.n with
     |none=>Ff
     |some v=>decide (jr v=(a.vs.length:Int))&&((!sm||decide (oB v=typ))&&bO C (pre++[a]) rest a.k (oB v) Tt (seen++[a.n]))))))
def jJ(C:ae->Option AV)(H:List dh):Bool:=!H.isEmpty&&bO C [] H 0 [] Ff []
theorem wP:qH π 122 63 (.ag [.s [],.i .i64 0,.s [],.i .i64 0]):=⟨⟨9,underlying122,underlying9⟩,by kernel_rfl⟩
theorem Bp{p:List AV×Ex}(h:jw 4 p.1):∃vs,p.1=[.i .i64 (aM p).k,.s (aM p).n,.i .i64 (aM p).m,vs]/\cz vs ((aM p).vs.map .s)/\(aM p).vs.length<=9223372036854775807:=by have⟨k,n,m,vs,h1,h2⟩:=h;have⟨q,x⟩:=p;simp only at h1;subst h1;exact⟨vs,rfl,h2.sl.1,h2.sl.2⟩
structure Te(st s:St)(cr mr sr:Nat)(w w':Int)(C:ae->Option AV)(H:List dh)(i:Nat)(kind:Int)(typ:ae)(sm:Bool)(seen:List ae):Prop where
 ck:Ck s cr mr w' C
 mp:bZ s sr (ig seen)
 srl:sr<s.next
 kp:Kp [cr] [cr] st s
 go:(w'=0/\bO C (H.take i) (H.drop i) kind typ sm seen=Tt)↔(w=0/\bO C [] H 0 [] Ff []=Tt)
def KK(st:St)(cr mr sr:Nat)(w:Int)(C:ae->Option AV)(H:List dh)(v:AV)(i:Nat)(t:Tr AV)(s:St):Prop :=
 ab t 0=.p cr 0/\ab t 1=v/\ab t 8=.m sr/\ab t 17=v/\ab t 18=.i .i64 (H.length:Int)/\ab t 19=.i .i64 (i:Int)/\
 ∃kind typ sm seen w',ab t 5=.i .i64 kind/\ab t 6=.s typ/\ab t 7=.b sm/\Te st s cr mr sr w w' C H i kind typ sm seen
def Tf(st:St)(cr mr:Nat)(w:Int)(C:ae->Option AV)(H:List dh)(v:AV)(t:Tr AV)(s:St):Prop :=
 ab t 0=.p cr 0/\ab t 1=v/\∃w',Ck s cr mr w' C/\Kp [cr] [cr] st s/\(w'=0↔w=0/\bO C [] H 0 [] Ff []=Tt)
def xO(st:St)(cr mr:Nat)(w:Int)(C:ae->Option AV)(H:List dh)(t:Tr AV)(s:St):Prop :=
 ab t 4=.b Ff/\∃w',Ck s cr mr w' C/\Kp [cr] [cr] st s/\¬(w=0/\bO C [] H 0 [] Ff []=Tt)
def Tg(o:Option (AV×St))(st:St)(cr mr:Nat)(w:Int)(C:ae->Option AV)(H:List dh):Prop :=
 ∃b st' w',o=So (.b b,st')/\Ck st' cr mr w' C/\Kp [cr] [cr] st st'/\((b=Tt/\w'=0)↔(w=0/\jJ C H=Tt))
theorem EM(m:Int)(h:∀j (hj:j<H.length),j<i->H[j].m≠m):(H.take i).all (λb=>decide (b.m≠m))=true:=by
 rw[J5];intro b hb;obtain⟨j,hj,rfl⟩:=J6 hb;have hj':j<H.length:=by simp at hj;omega
 have hji:j<i:=by simp at hj;omega
 rw[J8];simpa using h j hj' hji
theorem EN(m:Int)(hj:j<H.length)(hji:j<i)(h:H[j].m=m):(H.take i).all (λb=>decide (b.m≠m))=false:=by
 rw[J9];intro hh;rw[J5]at hh;have:=hh H[j] (by
  have hq:j<(H.take i).length:=by simp;omega
  rw[<-J8];exact Q8 hq)
 simp[h]at this
def sG(st:St)(cr mr sr:Nat)(w1:Int)(C:ae->Option AV)(H:List dh)(v:AV)(i:Nat)(ak:Int)(typ:ae)(sm:Bool)(seen:List ae)(am:Int)(fl:List AV)(j:Nat)(t:Tr AV)(s:St):Prop :=
 (ab t 0=.p cr 0/\ab t 1=v/\ab t 8=.m sr/\ab t 17=v/\ab t 18=.i .i64 (H.length:Int)/\ab t 19=.i .i64 (i:Int))/\
 (ab t 5=.i .i64 ak/\ab t 6=.s typ/\ab t 7=.b sm/\ab t 11=.i .i64 am/\ab t 103=.rs fl i 11/\ab t 104=.i .i64 (i:Int)/\ab t 105=.i .i64 (j:Int))/\
 Ck s cr mr w1 C/\bZ s sr (ig seen)/\sr<s.next/\Kp [cr] [cr] st s/\∀k (hk:k<H.length),k<j->H[k].m≠am
theorem DS(hT:l.Ty 4)(hH:l.bB.length=l.len)(hj:j<l.list.length)(hji:j<i)(_:l.len<=1000000){sr:Nat}{w1:Int}{ak:Int}{typ:ae}{sm:Bool}{seen:List ae}{am:Int}
  (_:sG st cr mr sr w1 C l.bB v i ak typ sm seen am l.flat j t s):
  ∃cl r s2,indexAddr π 45 (.rs l.flat i 11) (.i .i64 (j:Int))=So (.rp (cl++r))/\(∀st,loadAt π 133 st (.rp (cl++r))=So (.ag cl))/\wt (s.aj xN) s.next 0 cl=So s2/\cl.length=11/\
   rd s2 s.next 2 1=So [.i .i64 (l.bB[j]'(by rw[hH,aa.aF];exact hj)).m]/\Kp [] [] s s2/\s.next<s2.next/\True:=by
 have hjl:j<l.len:=by rw[aa.aF];exact hj
 have hjH:j<l.bB.length:=by rw[hH];exact hjl
 obtain⟨r,r1,r2⟩:=eK hT.pre (show fH 4+7=11 from rfl) hj;have ix:=dP underlying45 bQ bL l.flat i j hji;rw[r1,<-Z0]at ix;have hTi:=aa.dC hT _ (Q8 hj);obtain⟨vs,hp,-⟩:=Bp hTi.1;have hce:(l.list[j].1++l.list[j].2.cells).length=11:=by rw[Z3,r2,Ex.bp];rfl
 have hsc:bH (l.list[j].1++l.list[j].2.cells)=true:=jk hTi.1.sc (Ex.eU hTi.2.wf);have hg:l.bB[j]=aM l.list[j]:=by simp[aa.bB]
 rw[<-hg]at hp;have g2:cut (l.list[j].1++l.list[j].2.cells) 2 1=So [.i .i64 l.bB[j].m]:=by rw[hp];rfl
 obtain⟨s2,u1,u2,u3,u4⟩:=bJ (z:=xN) hce hsc;exact⟨_,r,s2,ix,λst=>ei bQ xW bL hce,u1,hce,by rw[ai u2];exact g2,u3,u4,trivial⟩
theorem Ud(hT:l.Ty 4)(hlen:l.len<=1000000)(hC:zy C)(hk:Ck st cr mr w C)(hN:10000000000000000010<=N):
  Tg ((Tw c N).call 90 [.p cr 0,l.slice 11] st) st cr mr w C l.bB:=by
 cases N
 ·omega
 rename_i N;rw[dV rfl func90 rfl (Q3 rfl)];unfold aJ;have hH:l.bB.length=l.len:=by unfold aa.bB;rw[List.length_map,aa.aF]
 have ln:=λst:St=>bg (st:=st) underlying45 (l.bU 11) (l.bV 11)
 have hm:=bZ.new st;have km:=Kp.new (st:=st) [] [] (.mp [] 0);have kck:=hk.keep km (by simp) (by simp) (by simp);obtain⟨sr,hr⟩:∃r,st.next=r:=⟨_,rfl⟩;have hsr:sr<(st.new (.mp [] 0)).next:=by rw[<-hr];exact Q9 _
 obtain⟨s0,hs0⟩:∃s,st.new (.mp [] 0)=s:=⟨_,rfl⟩;rw[hr,hs0]at hm;rw[hs0]at km kck hsr;have crs:cr<sr:=by rw[<-hr];exact hk.crl
 have mrs:mr<sr:=by rw[<-hr];exact hk.mrl
 simp[f90,ln,hr,hs0,ba];generalize hL:aQ _ _ _ _=L;have lr:=gV hL 0 l.list.length (KK st cr mr sr w C l.bB (l.slice 11)) (Tf st cr mr w C l.bB (l.slice 11)) (xO st cr mr w C l.bB) (by rw[<-aa.aF];omega)
  (by
   unfold KK;refine⟨by simp,by simp,by simp,by simp,by simp[hH],by simp,0,[],Ff,[],w,by simp,by simp,by simp,kck,?_,hsr,km.sub (by simp) (by simp),by simp⟩;have:ig []=λ_=>none:=by funext x;simp[ig]
   rw[this];exact hm)
  (by
   rintro i t s hi ⟨i0,i1,i8,i17,i18,i19,kind,typ,sm,seen,w1,i5,i6,i7,A⟩;have hil:i<l.len:=by rw[aa.aF];exact hi
   have hiH:i<l.bB.length:=by rw[hH];exact hil
   rw[hH]at i18;have e3:(i:Int)<(l.len:Int):=by omega
   have e4:wr .i64 ((i:Int)+1)=((i+1:Nat):Int):=by rw[aP (by omega) (by omega)];rfl
   have e5:wr .i64 ((l.len:Int)-1)=(l.len:Int)-1:=aP (by omega) (by omega);have⟨r,r1,r2⟩:=eK hT.pre (show fH 4+7=11 from rfl) hi;have ix:=dP underlying45 bQ bL l.flat l.len i hil;rw[<-aa.dR hil,r1,<-Z0]at ix;have hTi:=aa.dC hT _ (Q8 hi);have⟨vs,hp,hvs,hvl⟩:=Bp hTi.1;have hce:(l.list[i].1++l.list[i].2.cells).length=11:=by rw[Z3,r2,Ex.bp];rfl
   have hsc:bH (l.list[i].1++l.list[i].2.cells)=true:=jk hTi.1.sc (Ex.eU hTi.2.wf);have ld:=λst:St=>ei (st:=st) (r:=r) bQ xW bL hce
   have hg:l.bB[i]=aM l.list[i]:=by simp[aa.bB]
   rw[<-hg]at hp hvs hvl;have g0:cut (l.list[i].1++l.list[i].2.cells) 0 1=So [.i .i64 l.bB[i].k]:=by rw[hp];rfl
   have g1:cut (l.list[i].1++l.list[i].2.cells) 1 1=So [.s l.bB[i].n]:=by rw[hp];rfl
   have g2:cut (l.list[i].1++l.list[i].2.cells) 2 1=So [.i .i64 l.bB[i].m]:=by rw[hp];rfl
   have g3:cut (l.list[i].1++l.list[i].2.cells) 3 1=So [vs]:=by rw[hp];rfl
   have hdrop:=List.drop_eq_getElem_cons hiH;have hgo:=A.go;rw[hdrop]at hgo;have htake:l.bB.take (i+1)=l.bB.take i++[l.bB[i]]:=(Z4 hiH).symm;have hlast:(l.bB.drop (i+1)).isEmpty=decide ((i:Int)=(l.len:Int)-1):=by
    rw[<-hH];by_cases h:(i:Int)=(l.bB.length:Int)-1
    ·rw[decide_eq_true h,J3 (by omega)];rfl
    ·rw[decide_eq_false h,List.isEmpty_eq_false_iff,List.ne_nil_iff_length_pos,List.length_drop];omega
   obtain⟨cl,hcl⟩:∃cl,l.list[i].1++l.list[i].2.cells=cl:=⟨_,rfl⟩;rw[hcl]at ix hce hsc ld g0 g1 g2 g3;obtain⟨a,ha⟩:∃a,l.bB[i]=a:=⟨_,rfl⟩;rw[ha]at hgo htake g0 g1 g2 hvs hvl;have⟨ak,an,am,avs⟩:=a;simp only at g0 g1 g2 hvs hvl;have⟨s2,u1,u2,u3,u4⟩:=bJ (s:=s) (z:=xN) hce hsc;have kck2:=A.ck.keep u3 (by simp) (by simp) (by simp);have kp2:=A.kp.trans (u3.sub (by simp) (by simp));have mp2:=A.mp.keep u3 A.srl (by simp);have nm:=λst:St=>Eh (c:=c) (st:=st) hvs hvl (N:=N) (by omega)
   have vl:=λst:St=>hvs.sLen (st:=st) eL
   have bad:∀(t':Tr AV) (w':Int) (s':St),ab t' 4=.b Ff->Ck s' cr mr w' C->Kp [cr] [cr] st s'->bO C (l.bB.take i) (⟨ak,an,am,avs⟩::l.bB.drop (i+1)) kind typ sm seen=Ff->xO st cr mr w C l.bB t' s':=by intro t' w' s' h1 h2 h3 h4;refine⟨h1,w',h2,h3,λhh=>?_⟩;have:=(hgo.2 hh).2;rw[h4]at this;cases this
   by_cases h1:ez avs=Tt
   case neg=>
    have h1:ez avs=false:=by simpa using h1
    right;simp[i17,i18,i19,e3,ix,ld,aB,dv,aC bQ bL,hce,u1,ai u2,g3,nm,h1];exact⟨_,_,⟨rfl,rfl⟩,bad _ _ _ (by simp) kck2 kp2 (by simp[bO,h1])⟩
   by_cases h2:ak<1
   case pos=>
    have h2':¬1<=ak:=by omega
    right;simp[i17,i18,i19,e3,ix,ld,aB,dv,aC bQ bL,hce,u1,ai u2,g0,g3,nm,h1,h2];exact⟨_,_,⟨rfl,rfl⟩,bad _ _ _ (by simp) kck2 kp2 (by simp[bO,h1,h2'])⟩
   by_cases h3:4<ak
   case pos=>
    have h3':¬ak<=4:=by omega
    right;simp[i17,i18,i19,e3,ix,ld,aB,dv,aC bQ bL,hce,u1,ai u2,g0,g3,nm,h1,h2,h3];exact⟨_,_,⟨rfl,rfl⟩,bad _ _ _ (by simp) kck2 kp2 (by simp[bO,h1,h3'])⟩
   have h23:1<=ak:=by omega
   have h33:ak<=4:=by omega
   by_cases h4:ak=4
   case pos=>
    subst h4;by_cases h5:(i:Int)=(l.len:Int)-1
    case neg=>right;simp[i1,i17,i18,i19,e3,e5,ix,ld,aB,dv,aC bQ bL,hce,u1,ai u2,g0,g3,nm,ln,h1,h5];exact⟨_,_,⟨rfl,rfl⟩,bad _ _ _ (by simp) kck2 kp2 (by simp[bO,h1,hlast,h5])⟩
    have p5:(l.len:Int)-1=(i:Int):=h5.symm;have p6:wr .i64 (i:Int)=(i:Int):=aP (by omega) (by omega);by_cases h6:1<avs.length
    case pos=>
     have h6':(1:Int)<(avs.length:Int):=by omega
     have h6'':¬avs.length<=1:=by omega
     right;simp[i1,i17,i18,i19,e3,ix,ld,aB,dv,aC bQ bL,hce,u1,ai u2,g0,g3,nm,ln,vl,h1,p5,p6,h6'];exact⟨_,_,⟨rfl,rfl⟩,bad _ _ _ (by simp) kck2 kp2 (by simp[bO,h1,hlast,h5,h6''])⟩
    have h6':¬(1:Int)<(avs.length:Int):=by omega
    have h6'':avs.length<=1:=by omega
    by_cases h7:an=[]
    case neg=>right;simp[i1,i17,i18,i19,e3,ix,ld,aB,dv,aC bQ bL,hce,u1,ai u2,g0,g1,g3,nm,ln,vl,ik,h1,p5,p6,h6',h7];exact⟨_,_,⟨rfl,rfl⟩,bad _ _ _ (by simp) kck2 kp2 (by simp[bO,h1,hlast,h5,h6'',h7])⟩
    by_cases h8:am=0
    case neg=>right;simp[i1,i17,i18,i19,e3,ix,ld,aB,dv,aC bQ bL,hce,u1,ai u2,g0,g1,g2,g3,nm,ln,vl,ik,h1,p5,p6,h6',h7,h8];exact⟨_,_,⟨rfl,rfl⟩,bad _ _ _ (by simp) kck2 kp2 (by simp[bO,h1,hlast,h5,h6'',h7,h8])⟩
    left;simp[i1,i17,i18,i19,e3,e4,ix,ld,aB,dv,aC bQ bL,hce,u1,ai u2,g0,g1,g2,g3,nm,ln,vl,ik,h1,p5,p6,h6',h7,h8];refine⟨_,_,⟨rfl,rfl⟩,by simp[i0],by simp[i1],by simp[i8],by simp[i17],by simp[i18,hH],by simp,kind,typ,sm,seen,w1,by simp[i5],by simp[i6],by simp[i7],kck2,mp2,Q0 A.srl u3.next,kp2,?_⟩;rw[htake,<-hgo];simp[bO,h1,hlast,h5,h6'',h7,h8]
   by_cases k0:kind=0
   case pos=>
    by_cases k1:ak=1
    case neg=>
     by_cases n0:an=[]
     case neg=>right;simp[i5,i17,i18,i19,e3,ix,ld,aB,dv,aC bQ bL,hce,u1,ai u2,g0,g1,g3,nm,ik,h1,h2,h3,h4,k0,k1,n0];exact⟨_,_,⟨rfl,rfl⟩,bad _ _ _ (by simp) kck2 kp2 (by simp[bO,h1,h23,h33,h4,k0,k1,n0])⟩
     by_cases v0:avs.length=0
     case neg=>right;simp[i5,i17,i18,i19,e3,ix,ld,aB,dv,aC bQ bL,hce,u1,ai u2,g0,g1,g3,nm,vl,ik,h1,h2,h3,h4,k0,k1,n0,v0];exact⟨_,_,⟨rfl,rfl⟩,bad _ _ _ (by simp) kck2 kp2 (by simp[bO,h1,h23,h33,h4,k0,k1,n0,v0])⟩
     by_cases k3:ak=3
     case pos=>
      by_cases m1:am<0
      case pos=>
       have m1':¬0<=am:=by omega
       right;simp[i5,i17,i18,i19,e3,ix,ld,aB,dv,aC bQ bL,hce,u1,ai u2,g0,g1,g2,g3,nm,vl,ik,h1,k0,n0,v0,k3,m1];exact⟨_,_,⟨rfl,rfl⟩,bad _ _ _ (by simp) kck2 kp2 (by simp[bO,h1,k0,n0,v0,k3,m1'])⟩
      by_cases m2:255<am
      case pos=>
       have m2':¬am<=255:=by omega
       right;simp[i5,i17,i18,i19,e3,ix,ld,aB,dv,aC bQ bL,hce,u1,ai u2,g0,g1,g2,g3,nm,vl,ik,h1,k0,n0,v0,k3,m1,m2];exact⟨_,_,⟨rfl,rfl⟩,bad _ _ _ (by simp) kck2 kp2 (by simp[bO,h1,k0,n0,v0,k3,m2'])⟩
      have m1':0<=am:=by omega
      have m2':am<=255:=by omega
      have sp:=zf (P:=π) (st:=s2) xq (c:=l.flat) (n:=l.len) (i:=i) (by omega);rw[<-aa.dR hil]at sp;have ln2:=λst:St=>bg (P:=π) (st:=st) (v:=.rs l.flat i 11) underlying45 rfl rfl
      simp[i1,i5,i17,i18,i19,e3,ix,ld,aB,dv,aC bQ bL,hce,u1,ai u2,g0,g1,g2,g3,nm,vl,ik,h1,k0,n0,v0,k3,m1,m2,sp,ln2,ba];generalize hL2:aQ _ _ _ _=L2;have lr2:=gV hL2 2 i (sG st cr mr sr w1 C l.bB (l.slice 11) i ak typ sm seen am l.flat) (λt s=>sG st cr mr sr w1 C l.bB (l.slice 11) i ak typ sm seen am l.flat i t s) (xO st cr mr w C l.bB) (by omega)
       ⟨⟨by simp[i0],by simp[i1],by simp[i8],by simp[i17],by simp[i18,hH],by simp[i19]⟩,⟨by simp[k3],by simp[i6],by simp[i7],by simp,by simp,by simp,by simp⟩,kck2,mp2,Q0 A.srl u3.next,kp2,λj hj h=>by omega⟩
       (by
        rintro j t3 s3 hji B;clear hL2;have hj:j<l.list.length:=by omega
        have q:=DS hT hH hj hji hlen B;have⟨cl2,r3,s4,q1,q2,q3,q4,q5,q6,q7,q8⟩:=q;have⟨⟨j0,j1,j8,j17,j18,j19⟩,⟨j5,j6,j7,j11,j103,j104,j105⟩,jC,jM,jl,jK,jN⟩:=B;have f3:(j:Int)<(i:Int):=by omega
        have f4:wr .i64 ((j:Int)+1)=((j+1:Nat):Int):=by rw[aP (by omega) (by omega)];rfl
        have hjH:j<l.bB.length:=by omega
        by_cases hm:l.bB[j].m=am
        case pos=>right;rw[hm]at q5;simp[j11,j103,j104,j105,f3,q1,q2,q3,aB,dv,aC bQ bL,q4,q5];have gq:=EN am hjH hji hm;exact⟨_,_,⟨rfl,rfl⟩,bad _ _ _ (by simp) (jC.keep q6 (by simp) (by simp) (by simp)) (jK.trans (q6.sub (by simp) (by simp))) (by simp only[bO,gq];simp[h1,k0,n0,v0,k3,m1',m2'])⟩
        case neg=>
         left;simp[j11,j103,j104,j105,f3,f4,q1,q2,q3,aB,dv,aC bQ bL,q4,q5,hm];refine⟨_,_,⟨rfl,rfl⟩,⟨by simp[j0],by simp[j1],by simp[j8],by simp[j17],by simp[j18],by simp[j19]⟩,⟨by simp[j5],by simp[j6],by simp[j7],by simp[j11],by simp[j103],by simp[j104],by simp⟩,jC.keep q6 (by simp) (by simp) (by simp),jM.keep q6 jl (by simp),Q0 jl q6.next,jK.trans (q6.sub (by simp) (by simp)),λk hk h=>?_⟩;by_cases hkj:k=j
         ·subst hkj;exact hm
         ·exact jN k hk (by omega))
       (by rintro t3 s3 B;clear hL2;have B':=B;have⟨⟨j0,j1,j8,j17,j18,j19⟩,⟨j5,j6,j7,j11,j103,j104,j105⟩,jC,jM,jl,jK,jN⟩:=B;simp[j104,j105];exact⟨_,_,⟨rfl,rfl⟩,⟨by simp[j0],by simp[j1],by simp[j8],by simp[j17],by simp[j18],by simp[j19]⟩,⟨by simp[j5],by simp[j6],by simp[j7],by simp[j11],by simp[j103],by simp[j104],by simp[j105]⟩,jC,jM,jl,jK,jN⟩)
      clear hL2;rcases lr2 with ⟨t3,s3,rfl,B⟩|⟨t3,s3,rfl,B⟩
      ·have⟨⟨j0,j1,j8,j17,j18,j19⟩,⟨j5,j6,j7,j11,j103,j104,j105⟩,jC,jM,jl,jK,jN⟩:=B;left;simp[j19,e4];refine⟨_,_,⟨rfl,rfl⟩,by simp[j0],by simp[j1],by simp[j8],by simp[j17],by simp[j18],by simp,ak,typ,sm,seen,w1,by simp[j5],by simp[j6],by simp[j7],jC,jM,jl,jK,?_⟩;rw[htake,<-hgo];have gq:=EM am jN;simp only[bO,gq];simp[h1,k0,n0,v0,k3,m1',m2']
      ·right;simp;exact⟨_,_,⟨rfl,rfl⟩,B⟩
     have sp:=zf (P:=π) (st:=s2) xq (c:=l.flat) (n:=l.len) (i:=i) (by omega);rw[<-aa.dR hil]at sp;have ln2:=λst:St=>bg (P:=π) (st:=st) (v:=.rs l.flat i 11) underlying45 rfl rfl
     simp[i1,i5,i17,i18,i19,e3,ix,ld,aB,dv,aC bQ bL,hce,u1,ai u2,g0,g1,g2,g3,nm,vl,ik,h1,h2,h3,h4,k0,k1,n0,v0,k3,sp,ln2,ba];generalize hL2:aQ _ _ _ _=L2;have lr2:=gV hL2 2 i (sG st cr mr sr w1 C l.bB (l.slice 11) i ak typ sm seen am l.flat) (λt s=>sG st cr mr sr w1 C l.bB (l.slice 11) i ak typ sm seen am l.flat i t s) (xO st cr mr w C l.bB) (by omega)
      ⟨⟨by simp[i0],by simp[i1],by simp[i8],by simp[i17],by simp[i18,hH],by simp[i19]⟩,⟨by simp,by simp[i6],by simp[i7],by simp,by simp,by simp,by simp⟩,kck2,mp2,Q0 A.srl u3.next,kp2,λj hj h=>by omega⟩
      (by
       rintro j t3 s3 hji B;clear hL2;have hj:j<l.list.length:=by omega
       have q:=DS hT hH hj hji hlen B;have⟨cl2,r3,s4,q1,q2,q3,q4,q5,q6,q7,q8⟩:=q;have⟨⟨j0,j1,j8,j17,j18,j19⟩,⟨j5,j6,j7,j11,j103,j104,j105⟩,jC,jM,jl,jK,jN⟩:=B;have f3:(j:Int)<(i:Int):=by omega
       have f4:wr .i64 ((j:Int)+1)=((j+1:Nat):Int):=by rw[aP (by omega) (by omega)];rfl
       have hjH:j<l.bB.length:=by omega
       by_cases hm:l.bB[j].m=am
       case pos=>right;rw[hm]at q5;simp[j11,j103,j104,j105,f3,q1,q2,q3,aB,dv,aC bQ bL,q4,q5];have gq:=EN am hjH hji hm;exact⟨_,_,⟨rfl,rfl⟩,bad _ _ _ (by simp) (jC.keep q6 (by simp) (by simp) (by simp)) (jK.trans (q6.sub (by simp) (by simp))) (by simp only[bO,gq];simp[h1,h23,h33,h4,k0,k1,n0,v0,k3])⟩
       case neg=>
        left;simp[j11,j103,j104,j105,f3,f4,q1,q2,q3,aB,dv,aC bQ bL,q4,q5,hm];refine⟨_,_,⟨rfl,rfl⟩,⟨by simp[j0],by simp[j1],by simp[j8],by simp[j17],by simp[j18],by simp[j19]⟩,⟨by simp[j5],by simp[j6],by simp[j7],by simp[j11],by simp[j103],by simp[j104],by simp⟩,jC.keep q6 (by simp) (by simp) (by simp),jM.keep q6 jl (by simp),Q0 jl q6.next,jK.trans (q6.sub (by simp) (by simp)),λk hk h=>?_⟩;by_cases hkj:k=j
        ·subst hkj;exact hm
        ·exact jN k hk (by omega))
      (by rintro t3 s3 B;clear hL2;have B':=B;have⟨⟨j0,j1,j8,j17,j18,j19⟩,⟨j5,j6,j7,j11,j103,j104,j105⟩,jC,jM,jl,jK,jN⟩:=B;simp[j104,j105];exact⟨_,_,⟨rfl,rfl⟩,⟨by simp[j0],by simp[j1],by simp[j8],by simp[j17],by simp[j18],by simp[j19]⟩,⟨by simp[j5],by simp[j6],by simp[j7],by simp[j11],by simp[j103],by simp[j104],by simp[j105]⟩,jC,jM,jl,jK,jN⟩)
     clear hL2;rcases lr2 with ⟨t3,s3,rfl,B⟩|⟨t3,s3,rfl,B⟩
     ·have⟨⟨j0,j1,j8,j17,j18,j19⟩,⟨j5,j6,j7,j11,j103,j104,j105⟩,jC,jM,jl,jK,jN⟩:=B;left;simp[j19,e4];refine⟨_,_,⟨rfl,rfl⟩,by simp[j0],by simp[j1],by simp[j8],by simp[j17],by simp[j18],by simp,ak,typ,sm,seen,w1,by simp[j5],by simp[j6],by simp[j7],jC,jM,jl,jK,?_⟩;rw[htake,<-hgo];have gq:=EM am jN;simp only[bO,gq];simp[h1,h23,h33,h4,k0,k1,n0,v0,k3]
     ·right;simp;exact⟨_,_,⟨rfl,rfl⟩,B⟩
    by_cases m0:am=0
    case neg=>right;simp[i5,i17,i18,i19,e3,ix,ld,aB,dv,aC bQ bL,hce,u1,ai u2,g0,g2,g3,nm,h1,k0,k1,m0];exact⟨_,_,⟨rfl,rfl⟩,bad _ _ _ (by simp) kck2 kp2 (by simp[bO,h1,k0,k1,m0])⟩
    have lk:=mp2.get mb an;rw[yX]at lk;by_cases hs:an∈seen
    case pos=>right;simp[i5,i8,i17,i18,i19,e3,ix,ld,aB,dv,aC bQ bL,hce,u1,ai u2,g0,g1,g2,g3,nm,h1,k0,k1,m0,lk,hs];exact⟨_,_,⟨rfl,rfl⟩,bad _ _ _ (by simp) kck2 kp2 (by simp[bO,h1,k0,k1,m0,hs])⟩
    have nd:=λst:St=>yB (c:=c) (st:=st) an (N:=N) (by omega)
    cases hn:named an with
    |false=>right;simp[i5,i8,i17,i18,i19,e3,ix,ld,aB,dv,aC bQ bL,hce,u1,ai u2,g0,g1,g2,g3,nm,h1,k0,k1,m0,lk,hs,nd,hn];exact⟨_,_,⟨rfl,rfl⟩,bad _ _ _ (by simp) kck2 kp2 (by simp[bO,h1,k0,k1,m0,hs,hn])⟩
    |true=>
     have⟨s3,v1,v2,v3,v4⟩:=mp2.set mb an (.b Tt);have hne:s.next∉[sr]:=by simp;have:=A.srl;omega
     have hcs:cr∉[sr]:=by simp;omega
     have hms:mr∉[sr]:=by simp;omega
     have kck3:=kck2.keep v3 hcs hms (by simp);have kp3:=ey kp2 v3 (by simp;omega) (by simp);have u2':=v3.ce u2 u4 u4 hne (by simp);have lt3:s.next<s3.next:=by rw[v4];exact u4
     have⟨al3,hc3⟩:=kck3.ce;have lk3:=kck3.mp.ti wP an;have sm3:=xh seen an;rw[sm3]at v2;cases hCn:C an with
     |none=>
      rw[hCn]at lk3;have⟨s4,x1,x2,x3,x4⟩:=bJ (s:=s3) (z:=fU) (cells:=fU) rfl rfl;have kck4:=kck3.keep x3 (by simp) (by simp) (by simp);have⟨s5,w5,y1,y2,y3,y4⟩:=lK (c:=c) Tt kck4 (e:=9) (by right;right;left;rfl) (by decide) (N:=N) (by omega);have z35:fU.length=4:=rfl;have w5n:w5≠0:=λh=>by have:=(y4.1 h).2;cases this
      left;simp[i5,i8,i17,i18,i19,e3,ix,ld,aB,dv,aC bQ bL,hce,u1,ai u2,g0,g1,g2,g3,nm,h1,k0,k1,m0,lk,hs,nd,hn,v1,aY];rw[bP (by kernel_rfl)];have lk3':lookup π 122 s3 (.m mr) (.s an) Tt=So (.tu [.ag fU,.b Ff]):=lk3;simp[i0,i19,ai hc3,ai u2',g1,lk3',aB,ek,aC dD dB,z35,x1,y1,e4];refine⟨_,_,⟨rfl,rfl⟩,by simp[i0],by simp[i1],by simp[i8],by simp[i17],by simp[i18,hH],by simp,ak,typ,sm,seen++[an],w5,by simp[k1],by simp[i6],by simp[i7],y2,(v2.keep x3 (by rw[v4];exact Q0 A.srl u3.next) (by simp)).keep y3 (Q0 (show sr<s3.next by rw[v4];exact Q0 A.srl u3.next) x3.next) (by simp;omega),Q0 (Q0 (show sr<s3.next by rw[v4];exact Q0 A.srl u3.next) x3.next) y3.next,(kp3.trans (x3.sub (by simp) (by simp))).trans y3,?_⟩;have gf:bO C (l.bB.take i) (⟨ak,an,am,avs⟩::l.bB.drop (i+1)) kind typ sm seen=false:=by simp[bO,h1,k0,k1,m0,hs,hn,hCn]
      rw[gf]at hgo;refine⟨λh=>absurd h.1 w5n,λh=>?_⟩;have:=(hgo.2 h).2;cases this
     |some cv=>
      have⟨cn,car,cty,ctag,hcv⟩:=hC _ _ hCn;rw[hCn,hcv]at lk3;have⟨s4,x1,x2,x3,x4⟩:=bJ (s:=s3) (z:=fU) (cells:=[.s cn,.i .i64 car,.s cty,.i .i64 ctag]) rfl rfl;have kck4:=kck3.keep x3 (by simp) (by simp) (by simp);have u4':=x3.ce u2' lt3 lt3 (by simp) (by simp);have⟨s5,w5,y1,y2,y3,y4⟩:=lK (c:=c) (!decide (car=(avs.length:Int))) kck4 (e:=9) (by right;right;left;rfl) (by decide) (N:=N) (by omega);have ncr:s3.next∉[cr]:=by simp;have:=kck3.crl;omega
      have x2':=y3.ce x2 x4 x4 ncr ncr;have lk3':lookup π 122 s3 (.m mr) (.s an) Tt=So (.tu [.ag [.s cn,.i .i64 car,.s cty,.i .i64 ctag],.b Tt]):=lk3;have ckF:Ck s5 cr mr w5 C:=y2;have kpF:Kp [cr] [cr] st s5:=(kp3.trans (x3.sub (by simp) (by simp))).trans y3;have mpF:bZ s5 sr (ig (seen++[an])):=(v2.keep x3 (by rw[v4];exact Q0 A.srl u3.next) (by simp)).keep y3 (Q0 (show sr<s3.next by rw[v4];exact Q0 A.srl u3.next) x3.next) (by simp;omega);have srF:sr<s5.next:=Q0 (Q0 (show sr<s3.next by rw[v4];exact Q0 A.srl u3.next) x3.next) y3.next;by_cases ht:sm=Tt/\cty≠typ
      case pos=>have⟨t1,t2⟩:=ht;right;simp[i5,i8,i17,i18,i19,e3,ix,ld,aB,dv,aC bQ bL,hce,u1,ai u2,g0,g1,g2,g3,nm,h1,k0,k1,m0,lk,hs,nd,hn,v1,aY];rw[bP (by kernel_rfl)];simp[i0,i6,i7,ai hc3,ai u2',ai u4',ai x2,ai x2',g1,g3,vl,lk3',aB,ek,aC dD dB,x1,y1,ik,t1,t2];exact⟨_,_,⟨rfl,rfl⟩,bad _ _ _ (by simp) ckF kpF (by simp[bO,h1,k0,k1,m0,hs,hn,hCn,hcv,oB,Ae,t1,t2])⟩
      case neg=>
       have hgo':(w1=0/\(car=(avs.length:Int)/\bO C (l.bB.take i++[⟨ak,an,am,avs⟩]) (l.bB.drop (i+1)) ak cty Tt (seen++[an])=Tt))↔(w=0/\bO C [] l.bB 0 [] Ff []=Tt):=by
        rw[<-hgo];have ht':(!sm||decide (cty=typ))=true:=by
         cases sm with
         |false=>rfl
         |true=>
          have:cty=typ:=J4 λh=>ht ⟨rfl,h⟩
          simp[this]
        simp[bO,h1,k0,k1,m0,hs,hn,hCn,hcv,jr,oB,Ae];intro _;simp only[Z5,Z6,decide_eq_true_eq]at ht'|-;constructor
        ·rintro⟨a1,a2⟩;exact⟨decide_eq_true a1,ht'.imp id decide_eq_true,a2⟩
        ·rintro⟨a1,-,a2⟩;exact⟨of_decide_eq_true a1,a2⟩
       left;cases sm with
       |false=>simp[i5,i8,i17,i18,i19,e3,ix,ld,aB,dv,aC bQ bL,hce,u1,ai u2,g0,g1,g2,g3,nm,h1,k0,k1,m0,lk,hs,nd,hn,v1,aY];rw[bP (by kernel_rfl)];simp[i0,i7,i19,ai hc3,ai u2',ai u4',ai x2,ai x2',g1,g3,vl,lk3',aB,ek,aC dD dB,x1,y1,e4];refine⟨_,_,⟨rfl,rfl⟩,by simp[i0],by simp[i1],by simp[i8],by simp[i17],by simp[i18,hH],by simp,ak,cty,Tt,seen++[an],w5,by simp[k1],by simp,by simp,ckF,mpF,srF,kpF,?_⟩;rw[htake,<-hgo',y4];simp[and_assoc]
       |true=>
        have ht2:cty=typ:=J4 λh=>ht ⟨rfl,h⟩
        subst ht2;simp[i5,i8,i17,i18,i19,e3,ix,ld,aB,dv,aC bQ bL,hce,u1,ai u2,g0,g1,g2,g3,nm,h1,k0,k1,m0,lk,hs,nd,hn,v1,aY];rw[bP (by kernel_rfl)];simp[i0,i6,i7,i19,ai hc3,ai u2',ai u4',ai x2,ai x2',g1,g3,vl,lk3',aB,ek,aC dD dB,x1,y1,ik,e4];refine⟨_,_,⟨rfl,rfl⟩,by simp[i0],by simp[i1],by simp[i8],by simp[i17],by simp[i18,hH],by simp,ak,cty,Tt,seen++[an],w5,by simp[k1],by simp,by simp,ckF,mpF,srF,kpF,?_⟩;rw[htake,<-hgo',y4];simp[and_assoc]
   by_cases kk:ak=kind
   case neg=>right;simp[i5,i17,i18,i19,e3,ix,ld,aB,dv,aC bQ bL,hce,u1,ai u2,g0,g3,nm,h1,h2,h3,h4,k0,kk];exact⟨_,_,⟨rfl,rfl⟩,bad _ _ _ (by simp) kck2 kp2 (by simp[bO,h1,h23,h33,h4,k0,kk])⟩
   subst kk;by_cases k1:ak=1
   case neg=>
    by_cases n0:an=[]
    case neg=>right;simp[i5,i17,i18,i19,e3,ix,ld,aB,dv,aC bQ bL,hce,u1,ai u2,g0,g1,g3,nm,ik,h1,h2,h3,h4,k0,k1,n0];exact⟨_,_,⟨rfl,rfl⟩,bad _ _ _ (by simp) kck2 kp2 (by simp[bO,h1,h23,h33,h4,k0,k1,n0])⟩
    by_cases v0:avs.length=0
    case neg=>right;simp[i5,i17,i18,i19,e3,ix,ld,aB,dv,aC bQ bL,hce,u1,ai u2,g0,g1,g3,nm,vl,ik,h1,h2,h3,h4,k0,k1,n0,v0];exact⟨_,_,⟨rfl,rfl⟩,bad _ _ _ (by simp) kck2 kp2 (by simp[bO,h1,h23,h33,h4,k0,k1,n0,v0])⟩
    by_cases k3:ak=3
    case pos=>
     by_cases m1:am<0
     case pos=>
      have m1':¬0<=am:=by omega
      right;simp[i5,i17,i18,i19,e3,ix,ld,aB,dv,aC bQ bL,hce,u1,ai u2,g0,g1,g2,g3,nm,vl,ik,h1,n0,v0,k3,m1];exact⟨_,_,⟨rfl,rfl⟩,bad _ _ _ (by simp) kck2 kp2 (by simp[bO,h1,n0,v0,k3,m1'])⟩
     by_cases m2:255<am
     case pos=>
      have m2':¬am<=255:=by omega
      right;simp[i5,i17,i18,i19,e3,ix,ld,aB,dv,aC bQ bL,hce,u1,ai u2,g0,g1,g2,g3,nm,vl,ik,h1,n0,v0,k3,m1,m2];exact⟨_,_,⟨rfl,rfl⟩,bad _ _ _ (by simp) kck2 kp2 (by simp[bO,h1,n0,v0,k3,m2'])⟩
     have m1':0<=am:=by omega
     have m2':am<=255:=by omega
     have sp:=zf (P:=π) (st:=s2) xq (c:=l.flat) (n:=l.len) (i:=i) (by omega);rw[<-aa.dR hil]at sp;have ln2:=λst:St=>bg (P:=π) (st:=st) (v:=.rs l.flat i 11) underlying45 rfl rfl
     simp[i1,i5,i17,i18,i19,e3,ix,ld,aB,dv,aC bQ bL,hce,u1,ai u2,g0,g1,g2,g3,nm,vl,ik,h1,n0,v0,k3,m1,m2,sp,ln2,ba];generalize hL2:aQ _ _ _ _=L2;have lr2:=gV hL2 2 i (sG st cr mr sr w1 C l.bB (l.slice 11) i ak typ sm seen am l.flat) (λt s=>sG st cr mr sr w1 C l.bB (l.slice 11) i ak typ sm seen am l.flat i t s) (xO st cr mr w C l.bB) (by omega)
      ⟨⟨by simp[i0],by simp[i1],by simp[i8],by simp[i17],by simp[i18,hH],by simp[i19]⟩,⟨by simp[k3],by simp[i6],by simp[i7],by simp,by simp,by simp,by simp⟩,kck2,mp2,Q0 A.srl u3.next,kp2,λj hj h=>by omega⟩
      (by
       rintro j t3 s3 hji B;clear hL2;have hj:j<l.list.length:=by omega
       have q:=DS hT hH hj hji hlen B;have⟨cl2,r3,s4,q1,q2,q3,q4,q5,q6,q7,q8⟩:=q;have⟨⟨j0,j1,j8,j17,j18,j19⟩,⟨j5,j6,j7,j11,j103,j104,j105⟩,jC,jM,jl,jK,jN⟩:=B;have f3:(j:Int)<(i:Int):=by omega
       have f4:wr .i64 ((j:Int)+1)=((j+1:Nat):Int):=by rw[aP (by omega) (by omega)];rfl
       have hjH:j<l.bB.length:=by omega
       by_cases hm:l.bB[j].m=am
       case pos=>right;rw[hm]at q5;simp[j11,j103,j104,j105,f3,q1,q2,q3,aB,dv,aC bQ bL,q4,q5];have gq:=EN am hjH hji hm;exact⟨_,_,⟨rfl,rfl⟩,bad _ _ _ (by simp) (jC.keep q6 (by simp) (by simp) (by simp)) (jK.trans (q6.sub (by simp) (by simp))) (by simp only[bO,gq];simp[h1,n0,v0,k3,m1',m2'])⟩
       case neg=>
        left;simp[j11,j103,j104,j105,f3,f4,q1,q2,q3,aB,dv,aC bQ bL,q4,q5,hm];refine⟨_,_,⟨rfl,rfl⟩,⟨by simp[j0],by simp[j1],by simp[j8],by simp[j17],by simp[j18],by simp[j19]⟩,⟨by simp[j5],by simp[j6],by simp[j7],by simp[j11],by simp[j103],by simp[j104],by simp⟩,jC.keep q6 (by simp) (by simp) (by simp),jM.keep q6 jl (by simp),Q0 jl q6.next,jK.trans (q6.sub (by simp) (by simp)),λk hk h=>?_⟩;by_cases hkj:k=j
        ·subst hkj;exact hm
        ·exact jN k hk (by omega))
      (by rintro t3 s3 B;clear hL2;have B':=B;have⟨⟨j0,j1,j8,j17,j18,j19⟩,⟨j5,j6,j7,j11,j103,j104,j105⟩,jC,jM,jl,jK,jN⟩:=B;simp[j104,j105];exact⟨_,_,⟨rfl,rfl⟩,⟨by simp[j0],by simp[j1],by simp[j8],by simp[j17],by simp[j18],by simp[j19]⟩,⟨by simp[j5],by simp[j6],by simp[j7],by simp[j11],by simp[j103],by simp[j104],by simp[j105]⟩,jC,jM,jl,jK,jN⟩)
     clear hL2;rcases lr2 with ⟨t3,s3,rfl,B⟩|⟨t3,s3,rfl,B⟩
     ·have⟨⟨j0,j1,j8,j17,j18,j19⟩,⟨j5,j6,j7,j11,j103,j104,j105⟩,jC,jM,jl,jK,jN⟩:=B;left;simp[j19,e4];refine⟨_,_,⟨rfl,rfl⟩,by simp[j0],by simp[j1],by simp[j8],by simp[j17],by simp[j18],by simp,ak,typ,sm,seen,w1,by simp[j5],by simp[j6],by simp[j7],jC,jM,jl,jK,?_⟩;rw[htake,<-hgo];have gq:=EM am jN;simp only[bO,gq];simp[h1,n0,v0,k3,m1',m2']
     ·right;simp;exact⟨_,_,⟨rfl,rfl⟩,B⟩
    have sp:=zf (P:=π) (st:=s2) xq (c:=l.flat) (n:=l.len) (i:=i) (by omega);rw[<-aa.dR hil]at sp;have ln2:=λst:St=>bg (P:=π) (st:=st) (v:=.rs l.flat i 11) underlying45 rfl rfl
    simp[i1,i5,i17,i18,i19,e3,ix,ld,aB,dv,aC bQ bL,hce,u1,ai u2,g0,g1,g2,g3,nm,vl,ik,h1,h2,h3,h4,k0,k1,n0,v0,k3,sp,ln2,ba];generalize hL2:aQ _ _ _ _=L2;have lr2:=gV hL2 2 i (sG st cr mr sr w1 C l.bB (l.slice 11) i ak typ sm seen am l.flat) (λt s=>sG st cr mr sr w1 C l.bB (l.slice 11) i ak typ sm seen am l.flat i t s) (xO st cr mr w C l.bB) (by omega)
     ⟨⟨by simp[i0],by simp[i1],by simp[i8],by simp[i17],by simp[i18,hH],by simp[i19]⟩,⟨by simp,by simp[i6],by simp[i7],by simp,by simp,by simp,by simp⟩,kck2,mp2,Q0 A.srl u3.next,kp2,λj hj h=>by omega⟩
     (by
      rintro j t3 s3 hji B;clear hL2;have hj:j<l.list.length:=by omega
      have q:=DS hT hH hj hji hlen B;have⟨cl2,r3,s4,q1,q2,q3,q4,q5,q6,q7,q8⟩:=q;have⟨⟨j0,j1,j8,j17,j18,j19⟩,⟨j5,j6,j7,j11,j103,j104,j105⟩,jC,jM,jl,jK,jN⟩:=B;have f3:(j:Int)<(i:Int):=by omega
      have f4:wr .i64 ((j:Int)+1)=((j+1:Nat):Int):=by rw[aP (by omega) (by omega)];rfl
      have hjH:j<l.bB.length:=by omega
      by_cases hm:l.bB[j].m=am
      case pos=>right;rw[hm]at q5;simp[j11,j103,j104,j105,f3,q1,q2,q3,aB,dv,aC bQ bL,q4,q5];have gq:=EN am hjH hji hm;exact⟨_,_,⟨rfl,rfl⟩,bad _ _ _ (by simp) (jC.keep q6 (by simp) (by simp) (by simp)) (jK.trans (q6.sub (by simp) (by simp))) (by simp only[bO,gq];simp[h1,h23,h33,h4,k0,k1,n0,v0,k3])⟩
      case neg=>
       left;simp[j11,j103,j104,j105,f3,f4,q1,q2,q3,aB,dv,aC bQ bL,q4,q5,hm];refine⟨_,_,⟨rfl,rfl⟩,⟨by simp[j0],by simp[j1],by simp[j8],by simp[j17],by simp[j18],by simp[j19]⟩,⟨by simp[j5],by simp[j6],by simp[j7],by simp[j11],by simp[j103],by simp[j104],by simp⟩,jC.keep q6 (by simp) (by simp) (by simp),jM.keep q6 jl (by simp),Q0 jl q6.next,jK.trans (q6.sub (by simp) (by simp)),λk hk h=>?_⟩;by_cases hkj:k=j
       ·subst hkj;exact hm
       ·exact jN k hk (by omega))
     (by rintro t3 s3 B;clear hL2;have B':=B;have⟨⟨j0,j1,j8,j17,j18,j19⟩,⟨j5,j6,j7,j11,j103,j104,j105⟩,jC,jM,jl,jK,jN⟩:=B;simp[j104,j105];exact⟨_,_,⟨rfl,rfl⟩,⟨by simp[j0],by simp[j1],by simp[j8],by simp[j17],by simp[j18],by simp[j19]⟩,⟨by simp[j5],by simp[j6],by simp[j7],by simp[j11],by simp[j103],by simp[j104],by simp[j105]⟩,jC,jM,jl,jK,jN⟩)
    clear hL2;rcases lr2 with ⟨t3,s3,rfl,B⟩|⟨t3,s3,rfl,B⟩
    ·have⟨⟨j0,j1,j8,j17,j18,j19⟩,⟨j5,j6,j7,j11,j103,j104,j105⟩,jC,jM,jl,jK,jN⟩:=B;left;simp[j19,e4];refine⟨_,_,⟨rfl,rfl⟩,by simp[j0],by simp[j1],by simp[j8],by simp[j17],by simp[j18],by simp,ak,typ,sm,seen,w1,by simp[j5],by simp[j6],by simp[j7],jC,jM,jl,jK,?_⟩;rw[htake,<-hgo];have gq:=EM am jN;simp only[bO,gq];simp[h1,h23,h33,h4,k0,k1,n0,v0,k3]
    ·right;simp;exact⟨_,_,⟨rfl,rfl⟩,B⟩
   by_cases m0:am=0
   case neg=>right;simp[i5,i17,i18,i19,e3,ix,ld,aB,dv,aC bQ bL,hce,u1,ai u2,g0,g2,g3,nm,h1,k1,m0];exact⟨_,_,⟨rfl,rfl⟩,bad _ _ _ (by simp) kck2 kp2 (by simp[bO,h1,k1,m0])⟩
   have lk:=mp2.get mb an;rw[yX]at lk;by_cases hs:an∈seen
   case pos=>right;simp[i5,i8,i17,i18,i19,e3,ix,ld,aB,dv,aC bQ bL,hce,u1,ai u2,g0,g1,g2,g3,nm,h1,k1,m0,lk,hs];exact⟨_,_,⟨rfl,rfl⟩,bad _ _ _ (by simp) kck2 kp2 (by simp[bO,h1,k1,m0,hs])⟩
   have nd:=λst:St=>yB (c:=c) (st:=st) an (N:=N) (by omega)
   cases hn:named an with
   |false=>right;simp[i5,i8,i17,i18,i19,e3,ix,ld,aB,dv,aC bQ bL,hce,u1,ai u2,g0,g1,g2,g3,nm,h1,k1,m0,lk,hs,nd,hn];exact⟨_,_,⟨rfl,rfl⟩,bad _ _ _ (by simp) kck2 kp2 (by simp[bO,h1,k1,m0,hs,hn])⟩
   |true=>
    have⟨s3,v1,v2,v3,v4⟩:=mp2.set mb an (.b Tt);have hne:s.next∉[sr]:=by simp;have:=A.srl;omega
    have hcs:cr∉[sr]:=by simp;omega
    have hms:mr∉[sr]:=by simp;omega
    have kck3:=kck2.keep v3 hcs hms (by simp);have kp3:=ey kp2 v3 (by simp;omega) (by simp);have u2':=v3.ce u2 u4 u4 hne (by simp);have lt3:s.next<s3.next:=by rw[v4];exact u4
    have⟨al3,hc3⟩:=kck3.ce;have lk3:=kck3.mp.ti wP an;have sm3:=xh seen an;rw[sm3]at v2;cases hCn:C an with
    |none=>
     rw[hCn]at lk3;have⟨s4,x1,x2,x3,x4⟩:=bJ (s:=s3) (z:=fU) (cells:=fU) rfl rfl;have kck4:=kck3.keep x3 (by simp) (by simp) (by simp);have⟨s5,w5,y1,y2,y3,y4⟩:=lK (c:=c) Tt kck4 (e:=9) (by right;right;left;rfl) (by decide) (N:=N) (by omega);have z35:fU.length=4:=rfl;have w5n:w5≠0:=λh=>by have:=(y4.1 h).2;cases this
     left;simp[i5,i8,i17,i18,i19,e3,ix,ld,aB,dv,aC bQ bL,hce,u1,ai u2,g0,g1,g2,g3,nm,h1,k1,m0,lk,hs,nd,hn,v1,aY];rw[bP (by kernel_rfl)];have lk3':lookup π 122 s3 (.m mr) (.s an) Tt=So (.tu [.ag fU,.b Ff]):=lk3;simp[i0,i19,ai hc3,ai u2',g1,lk3',aB,ek,aC dD dB,z35,x1,y1,e4];refine⟨_,_,⟨rfl,rfl⟩,by simp[i0],by simp[i1],by simp[i8],by simp[i17],by simp[i18,hH],by simp,ak,typ,sm,seen++[an],w5,by simp[k1],by simp[i6],by simp[i7],y2,(v2.keep x3 (by rw[v4];exact Q0 A.srl u3.next) (by simp)).keep y3 (Q0 (show sr<s3.next by rw[v4];exact Q0 A.srl u3.next) x3.next) (by simp;omega),Q0 (Q0 (show sr<s3.next by rw[v4];exact Q0 A.srl u3.next) x3.next) y3.next,(kp3.trans (x3.sub (by simp) (by simp))).trans y3,?_⟩;have gf:bO C (l.bB.take i) (⟨ak,an,am,avs⟩::l.bB.drop (i+1)) ak typ sm seen=false:=by simp[bO,h1,k1,m0,hs,hn,hCn]
     rw[gf]at hgo;refine⟨λh=>absurd h.1 w5n,λh=>?_⟩;have:=(hgo.2 h).2;cases this
    |some cv=>
     have⟨cn,car,cty,ctag,hcv⟩:=hC _ _ hCn;rw[hCn,hcv]at lk3;have⟨s4,x1,x2,x3,x4⟩:=bJ (s:=s3) (z:=fU) (cells:=[.s cn,.i .i64 car,.s cty,.i .i64 ctag]) rfl rfl;have kck4:=kck3.keep x3 (by simp) (by simp) (by simp);have u4':=x3.ce u2' lt3 lt3 (by simp) (by simp);have⟨s5,w5,y1,y2,y3,y4⟩:=lK (c:=c) (!decide (car=(avs.length:Int))) kck4 (e:=9) (by right;right;left;rfl) (by decide) (N:=N) (by omega);have ncr:s3.next∉[cr]:=by simp;have:=kck3.crl;omega
     have x2':=y3.ce x2 x4 x4 ncr ncr;have lk3':lookup π 122 s3 (.m mr) (.s an) Tt=So (.tu [.ag [.s cn,.i .i64 car,.s cty,.i .i64 ctag],.b Tt]):=lk3;have ckF:Ck s5 cr mr w5 C:=y2;have kpF:Kp [cr] [cr] st s5:=(kp3.trans (x3.sub (by simp) (by simp))).trans y3;have mpF:bZ s5 sr (ig (seen++[an])):=(v2.keep x3 (by rw[v4];exact Q0 A.srl u3.next) (by simp)).keep y3 (Q0 (show sr<s3.next by rw[v4];exact Q0 A.srl u3.next) x3.next) (by simp;omega);have srF:sr<s5.next:=Q0 (Q0 (show sr<s3.next by rw[v4];exact Q0 A.srl u3.next) x3.next) y3.next;by_cases ht:sm=Tt/\cty≠typ
     case pos=>have⟨t1,t2⟩:=ht;right;simp[i5,i8,i17,i18,i19,e3,ix,ld,aB,dv,aC bQ bL,hce,u1,ai u2,g0,g1,g2,g3,nm,h1,k1,m0,lk,hs,nd,hn,v1,aY];rw[bP (by kernel_rfl)];simp[i0,i6,i7,ai hc3,ai u2',ai u4',ai x2,ai x2',g1,g3,vl,lk3',aB,ek,aC dD dB,x1,y1,ik,t1,t2];exact⟨_,_,⟨rfl,rfl⟩,bad _ _ _ (by simp) ckF kpF (by simp[bO,h1,k1,m0,hs,hn,hCn,hcv,oB,Ae,t1,t2])⟩
     case neg=>
      have hgo':(w1=0/\(car=(avs.length:Int)/\bO C (l.bB.take i++[⟨ak,an,am,avs⟩]) (l.bB.drop (i+1)) ak cty Tt (seen++[an])=Tt))↔(w=0/\bO C [] l.bB 0 [] Ff []=Tt):=by
       rw[<-hgo];have ht':(!sm||decide (cty=typ))=true:=by
        cases sm with
        |false=>rfl
        |true=>
         have:cty=typ:=J4 λh=>ht ⟨rfl,h⟩
         simp[this]
       simp[bO,h1,k1,m0,hs,hn,hCn,hcv,jr,oB,Ae];intro _;simp only[Z5,Z6,decide_eq_true_eq]at ht'|-;constructor
       ·rintro⟨a1,a2⟩;exact⟨decide_eq_true a1,ht'.imp id decide_eq_true,a2⟩
       ·rintro⟨a1,-,a2⟩;exact⟨of_decide_eq_true a1,a2⟩
      left;cases sm with
      |false=>simp[i5,i8,i17,i18,i19,e3,ix,ld,aB,dv,aC bQ bL,hce,u1,ai u2,g0,g1,g2,g3,nm,h1,k1,m0,lk,hs,nd,hn,v1,aY];rw[bP (by kernel_rfl)];simp[i0,i7,i19,ai hc3,ai u2',ai u4',ai x2,ai x2',g1,g3,vl,lk3',aB,ek,aC dD dB,x1,y1,e4];refine⟨_,_,⟨rfl,rfl⟩,by simp[i0],by simp[i1],by simp[i8],by simp[i17],by simp[i18,hH],by simp,ak,cty,Tt,seen++[an],w5,by simp[k1],by simp,by simp,ckF,mpF,srF,kpF,?_⟩;rw[htake,<-hgo',y4];simp[and_assoc]
      |true=>
       have ht2:cty=typ:=J4 λh=>ht ⟨rfl,h⟩
       subst ht2;simp[i5,i8,i17,i18,i19,e3,ix,ld,aB,dv,aC bQ bL,hce,u1,ai u2,g0,g1,g2,g3,nm,h1,k1,m0,lk,hs,nd,hn,v1,aY];rw[bP (by kernel_rfl)];simp[i0,i6,i7,i19,ai hc3,ai u2',ai u4',ai x2,ai x2',g1,g3,vl,lk3',aB,ek,aC dD dB,x1,y1,ik,e4];refine⟨_,_,⟨rfl,rfl⟩,by simp[i0],by simp[i1],by simp[i8],by simp[i17],by simp[i18,hH],by simp,ak,cty,Tt,seen++[an],w5,by simp[k1],by simp,by simp,ckF,mpF,srF,kpF,?_⟩;rw[htake,<-hgo',y4];simp[and_assoc])
  (by rintro t s ⟨i0,i1,i8,i17,i18,i19,kind,typ,sm,seen,w1,i5,i6,i7,A⟩;rw[hH,aa.aF]at i18;simp[i18,i19];refine⟨_,_,⟨rfl,rfl⟩,by simp[i0],by simp[i1],w1,A.ck,A.kp,?_⟩;have hgo:=A.go;rw[J3 (by rw[hH,aa.aF];exact Nat.le_refl _)]at hgo;simpa[bO]using hgo)
 clear hL;rcases lr with ⟨t1,s1,rfl,p0,p1,w',pC,pK,pG⟩|⟨t1,s1,rfl,q4,w',qC,qK,qG⟩
 ·refine⟨decide (0<l.len),s1,w',?_,pC,pK,?_⟩
  ·simp[p1,ln]
  ·unfold jJ;have:(!l.bB.isEmpty)=decide (0<l.len):=by
    rw[<-hH];cases l.bB<;>simp
   rw[this,Q1,pG];constructor
   ·rintro⟨h1,h2,h3⟩;exact⟨h2,h1,h3⟩
   ·rintro⟨h1,h2,h3⟩;exact⟨h2,h1,h3⟩
 ·refine⟨Ff,s1,w',?_,qC,qK,?_⟩
  ·simp[q4]
  ·simp only[Bool.false_eq_true,false_and,false_iff];rintro⟨h1,h2⟩;unfold jJ at h2;rw[Q1]at h2;exact qG ⟨h1,h2.2⟩
set_option maxHeartbeats 8000000
noncomputable def au:Code->Code
 |.seq a _=>a
 |x=>x
noncomputable def aw:Code->Code
 |.seq _ b=>b
 |x=>x
noncomputable def dx:Code:=f49.body.getD .skip
noncomputable def eW:Code:=aw (au (aw (aw dx)))
noncomputable def HK:Code:=aw (aw (aw dx))
def cQ(C:ae->Option AV)(sc:List (List ae))(k:Int)(nm:ae)(num:Int)(ps:List ae)(b a l:aa):Bool :=
 if k=1 then dL [110] nm num ps.length b.len a.len l.len&&(named nm&&hasB sc nm)
 else if k=2 then dL [105] nm num ps.length b.len a.len l.len
 else if k=3 then dL [105] nm num ps.length b.len a.len l.len&&(decide (0<=num)&&decide (num<=255))
 else if k=4 then dL [110,97] nm num ps.length b.len a.len l.len&&(named nm&&match C nm with|none=>Ff|some v=>decide (jr v=(a.len:Int)))
 else if k=5 then dL [112,97] nm num ps.length b.len a.len l.len&&(decide (1<=ps.length)&&(decide (ps.length<=32)&&(ez ps&&decide (a.len=1))))
 else if k=6 then dL [97] nm num ps.length b.len a.len l.len&&(decide (2<=a.len)&&decide (a.len<=33))
 else if k=7 then dL [98,97] nm num ps.length b.len a.len l.len&&(decide (1<=b.len)&&(ez b.names&&decide (a.len=1)))
 else if k=8 then dL [97,99] nm num ps.length b.len a.len l.len&&(decide (a.len=1)&&jJ C l.bB)
 else if k=9 then dL [110,97] nm num ps.length b.len a.len l.len&&(named nm&&decide (arF nm=(a.len:Int)))
 else Ff
def de(k:Int)(ps:List ae)(b:aa)(sc:List (List ae)):List (List ae):=if k=5 then ps::sc else if k=7 then b.names::sc else sc
theorem aek:bt π 121=So [.sn,.pn]:=by kernel_rfl
theorem ad0:eC π 121=true:=by kernel_rfl
theorem aa3:∃fs,π.underlying 121=So (.struct fs)/\gP π fs 0=So (0,1)/\gP π fs 1=So (1,1):=⟨_,underlying121,by kernel_rfl,by kernel_rfl⟩
theorem wz{x y:Operand}{f:AV}(hx:ah t x=v)(hy:ah t y=f)(hv:v.cells=So [v])(hf:f.cells=So [f]):cO (.build 121 #[(0,x),(1,y)]) π S t st=So (.ag [v,f],st):=by
 have⟨fs,h1,h2,h3⟩:=aa3;show @Bool.rec (λ_=>aD) none (cI π 121 [(0,ah t x),(1,ah t y)] st) (eC π 121)=_
 rw[ad0,hx,hy];show cI π 121 [(0,v),(1,f)] st=_
 unfold cI;rw[h1];simp only[aek,jc,fill,h2,h3,hv,hf];rfl
theorem wK{l:List AV}(h:cz v l):v.cells=So [v]:=by rcases h with ⟨rfl,-⟩|rfl<;>simp
def iT(st:St)(cr:Nat)(fr:AV)(sc:List (List ae)):Prop:=(fr.cells=So [fr]/\bR fr=Tt)/\∃w,im [cr] st fr w/\Cm sc w
theorem iT.keep{cr:Nat}{fr:AV}{sc:List (List ae)}{st':St}(h:iT st cr fr sc)(k:Kp [cr] [cr] st st'):iT st' cr fr sc:=by have⟨h1,w,h2,h3⟩:=h;exact⟨h1,w,h2.keep k (by simp) (by simp),h3⟩
theorem iT.new{l:List ae}(h:iT st cr fr sc)(hv:cz v (l.map .s))(hl:l.length<=9223372036854775807)(hcr:cr<st.next):iT (st.aj [v,fr]) cr (.p st.next 0) (l::sc):=by
 have⟨h1,w,h2,h3⟩:=h;have hn:st.next∉[cr]:=by grind
 refine⟨⟨by simp,rfl⟩,.rp [v,w],.ptr (bq _) (Q9 _) (Q9 _) hn hn (.cons (.pure (hv.pure (kR l))) (.cons (h2.keep (.aj [] [] _) (by simp) (by simp)) .nil)),v,w,rfl,⟨hv,hl⟩,h3⟩
structure TI(st s:St)(t:Tr AV)(cr mr:Nat)(w:Int)(C:ae->Option AV)(sc:List (List ae))(e fr:AV)(ok:Bool)(sc':List (List ae)):Prop where
 t0:ab t 0=.p cr 0
 t1:ab t 1=e
 t2:ab t 2=fr
 fr:iT s cr (ab t 6) sc'
 rest:∃fine w',ab t 7=.b fine/\Ck s cr mr w' C/\Kp [cr] [cr] st s/\((w'=0/\fine=Tt)↔(w=0/\ok=Tt))
def pv(o:Out)(st:St)(cr mr:Nat)(w:Int)(C:ae->Option AV)(sc:List (List ae))(e fr:AV)(ok:Bool)(sc':List (List ae)):Prop:=∃t s,o=.nx t s/\TI st s t cr mr w C sc e fr ok sc'
theorem Yb(k:Int)(nm:ae)(num:Int)(ps:AV)(b a l:aa)(hT:(Ex.mk k nm num ps b a l).Ty)(hs:(Ex.mk k nm num ps b a l).size<=1000000)(r:List AV)(hr:aA r=Tt)(hC:zy C)(hk:Ck st cr mr w C)(hf:iT st cr fr sc)(hN:sc.length+10000000000000000020<=N)(h0:ab t 0=.p cr 0)(h1:ab t 1=.rp ((Ex.mk k nm num ps b a l).cells++r))(h2:ab t 2=fr)(h6:ab t 6=fr)(h7:ab t 7=.b Ff)(h18:ab t 18=.i .i64 k):
  pv (ao eW ⟨π,Tw c N,Ff,f49.ntmps,N⟩ t st) st cr mr w C sc (.rp ((Ex.mk k nm num ps b a l).cells++r)) fr (cQ C sc k nm num (aL ps) b a l) (de k (aL ps) b sc):=by
 have hT':=hT;simp only[Ex.Ty]at hT;obtain⟨-,hps,hTb,hTa,hTl⟩:=hT;have⟨hp,hpl⟩:=hps.sl;have hsz:(Ex.mk k nm num ps b a l).size=1+b.size+a.size+l.size:=by simp only[Ex.size]
 have hbl:=b.cq;have hal:=a.cq;have hll:=l.cq;have hpu:aA ((Ex.mk k nm num ps b a l).cells++r)=true:=by rw[vF,Ex.Aa hT',hr];rfl
 have lp:=λst:St=>hp.sLen (st:=st) eL
 have lb:=λst:St=>bg (st:=st) underlying23 (b.bU 8) (b.bV 8)
 have la:=λst:St=>bg (st:=st) underlying44 (a.bU 7) (a.bV 7)
 have ll:=λst:St=>bg (st:=st) underlying45 (l.bU 11) (l.bV 11)
 have⟨al,hc⟩:=hk.ce;have e1:vV 8:=by right;left;rfl
 have e2:vV 9:=by right;right;left;rfl
 have nmd:=λst:St=>yB (c:=c) (st:=st) nm (N:=N) (by omega)
 have cutK:∀(j:Nat) (v:AV),(Ex.mk k nm num ps b a l).cells[j]? = So v->loadAt π 3 st (.rp (((Ex.mk k nm num ps b a l).cells++r).drop j))=So v\/True:=λ_ _ _=>.inr trivial
 generalize hpx:aL ps=px at*;by_cases k1:k=1
 case pos=>
  subst k1;have on:=λst:St=>aaf (c:=c) (st:=st) 1 nm num hp b a l r (N:=N) (by omega) hpu
  simp only[Ex.cells,Q4,Q2]at on;unfold pv;have⟨f1,fw,f2,f3⟩:=id hf;have hs:=N8 (c:=c) nm f2 f3 (N:=N) (by omega);cases ho:dL [110] nm num px.length b.len a.len l.len with
  |false=>rw[ho]at on;have⟨s1,w1,y1,y2,y3,y4⟩:=lK (c:=c) Ff hk e1 (by decide) (N:=N) (by omega);simp[eW,dx,au,aw,f49,h0,h1,h18,Ex.cells,on,y1];refine⟨_,_,⟨rfl,rfl⟩,by simp[h0],by simp[h1,Ex.cells],by simp[h2],by simpa[de,h6] using(hf.keep y3),Ff,w1,by simp,y2,y3,?_⟩;simp[cQ,ho]
  |true=>
   rw[ho]at on;cases hn:named nm with
   |false=>have⟨s1,w1,y1,y2,y3,y4⟩:=lK (c:=c) Ff hk e1 (by decide) (N:=N) (by omega);simp[eW,dx,au,aw,f49,h0,h1,h18,Ex.cells,nmd,on,hn,y1];refine⟨_,_,⟨rfl,rfl⟩,by simp[h0],by simp[h1,Ex.cells],by simp[h2],by simpa[de,h6] using(hf.keep y3),Ff,w1,by simp,y2,y3,?_⟩;simp[cQ,ho,hn]
   |true=>have⟨s1,w1,y1,y2,y3,y4⟩:=lK (c:=c) (!hasB sc nm) hk e1 (by decide) (N:=N) (by omega);simp[eW,dx,au,aw,f49,h0,h1,h2,h18,Ex.cells,nmd,on,hn,hs,y1];refine⟨_,_,⟨rfl,rfl⟩,by simp[h0],by simp[h1,Ex.cells],by simp[h2],by simpa[de,h6] using(hf.keep y3),Tt,w1,by simp,y2,y3,?_⟩;rw[y4];simp[cQ,ho,hn]
 by_cases k2:k=2
 case pos=>
  subst k2;have on:=λst:St=>P3 (c:=c) (st:=st) 2 nm num hp b a l r (N:=N) (by omega) hpu
  simp only[Ex.cells,Q4,Q2]at on;unfold pv;simp[eW,dx,au,aw,f49,h1,h18,Ex.cells,on];refine⟨_,_,⟨rfl,rfl⟩,by simp[h0],by simp[h1,Ex.cells],by simp[h2],by simpa[de,h6]using hf,dL [105] nm num px.length b.len a.len l.len,w,by simp,hk,.refl _ _ _,?_⟩;simp[cQ]
 by_cases k3:k=3
 case pos=>
  subst k3;have on:=λst:St=>P3 (c:=c) (st:=st) 3 nm num hp b a l r (N:=N) (by omega) hpu
  simp only[Ex.cells,Q4,Q2]at on;unfold pv;cases ho:dL [105] nm num px.length b.len a.len l.len with
  |false=>rw[ho]at on;simp[eW,dx,au,aw,f49,h1,h18,Ex.cells,on];refine⟨_,_,⟨rfl,rfl⟩,by simp[h0],by simp[h1,Ex.cells],by simp[h2],by simpa[de,h6]using hf,Ff,w,by simp,hk,.refl _ _ _,?_⟩;simp[cQ,ho]
  |true=>
   rw[ho]at on;by_cases n0:0<=num
   case neg=>simp[eW,dx,au,aw,f49,h1,h18,Ex.cells,on,n0];refine⟨_,_,⟨rfl,rfl⟩,by simp[h0],by simp[h1,Ex.cells],by simp[h2],by simpa[de,h6]using hf,Ff,w,by simp,hk,.refl _ _ _,?_⟩;simp[cQ,ho,n0]
   simp[eW,dx,au,aw,f49,h1,h18,Ex.cells,on,n0];refine⟨_,_,⟨rfl,rfl⟩,by simp[h0],by simp[h1,Ex.cells],by simp[h2],by simpa[de,h6]using hf,decide (num<=255),w,by simp,hk,.refl _ _ _,?_⟩;simp[cQ,ho,n0]
 by_cases k4:k=4
 case pos=>
  subst k4;have on:=λst:St=>P4 (c:=c) (st:=st) 4 nm num hp b a l r (N:=N) (by omega) hpu
  simp only[Ex.cells,Q4,Q2]at on;unfold pv;cases ho:dL [110,97] nm num px.length b.len a.len l.len with
  |false=>
   rw[ho]at on;cases hCn:C nm with
   |none=>have lk:=hk.mp.ti wP nm;rw[hCn]at lk;have lk':lookup π 122 st (.m mr) (.s nm) Tt=So (.tu [.ag fU,.b Ff]):=lk;have⟨s0,x1,x2,x3,x4⟩:=bJ (s:=st) (z:=fU) (cells:=fU) rfl rfl;have z35:fU.length=4:=rfl;have k0:=hk.keep x3 (by simp) (by simp) (by simp);have⟨s1,w1,y1,y2,y3,y4⟩:=lK (c:=c) Tt k0 e2 (by decide) (N:=N) (by omega);simp[eW,dx,au,aw,f49,h1,h18,Ex.cells,on,aY];rw[bP (by kernel_rfl)];simp[h0,h1,Ex.cells,ai hc,lk',aB,ek,aC dD dB,z35,x1,aY];rw[bP (by kernel_rfl)];simp[h0,y1];refine⟨_,_,⟨rfl,rfl⟩,by simp[h0],by simp[h1,Ex.cells],by simp[h2],by simpa[de,h6] using((hf.keep (x3.sub (by simp) (by simp))).keep y3),Ff,w1,by simp,y2,((x3.sub (by simp) (by simp)).trans y3),?_⟩;simp[cQ,hCn,y4]
   |some cv=>
    have⟨cn,car,cty,ctag,hcv⟩:=hC _ _ hCn;have lk:=hk.mp.ti wP nm;rw[hCn,hcv]at lk;have lk':lookup π 122 st (.m mr) (.s nm) Tt=So (.tu [.ag [.s cn,.i .i64 car,.s cty,.i .i64 ctag],.b Tt]):=lk;have⟨s0,x1,x2,x3,x4⟩:=bJ (s:=st) (z:=fU) (cells:=[.s cn,.i .i64 car,.s cty,.i .i64 ctag]) rfl rfl;have k0:=hk.keep x3 (by simp) (by simp) (by simp);have⟨s1,w1,y1,y2,y3,y4⟩:=lK (c:=c) (!decide (car=(a.len:Int))) k0 e2 (by decide) (N:=N) (by omega);simp[eW,dx,au,aw,f49,h1,h18,Ex.cells,on,aY];rw[bP (by kernel_rfl)];simp[h0,h1,Ex.cells,ai hc,lk',aB,ek,aC dD dB,x1,aY];rw[bP (by kernel_rfl)];simp[h0,h1,Ex.cells,la,ai x2,y1];refine⟨_,_,⟨rfl,rfl⟩,by simp[h0],by simp[h1,Ex.cells],by simp[h2],by simpa[de,h6] using((hf.keep (x3.sub (by simp) (by simp))).keep y3),Ff,w1,by simp,y2,((x3.sub (by simp) (by simp)).trans y3),?_⟩;have e:cQ C sc 4 nm num px b a l=(dL [110,97] nm num px.length b.len a.len l.len&&(named nm&&decide (car=(a.len:Int)))):=by simp[cQ,hCn,hcv];intros;rfl
    rw[e,y4];simp[ho];try exact⟨λ⟨⟨q1,q2⟩,q3⟩=>⟨q1,q3,q2⟩,λ⟨q1,q3,q2⟩=>⟨⟨q1,q2⟩,q3⟩⟩
  |true=>
   rw[ho]at on;cases hCn:C nm with
   |none=>have lk:=hk.mp.ti wP nm;rw[hCn]at lk;have lk':lookup π 122 st (.m mr) (.s nm) Tt=So (.tu [.ag fU,.b Ff]):=lk;have⟨s0,x1,x2,x3,x4⟩:=bJ (s:=st) (z:=fU) (cells:=fU) rfl rfl;have z35:fU.length=4:=rfl;have k0:=hk.keep x3 (by simp) (by simp) (by simp);have⟨s1,w1,y1,y2,y3,y4⟩:=lK (c:=c) Tt k0 e2 (by decide) (N:=N) (by omega);simp[eW,dx,au,aw,f49,h1,h18,Ex.cells,nmd,on,aY];rw[bP (by kernel_rfl)];simp[h0,h1,Ex.cells,ai hc,lk',aB,ek,aC dD dB,z35,x1,aY];rw[bP (by kernel_rfl)];simp[h0,y1];refine⟨_,_,⟨rfl,rfl⟩,by simp[h0],by simp[h1,Ex.cells],by simp[h2],by simpa[de,h6] using((hf.keep (x3.sub (by simp) (by simp))).keep y3),named nm,w1,by simp,y2,((x3.sub (by simp) (by simp)).trans y3),?_⟩;simp[cQ,hCn,y4]
   |some cv=>
    have⟨cn,car,cty,ctag,hcv⟩:=hC _ _ hCn;have lk:=hk.mp.ti wP nm;rw[hCn,hcv]at lk;have lk':lookup π 122 st (.m mr) (.s nm) Tt=So (.tu [.ag [.s cn,.i .i64 car,.s cty,.i .i64 ctag],.b Tt]):=lk;have⟨s0,x1,x2,x3,x4⟩:=bJ (s:=st) (z:=fU) (cells:=[.s cn,.i .i64 car,.s cty,.i .i64 ctag]) rfl rfl;have k0:=hk.keep x3 (by simp) (by simp) (by simp);have⟨s1,w1,y1,y2,y3,y4⟩:=lK (c:=c) (!decide (car=(a.len:Int))) k0 e2 (by decide) (N:=N) (by omega);simp[eW,dx,au,aw,f49,h1,h18,Ex.cells,nmd,on,aY];rw[bP (by kernel_rfl)];simp[h0,h1,Ex.cells,ai hc,lk',aB,ek,aC dD dB,x1,aY];rw[bP (by kernel_rfl)];simp[h0,h1,Ex.cells,la,ai x2,y1];refine⟨_,_,⟨rfl,rfl⟩,by simp[h0],by simp[h1,Ex.cells],by simp[h2],by simpa[de,h6] using((hf.keep (x3.sub (by simp) (by simp))).keep y3),named nm,w1,by simp,y2,((x3.sub (by simp) (by simp)).trans y3),?_⟩;have e:cQ C sc 4 nm num px b a l=(dL [110,97] nm num px.length b.len a.len l.len&&(named nm&&decide (car=(a.len:Int)))):=by simp[cQ,hCn,hcv];intros;rfl
    rw[e,y4];simp[ho];try exact⟨λ⟨⟨q1,q2⟩,q3⟩=>⟨q1,q3,q2⟩,λ⟨q1,q3,q2⟩=>⟨⟨q1,q2⟩,q3⟩⟩
 by_cases k5:k=5
 case pos=>
  subst k5;have on:=λst:St=>aah (c:=c) (st:=st) 5 nm num hp b a l r (N:=N) (by omega) hpu
  simp only[Ex.cells,Q4,Q2]at on;unfold pv;have bo:=λ(t:Tr AV) (q1:ah t (.tmp 139)=ps) (q2:ah t (.tmp 140)=fr)=>wz (st:=st) (S:=Tw c N) (t:=t) q1 q2 (wK hp) hf.1.1
  have nf:=hf.new hp hpl hk.crl;have kn:=Kp.aj (st:=st) [cr] [cr] [ps,fr];have nk:=hk.keep (Kp.aj (st:=st) [] [] [ps,fr]) (by simp) (by simp) (by simp);have nms:=λst:St=>Eh (c:=c) (st:=st) hp hpl (N:=N) (by omega)
  cases ho:dL [112,97] nm num px.length b.len a.len l.len with
  |false=>rw[ho]at on;simp[eW,dx,au,aw,f49,h1,h2,h18,Ex.cells,on,bo];refine⟨_,_,⟨rfl,rfl⟩,by simp[h0],by simp[h1,Ex.cells],by simp[h2],by simpa[de,h6]using nf,Ff,w,by simp,nk,kn,?_⟩;simp[cQ,ho]
  |true=>
   rw[ho]at on;by_cases n1:1<=px.length
   case neg=>
    have n1':¬(1:Int)<=(px.length:Int):=by omega
    simp[eW,dx,au,aw,f49,h1,h2,h18,Ex.cells,lp,on,n1',bo];refine⟨_,_,⟨rfl,rfl⟩,by simp[h0],by simp[h1,Ex.cells],by simp[h2],by simpa[de,h6]using nf,Ff,w,by simp,nk,kn,?_⟩;simp[cQ,ho,n1]
   have n1':(1:Int)<=(px.length:Int):=by omega
   by_cases n2:px.length<=32
   case neg=>
    have n2':¬(px.length:Int)<=32:=by omega
    simp[eW,dx,au,aw,f49,h1,h2,h18,Ex.cells,lp,on,n1',n2',bo];refine⟨_,_,⟨rfl,rfl⟩,by simp[h0],by simp[h1,Ex.cells],by simp[h2],by simpa[de,h6]using nf,Ff,w,by simp,nk,kn,?_⟩;simp[cQ,ho,n1,n2]
   have n2':(px.length:Int)<=32:=by omega
   cases nn:ez px with
   |false=>simp[eW,dx,au,aw,f49,h1,h2,h18,Ex.cells,lp,on,n1',n2',nms,nn,bo];refine⟨_,_,⟨rfl,rfl⟩,by simp[h0],by simp[h1,Ex.cells],by simp[h2],by simpa[de,h6]using nf,Ff,w,by simp,nk,kn,?_⟩;simp[cQ,ho,n1,n2,nn]
   |true=>
    have na:decide ((a.len:Int)=1)=decide (a.len=1):=by rw[decide_eq_decide];omega
    simp[eW,dx,au,aw,f49,h1,h2,h18,Ex.cells,lp,la,on,n1',n2',nms,nn,bo];refine⟨_,_,⟨rfl,rfl⟩,by simp[h0],by simp[h1,Ex.cells],by simp[h2],by simpa[de,h6]using nf,decide (a.len=1),w,by simp[na],nk,kn,?_⟩;simp[cQ,ho,n1,n2,nn]
 by_cases k6:k=6
 case pos=>
  subst k6;have on:=λst:St=>aac (c:=c) (st:=st) 6 nm num hp b a l r (N:=N) (by omega) hpu
  simp only[Ex.cells,Q4,Q2]at on;unfold pv;cases ho:dL [97] nm num px.length b.len a.len l.len with
  |false=>rw[ho]at on;simp[eW,dx,au,aw,f49,h1,h18,Ex.cells,on];refine⟨_,_,⟨rfl,rfl⟩,by simp[h0],by simp[h1,Ex.cells],by simp[h2],by simpa[de,h6]using hf,Ff,w,by simp,hk,.refl _ _ _,?_⟩;simp[cQ,ho]
  |true=>
   rw[ho]at on;by_cases n1:2<=a.len
   case neg=>
    have n1':¬(2:Int)<=(a.len:Int):=by omega
    simp[eW,dx,au,aw,f49,h1,h18,Ex.cells,la,on,n1'];refine⟨_,_,⟨rfl,rfl⟩,by simp[h0],by simp[h1,Ex.cells],by simp[h2],by simpa[de,h6]using hf,Ff,w,by simp,hk,.refl _ _ _,?_⟩;simp[cQ,ho,n1]
   have n1':(2:Int)<=(a.len:Int):=by omega
   have na:decide ((a.len:Int)<=33)=decide (a.len<=33):=by rw[decide_eq_decide];omega
   simp[eW,dx,au,aw,f49,h1,h18,Ex.cells,la,on,n1'];refine⟨_,_,⟨rfl,rfl⟩,by simp[h0],by simp[h1,Ex.cells],by simp[h2],by simpa[de,h6]using hf,decide (a.len<=33),w,by simp[na],hk,.refl _ _ _,?_⟩;simp[cQ,ho,n1]
 by_cases k7:k=7
 case pos=>
  subst k7;have on:=λst:St=>aae (c:=c) (st:=st) 7 nm num hp b a l r (N:=N) (by omega) hpu
  simp only[Ex.cells,Q4,Q2]at on;unfold pv;have⟨wb,wb1,wb2⟩:=GJ (c:=c) (st:=st) hTb (by omega) (N:=N) (by omega);have wln:=λst:St=>wb2.sLen (st:=st) eL
  rw[fg]at wln;have wll:b.names.length<=9223372036854775807:=by rw[fg];omega
  have bo:=λ(t:Tr AV) (q1:ah t (.tmp 189)=wb) (q2:ah t (.tmp 190)=fr)=>wz (st:=st) (S:=Tw c N) (t:=t) q1 q2 (wK wb2) hf.1.1
  have nf:=hf.new wb2 wll hk.crl;have kn:=Kp.aj (st:=st) [cr] [cr] [wb,fr];have nk:=hk.keep (Kp.aj (st:=st) [] [] [wb,fr]) (by simp) (by simp) (by simp);have nms:=λst:St=>Eh (c:=c) (st:=st) wb2 wll (N:=N) (by omega)
  cases ho:dL [98,97] nm num px.length b.len a.len l.len with
  |false=>rw[ho]at on;simp[eW,dx,au,aw,f49,h1,h2,h18,Ex.cells,wb1,on,bo];refine⟨_,_,⟨rfl,rfl⟩,by simp[h0],by simp[h1,Ex.cells],by simp[h2],by simpa[de,h6]using nf,Ff,w,by simp,nk,kn,?_⟩;simp[cQ,ho]
  |true=>
   rw[ho]at on;by_cases n1:1<=b.len
   case neg=>
    have n1':¬(1:Int)<=(b.len:Int):=by omega
    simp[eW,dx,au,aw,f49,h1,h2,h18,Ex.cells,wb1,wln,on,n1',bo];refine⟨_,_,⟨rfl,rfl⟩,by simp[h0],by simp[h1,Ex.cells],by simp[h2],by simpa[de,h6]using nf,Ff,w,by simp,nk,kn,?_⟩;simp[cQ,ho,n1]
   have n1':(1:Int)<=(b.len:Int):=by omega
   cases nn:ez b.names with
   |false=>simp[eW,dx,au,aw,f49,h1,h2,h18,Ex.cells,wb1,wln,on,n1',nms,nn,bo];refine⟨_,_,⟨rfl,rfl⟩,by simp[h0],by simp[h1,Ex.cells],by simp[h2],by simpa[de,h6]using nf,Ff,w,by simp,nk,kn,?_⟩;simp[cQ,ho,n1,nn]
   |true=>
    have na:decide ((a.len:Int)=1)=decide (a.len=1):=by rw[decide_eq_decide];omega
    simp[eW,dx,au,aw,f49,h1,h2,h18,Ex.cells,la,wb1,wln,on,n1',nms,nn,bo];refine⟨_,_,⟨rfl,rfl⟩,by simp[h0],by simp[h1,Ex.cells],by simp[h2],by simpa[de,h6]using nf,decide (a.len=1),w,by simp[na],nk,kn,?_⟩;simp[cQ,ho,n1,nn]
 by_cases k8:k=8
 case pos=>
  subst k8;have on:=λst:St=>aad (c:=c) (st:=st) 8 nm num hp b a l r (N:=N) (by omega) hpu
  simp only[Ex.cells,Q4,Q2]at on;unfold pv;cases ho:dL [97,99] nm num px.length b.len a.len l.len with
  |false=>rw[ho]at on;simp[eW,dx,au,aw,f49,h1,h18,Ex.cells,on];refine⟨_,_,⟨rfl,rfl⟩,by simp[h0],by simp[h1,Ex.cells],by simp[h2],by simpa[de,h6]using hf,Ff,w,by simp,hk,.refl _ _ _,?_⟩;simp[cQ,ho]
  |true=>
   rw[ho]at on;by_cases n1:a.len=1
   case neg=>
    have n1':¬(a.len:Int)=1:=by omega
    simp[eW,dx,au,aw,f49,h1,h18,Ex.cells,la,on,n1'];refine⟨_,_,⟨rfl,rfl⟩,by simp[h0],by simp[h1,Ex.cells],by simp[h2],by simpa[de,h6]using hf,Ff,w,by simp,hk,.refl _ _ _,?_⟩;simp[cQ,ho,n1]
   have n1':(a.len:Int)=1:=by omega
   have⟨bb,s1,w1,y1,y2,y3,y4⟩:=Ud (c:=c) hTl (by omega) hC hk (N:=N) (by omega);simp[eW,dx,au,aw,f49,h0,h1,h18,Ex.cells,la,on,n1',y1];refine⟨_,_,⟨rfl,rfl⟩,by simp[h0],by simp[h1,Ex.cells],by simp[h2],by simpa[de,h6] using(hf.keep y3),bb,w1,by simp,y2,y3,?_⟩;rw[n1]at ho;rw[and_comm,y4];simp[cQ,ho,n1]
 by_cases k9:k=9
 case pos=>
  subst k9;have on:=λst:St=>P4 (c:=c) (st:=st) 9 nm num hp b a l r (N:=N) (by omega) hpu
  simp only[Ex.cells,Q4,Q2]at on;unfold pv;have arc:=λst:St=>LK (c:=c) (st:=st) nm (N:=N) (by omega)
  cases ho:dL [110,97] nm num px.length b.len a.len l.len with
  |false=>
   rw[ho]at on;have⟨s1,w1,y1,y2,y3,y4⟩:=lK (c:=c) (!decide (arF nm=(a.len:Int))) hk e2 (by decide) (N:=N) (by omega);simp[eW,dx,au,aw,f49,h1,h18,Ex.cells,on,aY];rw[ft (fl:=[(9,0),(10,0)])]
   rotate_left
   ·kernel_rfl
   ·intro R hR;simp[h0,h1,Ex.cells,la,arc,y1]at hR;subst hR;simp only[Q5,Q6,Q7,Q1];exact⟨cZ rfl rfl rfl (s:=st) (by simp),cZ rfl rfl rfl (s:=st) (by simp[la])⟩
   simp[h0,h1,Ex.cells,la,arc,y1];refine⟨_,_,⟨rfl,rfl⟩,by simp[h0],by simp[h1,Ex.cells],by simp[h2],by simpa[de,h6] using(hf.keep y3),Ff,w1,by simp,y2,y3,?_⟩;rw[y4];simp[cQ,ho];try exact⟨λ⟨⟨q1,q2⟩,q3⟩=>⟨q1,q3,q2⟩,λ⟨q1,q3,q2⟩=>⟨⟨q1,q2⟩,q3⟩⟩
  |true=>
   rw[ho]at on;have⟨s1,w1,y1,y2,y3,y4⟩:=lK (c:=c) (!decide (arF nm=(a.len:Int))) hk e2 (by decide) (N:=N) (by omega);simp[eW,dx,au,aw,f49,h1,h18,Ex.cells,nmd,on,aY];rw[ft (fl:=[(9,0),(10,0)])]
   rotate_left
   ·kernel_rfl
   ·intro R hR;simp[h0,h1,Ex.cells,la,arc,y1]at hR;subst hR;simp only[Q5,Q6,Q7,Q1];exact⟨cZ rfl rfl rfl (s:=st) (by simp),cZ rfl rfl rfl (s:=st) (by simp[la])⟩
   simp[h0,h1,Ex.cells,la,arc,y1];refine⟨_,_,⟨rfl,rfl⟩,by simp[h0],by simp[h1,Ex.cells],by simp[h2],by simpa[de,h6] using(hf.keep y3),named nm,w1,by simp,y2,y3,?_⟩;rw[y4];simp[cQ,ho];try exact⟨λ⟨⟨q1,q2⟩,q3⟩=>⟨q1,q3,q2⟩,λ⟨q1,q3,q2⟩=>⟨⟨q1,q2⟩,q3⟩⟩
 unfold pv;simp[eW,dx,au,aw,f49,h18,Ex.cells,k1,k2,k3,k4,k5,k6,k7,k8,k9];refine⟨_,_,⟨rfl,rfl⟩,by simp[h0],by simp[h1,Ex.cells],by simp[h2],by simpa[de,h6,k1,k2,k3,k4,k5,k6,k7,k8,k9]using hf,Ff,w,by simp[h7],hk,.refl _ _ _,?_⟩;simp[cQ,k1,k2,k3,k4,k5,k6,k7,k8,k9]
set_option maxHeartbeats 8000000
mutual
def dQ(C:ae->Option AV):Ex->List (List ae)->Bool
 |.mk k nm num ps b a l,sc=>cQ C sc k nm num (aL ps) b a l&&(cS C a (de k (aL ps) b sc)&&(cS C b (de k (aL ps) b sc)&&fF C l sc))
def cS(C:ae->Option AV):aa->List (List ae)->Bool
 |.nil _,_=>Tt
 |.cons _ x l,sc=>dQ C x sc&&cS C l sc
def fF(C:ae->Option AV):aa->List (List ae)->Bool
 |.nil _,_=>Tt
 |.cons p x l,sc=>dQ C x (aL (p.getD 3 .un)::sc)&&fF C l sc
end
theorem IS{C:ae->Option AV}:∀{l:aa}{sc:List (List ae)},cS C l sc=Tt↔∀j (h:j<l.list.length),dQ C l.list[j].2 sc=Tt
 |.nil _,sc=>by simp[cS,aa.list]
 |.cons p x l,sc=>by
  simp only[cS,Q1,IS];constructor
  ·rintro⟨h1,h2⟩ j hj;cases j with
   |zero=>exact h1
   |succ j=>exact h2 j (by simpa[aa.list]using hj)
  ·intro h;exact⟨h 0 (by simp[aa.list]),λj hj=>h (j+1) (by simpa[aa.list]using hj)⟩
theorem PV{C:ae->Option AV}:∀{l:aa}{sc:List (List ae)},fF C l sc=Tt↔∀j (h:j<l.list.length),dQ C l.list[j].2 ((aM l.list[j]).vs::sc)=Tt
 |.nil _,sc=>by simp[fF,aa.list]
 |.cons p x l,sc=>by
  simp only[fF,Q1,PV];constructor
  ·rintro⟨h1,h2⟩ j hj;cases j with
   |zero=>exact h1
   |succ j=>exact h2 j (by simpa[aa.list]using hj)
  ·intro h;exact⟨h 0 (by simp[aa.list]),λj hj=>h (j+1) (by simpa[aa.list]using hj)⟩
def F5(o:Option (AV×St))(st:St)(cr mr:Nat)(w:Int)(C:ae->Option AV)(ok:Bool):Prop :=
 ∃st' w',o=So (.tu [],st')/\Ck st' cr mr w' C/\Kp [cr] [cr] st st'/\(w'=0↔w=0/\ok=Tt)
def Tu(c:Option Self)(x:Ex):Prop:=x.Ty->x.size<=1000000->∀(st:St) (cr mr:Nat) (w:Int) (C:ae->Option AV) (sc:List (List ae)) (fr:AV) (r:List AV) (N:Nat),zy C->Ck st cr mr w C->iT st cr fr sc->aA r=Tt->
 2*x.size+sc.length+10000000000000000030<=N->F5 ((Tw c N).call 49 [.p cr 0,.rp (x.cells++r),fr] st) st cr mr w C (dQ C x sc)
def Gi(st s:St)(t:Tr AV)(cr mr:Nat)(w:Int)(C:ae->Option AV)(e fr fi:AV)(i n:Nat)(q:Nat->Prop)(kl ki:Nat):Prop :=
 ab t 0=.p cr 0/\ab t 1=e/\ab t 2=fr/\ab t 6=fi/\ab t kl=.i .i64 (n:Int)/\ab t ki=.i .i64 (i:Int)/\∃w',Ck s cr mr w' C/\Kp [cr] [cr] st s/\(w'=0↔w=0/\∀j,j<i->q j)
def Gj(st s:St)(t:Tr AV)(cr mr:Nat)(w:Int)(C:ae->Option AV)(e fr fi:AV)(n:Nat)(q:Nat->Prop):Prop :=
 ab t 0=.p cr 0/\ab t 1=e/\ab t 2=fr/\ab t 6=fi/\∃w',Ck s cr mr w' C/\Kp [cr] [cr] st s/\(w'=0↔w=0/\∀j,j<n->q j)
def yG(C:ae->Option AV)(sc:List (List ae))(l:aa)(j:Nat):Prop:=∀h:j<l.list.length,dQ C l.list[j].2 sc=Tt
def IQ(C:ae->Option AV)(sc:List (List ae))(l:aa)(j:Nat):Prop:=∀h:j<l.list.length,dQ C l.list[j].2 ((aM l.list[j]).vs::sc)=Tt
theorem IR:(∀j,j<l.list.length->yG C sc l j)↔cS C l sc=true:=by rw[IS];exact⟨λh j hj=>h j hj hj,λh j _ hj=>h j hj⟩
theorem ZW:(∀j,j<l.list.length->IQ C sc l j)↔fF C l sc=true:=by rw[PV];exact⟨λh j hj=>h j hj hj,λh j _ hj=>h j hj⟩
theorem all_succ{q:Nat->Prop}:(∀j,j<i+1->q j)↔(∀j,j<i->q j)/\q i :=
 ⟨λh=>⟨λj hj=>h j (by omega),h i (by omega)⟩,λh j hj=>by
  rcases Z7.1 hj with hj|rfl
  ·exact h.1 j hj
  ·exact h.2⟩
theorem iT.pn{st:St}{cr:Nat}:iT st cr .pn []:=⟨⟨by simp,rfl⟩,.pn,.pure rfl,rfl⟩
theorem wY{m z:Nat}(hT:l.Ty m)(hi:i<l.list.length){r:List AV}(h:l.flat.drop (i*z)=l.list[i].1++(l.list[i].2.cells++r))(_:l.list[i].1.length=fH m):aA r=true:=by have h1:=QH (n:=i*z) (aa.Au hT);rw[h,vF,vF,Q1,Q1]at h1;exact h1.2.2
theorem WX{t0:Tr AV}(k:Int)(nm:ae)(num:Int)(ps:AV)(b a l:aa)(r:List AV)(h0:ab t0 0=.p cr 0)(h1:ab t0 1=.rp ((Ex.mk k nm num ps b a l).cells++r))(h2:ab t0 2=fr):
  ∃t,ao dx ⟨π,Tw c N,Ff,f49.ntmps,N⟩ t0 st=bW (ao eW ⟨π,Tw c N,Ff,f49.ntmps,N⟩ t st) (ao HK ⟨π,Tw c N,Ff,f49.ntmps,N⟩)/\
   ab t 0=.p cr 0/\ab t 1=.rp ((Ex.mk k nm num ps b a l).cells++r)/\ab t 2=fr/\ab t 6=fr/\ab t 7=.b Ff/\ab t 18=.i .i64 k:=by
 rw[show ao dx ⟨π,Tw c N,Ff,f49.ntmps,N⟩ t0 st=bW (ao (au dx) ⟨π,Tw c N,Ff,f49.ntmps,N⟩ t0 st) (λt s=>bW (ao (au (aw dx)) ⟨π,Tw c N,Ff,f49.ntmps,N⟩ t s)
  (λt s=>bW (bW (ao (au (au (aw (aw dx)))) ⟨π,Tw c N,Ff,f49.ntmps,N⟩ t s) (ao eW ⟨π,Tw c N,Ff,f49.ntmps,N⟩)) (ao HK ⟨π,Tw c N,Ff,f49.ntmps,N⟩))) from rfl]
 have a0:∃t,ao (au dx) ⟨π,Tw c N,Ff,f49.ntmps,N⟩ t0 st=.nx t st/\ab t 0=.p cr 0/\ab t 1=.rp ((Ex.mk k nm num ps b a l).cells++r)/\ab t 2=fr/\ab t 6=fr:=by simp[dx,au,f49,h0,h1,h2]
 have⟨t1,a0,b0,b1,b2,b6⟩:=a0;have a1:∃t,ao (au (aw dx)) ⟨π,Tw c N,Ff,f49.ntmps,N⟩ t1 st=.nx t st/\ab t 0=.p cr 0/\ab t 1=.rp ((Ex.mk k nm num ps b a l).cells++r)/\ab t 2=fr/\ab t 6=fr/\ab t 7=.b false:=by simp[dx,au,aw,f49,b0,b1,b2,b6]
 have⟨t2,a1,c0,c1,c2,c6,c7⟩:=a1;have a2:∃t,ao (au (au (aw (aw dx)))) ⟨π,Tw c N,Ff,f49.ntmps,N⟩ t2 st=.nx t st/\ab t 0=.p cr 0/\ab t 1=.rp ((Ex.mk k nm num ps b a l).cells++r)/\ab t 2=fr/\ab t 6=fr/\ab t 7=.b Ff/\ab t 18=.i .i64 k:=by simp[dx,au,aw,f49,c0,c1,c2,c6,c7,Ex.cells]
 have⟨t3,a2,d0,d1,d2,d6,d7,d18⟩:=a2;refine⟨t3,?_,d0,d1,d2,d6,d7,d18⟩;rw[a0,dN,a1,dN,a2,dN]
theorem Wy:∀x,Tu c x:=by
 refine Ex.ind λk nm num ps b a l hb ha hl=>?_
 intro hT hs st cr mr w C sc fr r N hC hk hf hr hN;cases N
 ·omega
 rename_i N;rw[dV rfl func49 rfl (Q3 rfl)];unfold aJ;have hT':=hT;have hT2:=hT;simp only[Ex.Ty]at hT;obtain⟨-,hps,hTb,hTa,hTl⟩:=hT;have hsz:(Ex.mk k nm num ps b a l).size=1+b.size+a.size+l.size:=by simp only[Ex.size]
 have hbl:=b.cq;have hal:=a.cq;have hll:=l.cq;have lb:=λst:St=>bg (st:=st) underlying23 (b.bU 8) (b.bV 8)
 have la:=λst:St=>bg (st:=st) underlying44 (a.bU 7) (a.bV 7)
 have ll:=λst:St=>bg (st:=st) underlying45 (l.bU 11) (l.bV 11)
 have hcl:(Ex.mk k nm num ps b a l).cells++r=.i .i64 k::.s nm::.i .i64 num::ps::b.slice 8::a.slice 7::l.slice 11::r:=by simp[Ex.cells]
 have slen:(de k (aL ps) b sc).length<=sc.length+1:=by
  unfold de;split
  ·simp
  ·split<;>simp
 obtain⟨sc',hsc'⟩:∃sc',de k (aL ps) b sc=sc':=⟨_,rfl⟩;have e2:vV 2:=by right;right;right;rfl
 have e2:vV 2:=by right;right;right;rfl
 have start:=WX (c:=c) (N:=N) (t0:=tmpsOf [.p cr 0,.rp ((Ex.mk k nm num ps b a l).cells++r),fr] 0 .lf) (st:=st) (cr:=cr) (fr:=fr) k nm num ps b a l r (by simp) (by simp) (by simp);obtain⟨t,h0,q0,q1,q2,q6,q7,q18⟩:=start;have hb0:ao (f49.body.getD .skip) ⟨π,Tw c N,Ff,f49.ntmps,N⟩ (tmpsOf [.p cr 0,.rp ((Ex.mk k nm num ps b a l).cells++r),fr] 0 .lf) st=_:=h0;obtain⟨t1,s1,h1,H⟩:=Yb k nm num ps b a l hT2 hs r hr hC hk hf (N:=N) (by omega) q0 q1 q2 q6 q7 q18;obtain⟨p0,p1,p2,pF,fine,w1,p7,pC,pK,pG⟩:=H;rw[hsc']at pF;obtain⟨fi,hfi⟩:∃fi,ab t1 6=fi:=⟨_,rfl⟩;rw[hfi]at pF;obtain⟨s2,w2,y1,y2,y3,y4⟩:=lK (c:=c) (!fine) pC e2 (by decide) (N:=N) (by omega);have kp2:=pK.trans y3;have g2:w2=0↔w=0/\cQ C sc k nm num (aL ps) b a l=true:=by rw[y4,<-pG];cases fine<;>simp
 show F5 (fN π f49.results.toList (ao (f49.body.getD .skip) ⟨π,Tw c N,Ff,f49.ntmps,N⟩ (tmpsOf [.p cr 0,.rp ((Ex.mk k nm num ps b a l).cells++r),fr] 0 .lf) st)) st cr mr w C _
 rw[hb0,h1,dN];rw[hcl]at p1;unfold F5;simp[HK,dx,aw,f49,p0,p1,p7,y1,la,ba];generalize hL:aQ _ _ _ _=L;obtain⟨t3,s3,rfl,z0,z1,z2,z6,w3,zC,zK,zG⟩:=cD hL 1 a.list.length
  (λi t s=>Gi s2 s t cr mr w2 C (.rp (.i .i64 k::.s nm::.i .i64 num::ps::b.slice 8::a.slice 7::l.slice 11::r)) fr fi i a.len (yG C sc' a) 245 246)
  (λt s=>Gj s2 s t cr mr w2 C (.rp (.i .i64 k::.s nm::.i .i64 num::ps::b.slice 8::a.slice 7::l.slice 11::r)) fr fi a.list.length (yG C sc' a)) (by rw[<-aa.aF];omega)
  ⟨by simp[p0],by simp[p1],by simp[p2],by simp[hfi],by simp,by simp,w2,y2,.refl _ _ _,by simp⟩
  (by
   rintro i t s hi ⟨i0,i1,i2,i6,il,ii,w',iC,iK,iG⟩;have hil:i<a.len:=by rw[aa.aF];exact hi
   have e5:(i:Int)<(a.len:Int):=by omega
   have e7:wr .i64 ((i:Int)+1)=((i+1:Nat):Int):=by rw[aP (by omega) (by omega)];rfl
   obtain⟨r1,r2,r3⟩:=eK hTa.pre (show fH 0+7=7 from rfl) hi;have ix:=dP (P:=π) underlying44 cM aX a.flat a.len i hil;rw[<-aa.dR hil,r2,List.eq_nil_of_length_eq_zero r3,Q2]at ix;have hmem:=Q8 hi;have hTi:=aa.dC hTa _ hmem;have hsz':=aa.dX hmem;have hpr1:aA r1=true:=wY hTa hi r2 r3;obtain⟨s4,w4,x1,x2,x3,x4⟩:=ha _ hmem hTi.2 (by omega) s cr mr w' C sc' fi r1 N hC iC ((pF.keep y3).keep iK) hpr1 (by rw[<-hsc'];omega);simp[i0,i1,i6,il,ii,e5,e7,ix,x1];refine⟨_,_,⟨rfl,rfl⟩,by simp[i0],by simp[i1],by simp[i2],by simp[i6],by simp[il],by simp,w4,x2,iK.trans x3,?_⟩;rw[x4,iG,all_succ,and_assoc];exact and_congr J1 (and_congr J1 ⟨λh _=>h,λh=>h hi⟩))
  (by rintro t s ⟨i0,i1,i2,i6,il,ii,w',iC,iK,iG⟩;simp[il,ii,aa.aF];exact⟨_,_,⟨rfl,rfl⟩,by simp[i0],by simp[i1],by simp[i2],by simp[i6],w',iC,iK,iG⟩)
 clear hL;simp[z1,lb,ba];generalize hL:aQ _ _ _ _=L;obtain⟨t4,s4,rfl,u0,u1,u2,u6,w4,uC,uK,uG⟩:=cD hL 3 b.list.length
  (λi t s=>Gi s3 s t cr mr w3 C (.rp (.i .i64 k::.s nm::.i .i64 num::ps::b.slice 8::a.slice 7::l.slice 11::r)) fr fi i b.len (yG C sc' b) 263 264)
  (λt s=>Gj s3 s t cr mr w3 C (.rp (.i .i64 k::.s nm::.i .i64 num::ps::b.slice 8::a.slice 7::l.slice 11::r)) fr fi b.list.length (yG C sc' b)) (by rw[<-aa.aF];omega)
  ⟨by simp[z0],by simp[z1],by simp[z2],by simp[z6],by simp,by simp,w3,zC,.refl _ _ _,by simp⟩
  (by
   rintro i t s hi ⟨i0,i1,i2,i6,il,ii,w',iC,iK,iG⟩;have hil:i<b.len:=by rw[aa.aF];exact hi
   have e5:(i:Int)<(b.len:Int):=by omega
   have e7:wr .i64 ((i:Int)+1)=((i+1:Nat):Int):=by rw[aP (by omega) (by omega)];rfl
   obtain⟨r1,r2,r3⟩:=eK hTb.pre (show fH 1+7=8 from rfl) hi;have ix:=dP (P:=π) underlying23 dc cK b.flat b.len i hil;rw[<-aa.dR hil,r2]at ix;have hmem:=Q8 hi;have hTi:=aa.dC hTb _ hmem;have hsz':=aa.dX hmem;have hpr1:aA r1=true:=wY hTb hi r2 r3;have hd:(b.list[i].1++(b.list[i].2.cells++r1)).drop 1=b.list[i].2.cells++r1:=by have r3':b.list[i].1.length=1:=r3;rw[Z8,r3'];simp[r3',J3]
   obtain⟨s4,w4,x1,x2,x3,x4⟩:=hb _ hmem hTi.2 (by omega) s cr mr w' C sc' fi r1 N hC iC (((pF.keep y3).keep zK).keep iK) hpr1 (by rw[<-hsc'];omega);simp[i0,i1,i6,il,ii,e5,e7,ix,hd,x1];refine⟨_,_,⟨rfl,rfl⟩,by simp[i0],by simp[i1],by simp[i2],by simp[i6],by simp[il],by simp,w4,x2,iK.trans x3,?_⟩;rw[x4,iG,all_succ,and_assoc];exact and_congr J1 (and_congr J1 ⟨λh _=>h,λh=>h hi⟩))
  (by rintro t s ⟨i0,i1,i2,i6,il,ii,w',iC,iK,iG⟩;simp[il,ii,aa.aF];exact⟨_,_,⟨rfl,rfl⟩,by simp[i0],by simp[i1],by simp[i2],by simp[i6],w',iC,iK,iG⟩)
 clear hL;simp[u1,ll,ba];generalize hL:aQ _ _ _ _=L;obtain⟨t5,s5,rfl,v0,v1,v2,v6,w5,vC,vK,vG⟩:=cD hL 5 l.list.length
  (λi t s=>Gi s4 s t cr mr w4 C (.rp (.i .i64 k::.s nm::.i .i64 num::ps::b.slice 8::a.slice 7::l.slice 11::r)) fr fi i l.len (IQ C sc l) 282 283)
  (λt s=>Gj s4 s t cr mr w4 C (.rp (.i .i64 k::.s nm::.i .i64 num::ps::b.slice 8::a.slice 7::l.slice 11::r)) fr fi l.list.length (IQ C sc l)) (by rw[<-aa.aF];omega)
  ⟨by simp[u0],by simp[u1],by simp[u2],by simp[u6],by simp,by simp,w4,uC,.refl _ _ _,by simp⟩
  (by
   rintro i t s hi ⟨i0,i1,i2,i6,il,ii,w',iC,iK,iG⟩;have hil:i<l.len:=by rw[aa.aF];exact hi
   have e5:(i:Int)<(l.len:Int):=by omega
   have e7:wr .i64 ((i:Int)+1)=((i+1:Nat):Int):=by rw[aP (by omega) (by omega)];rfl
   obtain⟨r1,r2,r3⟩:=eK hTl.pre (show fH 4+7=11 from rfl) hi;have ix:=dP (P:=π) underlying45 bQ bL l.flat l.len i hil;rw[<-aa.dR hil,r2]at ix;have hmem:=Q8 hi;have hTi:=aa.dC hTl _ hmem;have hsz':=aa.dX hmem;have hpr1:aA r1=true:=wY hTl hi r2 r3;obtain⟨vs,hp4,hvs,hvl⟩:=Bp hTi.1;have hd:(l.list[i].1++(l.list[i].2.cells++r1)).drop 4=l.list[i].2.cells++r1:=by rw[hp4];rfl
   have hd3:cut ((l.list[i].1++(l.list[i].2.cells++r1)).drop 3) 0 1=So [vs]:=by rw[hp4];rfl
   have fK:iT s cr fr sc:=(((((hf.keep pK).keep y3).keep zK).keep uK).keep iK);have bo:=λ(t:Tr AV) (q1:ah t (.tmp 301)=vs) (q2:ah t (.tmp 302)=fr)=>wz (st:=s) (S:=Tw c N) (t:=t) q1 q2 (wK hvs) fK.1.1
   have nf:=fK.new hvs hvl iC.crl;have kn:=Kp.aj (st:=s) [cr] [cr] [vs,fr];have nk:=iC.keep (Kp.aj (st:=s) [] [] [vs,fr]) (by simp) (by simp) (by simp);obtain⟨s6,w6,x1,x2,x3,x4⟩:=hl _ hmem hTi.2 (by omega) (s.aj [vs,fr]) cr mr w' C ((aM l.list[i]).vs::sc) (.p s.next 0) r1 N hC nk nf hpr1 (by simp;omega);simp[il,ii,e5,aY];rw[bP (by kernel_rfl)];simp[i0,i1,i2,ii,e7,ix,hd,hd3,bo,x1];refine⟨_,_,⟨rfl,rfl⟩,by simp[i0],by simp[i1],by simp[i2],by simp[i6],by simp[il],by simp,w6,x2,iK.trans (kn.trans x3),?_⟩;rw[x4,iG,all_succ,and_assoc];exact and_congr J1 (and_congr J1 ⟨λh _=>h,λh=>h hi⟩))
  (by rintro t s ⟨i0,i1,i2,i6,il,ii,w',iC,iK,iG⟩;simp[il,ii,aa.aF];exact⟨_,_,⟨rfl,rfl⟩,by simp[i0],by simp[i1],by simp[i2],by simp[i6],w',iC,iK,iG⟩)
 clear hL;refine⟨s5,by simp[bf,aO],w5,vC,((kp2.trans zK).trans uK).trans vK,?_⟩;rw[vG,uG,zG,g2,IR,IR,ZW];simp only[dQ,Q1,hsc',and_assoc]
theorem ZH(x:ae)(hN:1<=N):(Tw c N).call 134 [.s x] st=So (.b Ff,st):=by
 cases N
 ·omega
 rename_i N;rw[dV rfl func134 rfl (Q3 rfl)];unfold aJ;simp[f134,ik]
theorem Zd(x y:ae)(hN:2<=N):(Tw c N).call 87 [.s x,.s y] st=So (.b (mT x y),st):=by
 cases N
 ·omega
 rename_i N;rw[dV rfl func87 rfl (Q3 rfl)];unfold aJ;have n1:=λst:St=>ZH (c:=c) (st:=st) x (N:=N) (by omega)
 simp[f87,n1,acY]
def v8(l:List ae)(i:Nat):Prop:=∀j (h:j+1<l.length),i<=j->mT l[j+1] l[j]=Ff
def TU(o:Option (AV×St))(l:List ae):Prop:=∃b,sP o (.b b)/\(b=Tt↔v8 l 0)
theorem acD{l:List ae}(hv:cz v (l.map .s))(hl:l.length<=9223372036854775807)(hN:10000000000000000005<=N):
  ∃b,(∀st,(Tw c N).call 48 [v] st=So (.b b,st))/\(b=Tt↔v8 l 0):=by
 cases N
 ·omega
 rename_i N;have hp:aA [v]=true:=by simp[aA,hv.pure (kR l)]
 suffices h:TU (aJ c N f48 (f48.body.getD .skip) [v] ay) l by have⟨b,h1,h2⟩:=h;exact⟨b,λst=>eS (X:=[]) rfl rfl (.inr (by decide)) (.pure hp) func48 rfl (Q3 rfl) rfl h1,h2⟩
 unfold aJ;have ln:=λst:St=>hv.sLen (st:=st) eL
 have e0:wr .i64 ((l.length:Int)-1)=(l.length:Int)-1:=aP (by omega) (by omega);simp[f48,ln,e0,ba];generalize hL:aQ _ _ _ _=L;have lr:=gV hL 0 (l.length-1) (λi t _=>ab t 0=v/\(l.length=0/\ab t 3=.i .i64 (-1)\/1<=l.length/\ab t 3=.i .i64 ((l.length-1-i:Nat):Int))/\v8 l (l.length-1-i)) (λ_ _=>v8 l 0) (λt _=>ab t 2=.b Ff/\¬v8 l 0) (by omega)
  ⟨by simp,by
   by_cases h:l.length=0
   ·left;refine⟨h,?_⟩;simp[h]
   ·right;refine⟨by omega,?_⟩;simp;omega,λj hj h=>by omega⟩
  (by
   rintro i t st hi ⟨i0,i3,iS⟩;rcases i3 with ⟨h,-⟩|⟨h1,i3⟩
   ·omega
   obtain⟨m,hm⟩:∃m,l.length-1-i=m+1:=⟨l.length-1-i-1,by omega⟩;rw[hm]at i3 iS;have e3:(0:Int)<((m+1:Nat):Int):=by omega
   have e4:wr .i64 (((m+1:Nat):Int)-1)=(m:Int):=by rw[aP (by omega) (by omega)];omega
   have⟨a1,x1,d1⟩:=hv.sat eL mF (show m+1<l.length by omega);have⟨a2,x2,d2⟩:=hv.sat eL mF (show m<l.length by omega);rw[show((m+1:Nat):Int)=(m:Int)+1 from by omega]at i3 e3 x1;have e4:wr .i64 (m:Int)=(m:Int):=aP (by omega) (by omega);have ls:=λst:St=>Zd (c:=c) (st:=st) l[m+1] l[m] (N:=N) (by omega)
   cases hb:mT l[m+1] l[m] with
   |true=>right;simp[i3,e3,aY];rw[bP (by kernel_rfl)];simp[i0,i3,e4,x1,d1,x2,d2,ls,hb];intro hS;have:=hS m (by omega) (by omega);rw[hb]at this;cases this
   |false=>
    left;simp[i3,e3,aY];rw[bP (by kernel_rfl)];simp[i0,i3,e4,x1,d1,x2,d2,ls,hb];rw[show l.length-1-(i+1)=m by omega];refine⟨⟨h1,rfl⟩,λj hj h=>?_⟩;by_cases hj':j=m
    ·subst hj';exact hb
    ·exact iS j hj (by omega))
  (by
   rintro t st ⟨i0,i3,iS⟩;have e3:v8 l 0:=λj hj _=>iS j hj (by omega)
   rcases i3 with ⟨h,i3⟩|⟨h1,i3⟩
   ·simp[i3];exact e3
   ·rw[show l.length-1-(l.length-1)=0 by omega]at i3;simp[i3];exact e3)
 clear hL;rcases lr with ⟨t1,s1,rfl,hT⟩|⟨t1,s1,rfl,hT,hF⟩
 ·exact⟨Tt,by simp[bf,aO],by simpa using hT⟩
 ·exact⟨Ff,by simp[hT],by simpa using hF⟩
structure bG where
 n:ae
 ar:Int
 ty:ae
 tag:Int
def bG.cells(d:bG):List AV:=[.s d.n,.i .i64 d.ar,.s d.ty,.i .i64 d.tag]
def fq(v:AV)(ds:List bG):Prop:=gA v 4 (ds.map bG.cells)
def C8(d e:bG):Bool:=decide (d.n=e.n)&&(decide (d.ar=e.ar)&&(decide (d.ty=e.ty)&&decide (d.tag=e.tag)))
theorem Jt(d:bG):aA d.cells=true:=by simp[bG.cells,aA,aE]
theorem yW(d:bG):bH d.cells=true:=by simp[bG.cells]
theorem pure_cons:∀ds:List bG,aA ((ds.map bG.cells).flatten)=Tt
 |[]=>rfl
 |d::ds=>by simp[vF,Jt,pure_cons ds]
theorem fq.pure{ds:List bG}(h:fq v ds):aE v=true:=by
 rcases h.1 with ⟨rfl,-⟩|rfl
 ·rfl
 ·simp only[aE];exact pure_cons ds
theorem ahn:(!π.stoodInHeld 35&&!π.eqGuardType π.depth 35)=true:=by kernel_rfl
theorem Xk:∃fs,π.underlying 63=So (.struct fs)/\fs.toList.map (λf=>(f.type,f.offset,f.name == "_"))=[(9,0,Ff),(3,1,Ff),(9,2,Ff),(3,3,Ff)]:=⟨_,underlying63,by kernel_rfl⟩
theorem Dl {P:Program}{xs ys:List AV}{f:Field}{fs:List Field}{t o:Nat}{a b:AV}{r:Bool}(hf:(f.type,f.offset,f.name == "_")=(t,o,Ff)) (h1:Go.Ev.part P t xs o=So a) (h2:Go.Ev.part P t ys o=So b) (h3:gK P t a b=So r):
  te P xs ys (f::fs)=if r=Tt then te P xs ys fs else So false:=by
 simp only[Prod.mk.injEq]at hf;obtain⟨rfl,rfl,hn⟩:=hf;simp only[te,h1,h2,h3,hn];cases r<;>rfl
theorem Na(a b:ae):gK π 9 (.s a) (.s b)=So (decide (a=b)):=by
 unfold gK;simp only[underlying9];show So (leq a b)=_
 rw[wL]
theorem M8(a b:Int):gK π 3 (.i .i64 a) (.i .i64 b)=So (decide (a=b)):=by
 unfold gK;simp only[underlying3];show @Bool.rec (λ_=>Option Bool) none (So (oJ a b)) (tv .i64 .i64)=_
 rw[OF,rh]
theorem Wp(d e:bG)(k:Bool):lC π 63 k (.ag d.cells) (.ag e.cells)=So (C8 d e):=by
 show Dj π 63 d.cells e.cells=_
 have⟨fs,h1,h2⟩:=Xk;unfold Dj;rw[h1];simp only[];generalize fs.toList=fl at h2|-;rcases fl with _|⟨f0,_|⟨f1,_|⟨f2,_|⟨f3,_|⟨f4,tl⟩⟩⟩⟩⟩
 case cons.cons.cons.cons.nil=>
  simp only[List.map_cons,List.map_nil,List.cons.injEq,and_true]at h2;have⟨g0,g1,g2,g3⟩:=h2;have p9:∀(d:bG),Go.Ev.part π 9 d.cells 0=So (.s d.n):=λd=>by rw[EK mP mF];rfl
  have p92:∀(d:bG),Go.Ev.part π 9 d.cells 2=So (.s d.ty):=λd=>by rw[EK mP mF];rfl
  have p3:∀(d:bG),Go.Ev.part π 3 d.cells 1=So (.i .i64 d.ar):=λd=>by rw[EK dW zR];rfl
  have p33:∀(d:bG),Go.Ev.part π 3 d.cells 3=So (.i .i64 d.tag):=λd=>by rw[EK dW zR];rfl
  rw[Dl g0 (p9 d) (p9 e) (Na _ _),Dl g1 (p3 d) (p3 e) (M8 _ _),Dl g2 (p92 d) (p92 e) (Na _ _),Dl g3 (p33 d) (p33 e) (M8 _ _)];unfold C8;by_cases h1:d.n=e.n<;>by_cases h2:d.ar=e.ar<;>by_cases h3:d.ty=e.ty<;>by_cases h4:d.tag=e.tag<;>simp[h1,h2,h3,h4,te]
 all_goals simp at h2
theorem MA(d e:bG)(k:Bool):Go.Ev.binOp π 63 k .eql (.ag d.cells) (.ag e.cells)=So (.b (C8 d e)):=by
 show kc π 63 k .eql (.ag d.cells) (.ag e.cells)=_
 unfold kc;rw[Wp]
theorem qU{ds:List bG}(h:fq v ds){k:Nat}(hk:k<ds.length):∃r,indexAddr π 22 v (.i .i64 (k:Int))=So (.rp (ds[k].cells++r)):=by have:=h.at JP (by simpa using hk);simpa using this
theorem ya(d:bG)(r:List AV):loadAt π 63 st (.rp (d.cells++r))=So (.ag d.cells):=ei dD xY dB rfl
theorem wC{ds:List bG}(h:fq v ds):cP π st [22] [v]=So (.i .i64 (ds.length:Int),st):=by have:=gA.cP (st:=st) JP h;simpa using this
theorem Yh(d:bG){ds:List bG}(hv:fq v ds)(hl:ds.length<=9223372036854775807)(hN:10000000000000000000<=N):
  ∃n:Int,∀st,(Tw c N).call 133 [v,.ag d.cells] st=So (.i .i64 n,st):=by
 cases N
 ·omega
 rename_i N;have hp:aA [v,.ag d.cells]=true:=by simp[aA,aE,hv.pure,Jt]
 suffices h:∃n:Int,sP (aJ c N f133 (f133.body.getD .skip) [v,.ag d.cells] ay) (.i .i64 n) by have⟨n,h1⟩:=h;exact⟨n,λst=>eS (X:=[]) rfl rfl (.inr (by decide)) (.pure hp) func133 rfl (Q3 rfl) rfl h1⟩
 unfold aJ;have ln:=λst:St=>wC (st:=st) hv
 have hc:=bq (st:=ay) d.cells;have h0:ay.next<(ay.aj d.cells).next:=Q9 _;obtain⟨r0,hr0⟩:∃r,ay.next=r:=⟨_,rfl⟩;obtain⟨s0,hs0⟩:∃s,ay.aj d.cells=s:=⟨_,rfl⟩;rw[hr0,hs0]at hc;have hld:loadAt π 63 s0 (.p r0 0)=So (.ag d.cells):=by rw[cu dD xY,dB,ai hc];rfl
 simp[f133,ln,hr0,hs0,ba];generalize hL:aQ _ _ _ _=L;have lr:=gV hL 0 ds.length (λi t s=>s=s0/\ab t 0=v/\ab t 3=.p r0 0/\ab t 7=.i .i64 (ds.length:Int)/\ab t 8=.i .i64 (i:Int)) (λ_ _=>True) (λt _=>∃n:Int,ab t 4=.i .i64 n) (by omega)
  ⟨rfl,by simp,by simp,by simp,by simp⟩
  (by
   rintro i t s hi ⟨rfl,i0,i3,i7,i8⟩;have e3:(i:Int)<(ds.length:Int):=by omega
   have e4:wr .i64 ((i:Int)+1)=((i+1:Nat):Int):=by rw[aP (by omega) (by omega)];rfl
   have⟨r,ix⟩:=qU hv hi;have ld:=λst:St=>ya (st:=st) ds[i] r
   cases hb:C8 d ds[i] with
   |true=>right;simp[i7,i8,e3,aY];rw[bP (by kernel_rfl)];simp[i0,i3,ix,ld,hld,MA,hb]
   |false=>left;simp[i7,i8,e3,aY];rw[bP (by kernel_rfl)];simp[i0,i3,i8,ix,ld,hld,MA,hb,e4];exact⟨_,_,⟨rfl,rfl⟩,rfl,by simp[i0],by simp[i3],by simp[i7],by simp⟩)
  (by rintro t s ⟨rfl,i0,i3,i7,i8⟩;simp[i7,i8])
 clear hL;rcases lr with ⟨t1,s1,rfl,hT⟩|⟨t1,s1,rfl,n,hT⟩
 ·exact⟨-1,by simp[bf,aO]⟩
 ·exact⟨n,by simp[hT]⟩
theorem MI(d:bG){ds:List bG}(hv:fq v ds)(hl:ds.length<=9223372036854775807)(hN:10000000000000000001<=N):
  ∃b:Bool,∀st,(Tw c N).call 86 [v,.ag d.cells] st=So (.b b,st):=by
 cases N
 ·omega
 rename_i N;have hp:aA [v,.ag d.cells]=true:=by simp[aA,aE,hv.pure,Jt]
 have⟨n,h1⟩:=Yh (c:=c) d hv hl (N:=N) (by omega);refine⟨decide (0<=n),λst=>eS (X:=[]) rfl rfl (.inr (by decide)) (.pure hp) func86 rfl (Q3 rfl) rfl ?_⟩;unfold aJ;have hc:=bq (st:=ay) d.cells;have hld:loadAt π 63 (ay.aj d.cells) (.p ay.next 0)=So (.ag d.cells):=by rw[cu dD xY,dB,ai hc];rfl
 simp[f86,hld,h1]
set_option maxHeartbeats 8000000
def sW:List bG:=[⟨[70,97,108,115,101],0,[66,111,111,108],0⟩,⟨[84,114,117,101],0,[66,111,111,108],1⟩,⟨[78,105,108],0,[76,105,115,116],0⟩,⟨[67,111,110,115],2,[76,105,115,116],1⟩,⟨[85,110,105,116],0,[85,110,105,116],0⟩]
def Mi:Option AV:=match fJ.call 85 [] ay with
 |some (v,s)=>fk (Nat.ble 0) 6 s v
 |none=>none
theorem Va:Mi=So (.rs ((sW.map bG.cells).flatten) 5 4):=by kernel_rfl
theorem Vb(hN:1<=N):(Tw c N).call 85 [] st=So (.rs ((sW.map bG.cells).flatten) 5 4,st):=by
 cases N
 ·omega
 rename_i N;have h:=Va;unfold Mi at h;split at h
 ·rename_i v s hv;rw[pd (.inr (by decide))];show(eT G0 fJ (eT G1 _ _)).call 85 [] st=_
  rw[iY rfl,iY rfl];exact Ml rfl rfl hv ⟨6,h⟩ (by exact pure_cons _)
 grind
theorem GW:fq (.rs ((sW.map bG.cells).flatten) 5 4) sW:=⟨.inr rfl,λx hx=>by obtain⟨d,-,rfl⟩:=List.mem_map.1 hx;rfl⟩
def Tz(v:AV)(ds:List bG)(r:Nat)(i:Nat)(t:Tr AV)(s:St):Prop :=
 ab t 0=v/\ab t 3=.m r/\ab t 12=v/\ab t 13=.i .i64 (ds.length:Int)/\ab t 14=.i .i64 (i:Int)/\r<s.next/\(∀j (h:j<ds.length),j<i->ds[j].ar<=32)/\∃seen,(seen=(ds.take i).map (·.n)/\seen.Nodup)/\bZ s r (ig seen)
def TB(t:Tr AV):Prop:=∃b,ab t 2=.b b/\b=Ff
def TA(v:AV)(ds:List bG)(t:Tr AV):Prop:=ab t 0=v/\(∀d∈ds,d.ar<=32)/\(ds.map (·.n)).Nodup
def KR(t:Tr AV):Prop:=∃b,ab t 2=.b b
def TP(o:Option (AV×St))(ds:List bG):Prop:=∃b,sP o (.b b)/\(b=Tt->(∀d∈ds,d.ar<=32)/\(ds.map (·.n)).Nodup)
theorem MH{ds:List bG}(hv:fq v ds)(hl:ds.length<=1000000)(hN:10000000000000000010<=N):∃b:Bool,(∀st,(Tw c N).call 45 [v] st=So (.b b,st))/\(b=Tt->(∀d∈ds,d.ar<=32)/\(ds.map (·.n)).Nodup):=by
 cases N
 ·omega
 rename_i N;have hp:aA [v]=true:=by simp[aA,hv.pure]
 suffices h:TP (aJ c N f45 (f45.body.getD .skip) [v] ay) ds by have⟨b,h1,h2⟩:=h;exact⟨b,λst=>eS (X:=[]) rfl rfl (.inr (by decide)) (.pure hp) func45 rfl (Q3 rfl) rfl h1,h2⟩
 unfold aJ;have ln:=λst:St=>wC (st:=st) hv
 have hm:=bZ.new ay;have hr0:ay.next<(ay.new (.mp [] 0)).next:=Q9 _;obtain⟨r,hr⟩:∃r,ay.next=r:=⟨_,rfl⟩;obtain⟨s0,hs0⟩:∃s,ay.new (.mp [] 0)=s:=⟨_,rfl⟩;rw[hr,hs0]at hm hr0;simp[f45,ln,hr,hs0,ba];generalize hL:aQ _ _ _ _=L;have lr:=gV hL 0 ds.length (Tz v ds r) (λt s=>TA v ds t) (λt _=>TB t) (by omega)
  ⟨by simp,by simp,by simp,by simp,by simp,hr0,λj hj h=>(by omega),[],⟨rfl,List.nodup_nil⟩,by
   have:ig []=λ_=>none:=by funext x;simp[ig]
   rw[this];exact hm⟩
  (by
   rintro i t s hi ⟨i0,i3,i12,i13,i14,irl,iA,seen,⟨iS,iD⟩,iM⟩;have e3:(i:Int)<(ds.length:Int):=by omega
   have e4:wr .i64 ((i:Int)+1)=((i+1:Nat):Int):=by rw[aP (by omega) (by omega)];rfl
   have⟨q,ix⟩:=qU hv hi;have ld:=λst:St=>ya (st:=st) ds[i] q
   obtain⟨d,hd⟩:∃d,ds[i]=d:=⟨_,rfl⟩;rw[hd]at ix ld;have hcl:d.cells.length=4:=rfl;have⟨s2,u1,u2,u3,u4⟩:=bJ (s:=s) (z:=fU) (cells:=d.cells) rfl (yW d);have mp2:=iM.keep u3 irl (by simp);have c0:cut d.cells 0 1=So [.s d.n]:=rfl;have c1:cut d.cells 1 1=So [.i .i64 d.ar]:=rfl;have c2:cut d.cells 2 1=So [.s d.ty]:=rfl;have c3:cut d.cells 3 1=So [.i .i64 d.tag]:=rfl;have n1:=λst:St=>yB (c:=c) (st:=st) d.n (N:=N) (by omega)
   have n2:=λst:St=>yB (c:=c) (st:=st) d.ty (N:=N) (by omega)
   have lk:=mp2.get mb d.n;rw[yX]at lk;have⟨s3,v1,v2,v3,v4⟩:=mp2.set mb d.n (.b Tt);rw[xh]at v2;have hne:s.next∉[r]:=by simp;omega
   have u2':=v3.ce u2 u4 u4 hne (by simp);have rl3:r<s3.next:=by rw[v4];exact Q0 irl u3.next
   cases h1:named d.n with
   |false=>right;simp[i12,i13,i14,e3,ix,ld,aB,ek,aC dD dB,hcl,u1,ai u2,c0,n1,h1];exact⟨Ff,by simp⟩
   |true=>
   cases h2:named d.ty with
   |false=>right;simp[i12,i13,i14,e3,ix,ld,aB,ek,aC dD dB,hcl,u1,ai u2,c0,c2,n1,n2,h1,h2];exact⟨Ff,by simp⟩
   |true=>
   by_cases h3:d.n∈seen
   case pos=>right;simp[i3,i12,i13,i14,e3,ix,ld,aB,ek,aC dD dB,hcl,u1,ai u2,c0,c2,n1,n2,lk,h1,h2,h3];exact⟨Ff,by simp⟩
   by_cases h4:d.ar<0
   case pos=>right;simp[i3,i12,i13,i14,e3,ix,ld,aB,ek,aC dD dB,hcl,u1,ai u2,c0,c1,c2,n1,n2,lk,h1,h2,h3,h4];exact⟨Ff,by simp⟩
   by_cases h5:32<d.ar
   case pos=>right;simp[i3,i12,i13,i14,e3,ix,ld,aB,ek,aC dD dB,hcl,u1,ai u2,c0,c1,c2,n1,n2,lk,h1,h2,h3,h4,h5];exact⟨Ff,by simp⟩
   have AR:∀j (h:j<ds.length),j<i+1->ds[j].ar<=32:=λj hj hji=>by
    rcases Z7.1 hji with hji|rfl
    ·exact iA j hj hji
    ·rw[hd];omega
   have SN:seen++[d.n]=(ds.take (i+1)).map (·.n):=by rw[iS,<-Z4 hi,List.map_append,hd];rfl
   have ND:(seen++[d.n]).Nodup:=by rw[List.nodup_append];exact⟨iD,by simp,λa ha b hb e=>h3 (by rw[List.mem_singleton.1 hb]at e;rw[<-e];exact ha)⟩
   by_cases hz:i=0
   case pos=>
    have z0:¬0<i:=by omega
    by_cases hg:d.tag=0
    case pos=>left;simp[i3,i12,i13,i14,e3,ix,ld,aB,ek,aC dD dB,hcl,u1,ai u2,c0,c1,c2,n1,n2,lk,h1,h2,h3,h4,h5,v1,aY];rw[bP (by kernel_rfl)];simp[z0,aY];rw[bP (by kernel_rfl)];simp[i14,e4,ai u2',c3,z0,hg];exact⟨_,_,⟨rfl,rfl⟩,by simp[i0],by simp[i3],by simp[i12],by simp[i13],by simp,rl3,AR,seen++[d.n],⟨SN,ND⟩,v2⟩
    right;simp[i3,i12,i13,i14,e3,ix,ld,aB,ek,aC dD dB,hcl,u1,ai u2,c0,c1,c2,n1,n2,lk,h1,h2,h3,h4,h5,v1,aY];rw[bP (by kernel_rfl)];simp[z0,aY];rw[bP (by kernel_rfl)];simp[ai u2',c3,z0,hg];exact⟨Ff,by simp⟩
   have z0:0<i:=by omega
   have z1:wr .i64 ((i:Int)-1)=((i-1:Nat):Int):=by rw[aP (by omega) (by omega)];omega
   have⟨q2,ix2⟩:=qU hv (show i-1<ds.length by omega);obtain⟨p,hp'⟩:∃p,ds[i-1]=p:=⟨_,rfl⟩;rw[hp']at ix2;have d2:cut ((p.cells++q2).drop 2) 0 1=So [.s p.ty]:=rfl;have d3:cut ((p.cells++q2).drop 3) 0 1=So [.i .i64 p.tag]:=rfl;by_cases ht:p.ty=d.ty
   case pos=>
    by_cases hg:d.tag=wr .i64 (p.tag+1)
    case pos=>left;simp[i3,i12,i13,i14,e3,ix,ld,aB,ek,aC dD dB,hcl,u1,ai u2,c0,c1,c2,n1,n2,lk,h1,h2,h3,h4,h5,v1,aY];rw[bP (by kernel_rfl)];simp[i0,i14,e4,ai u2',c2,c3,cV,z0,z1,ix2,d2,d3,ht,hg];exact⟨_,_,⟨rfl,rfl⟩,by simp[i0],by simp[i3],by simp[i12],by simp[i13],by simp,rl3,AR,seen++[d.n],⟨SN,ND⟩,v2⟩
    right;simp[i3,i12,i13,i14,e3,ix,ld,aB,ek,aC dD dB,hcl,u1,ai u2,c0,c1,c2,n1,n2,lk,h1,h2,h3,h4,h5,v1,aY];rw[bP (by kernel_rfl)];simp[i0,ai u2',c2,c3,cV,z0,z1,ix2,d2,d3,ht,hg];exact⟨Ff,by simp⟩
   cases hgt:(!(mT p.ty d.ty||leq p.ty d.ty))with
   |true=>right;simp[i3,i12,i13,i14,e3,ix,ld,aB,ek,aC dD dB,hcl,u1,ai u2,c0,c1,c2,n1,n2,lk,h1,h2,h3,h4,h5,v1,aY];rw[bP (by kernel_rfl)];simp[i0,ai u2',c2,cV,z0,z1,ix2,d2,ht,aY];rw[bP (by kernel_rfl)];simp[i0,ai u2',c2,JZ,z0,z1,ix2,d2,hgt];exact⟨Ff,by simp⟩
   |false=>
    by_cases hg:d.tag=0
    case pos=>left;simp[i3,i12,i13,i14,e3,ix,ld,aB,ek,aC dD dB,hcl,u1,ai u2,c0,c1,c2,n1,n2,lk,h1,h2,h3,h4,h5,v1,aY];rw[bP (by kernel_rfl)];simp[i0,ai u2',c2,cV,z0,z1,ix2,d2,ht,aY];rw[bP (by kernel_rfl)];simp[i0,i14,e4,ai u2',c2,c3,JZ,z0,z1,ix2,d2,hgt,hg];exact⟨_,_,⟨rfl,rfl⟩,by simp[i0],by simp[i3],by simp[i12],by simp[i13],by simp,rl3,AR,seen++[d.n],⟨SN,ND⟩,v2⟩
    right;simp[i3,i12,i13,i14,e3,ix,ld,aB,ek,aC dD dB,hcl,u1,ai u2,c0,c1,c2,n1,n2,lk,h1,h2,h3,h4,h5,v1,aY];rw[bP (by kernel_rfl)];simp[i0,ai u2',c2,cV,z0,z1,ix2,d2,ht,aY];rw[bP (by kernel_rfl)];simp[i0,ai u2',c2,c3,JZ,z0,z1,ix2,d2,hgt,hg];exact⟨Ff,by simp⟩)
  (by rintro t s ⟨i0,i3,i12,i13,i14,irl,iA,seen,⟨iS,iD⟩,iM⟩;simp[i13,i14];refine⟨by simpa using i0,λd hd=>?_,by rw[List.take_length]at iS;rw[<-iS];exact iD⟩;obtain⟨j,hj,rfl⟩:=J6 hd;exact iA j hj hj)
 clear hL;rcases lr with ⟨t1,s1,rfl,p0,pA⟩|⟨t1,s1,rfl,b,hb,hbf⟩
 case inr=>exact⟨b,by simp[hb],λh=>by rw[hbf]at h;cases h⟩
 have bc:=λst:St=>Vb (c:=c) (st:=st) (N:=N) (by omega)
 have bl:=λst:St=>wC (st:=st) GW
 simp[bc,bl,ba];generalize hL:aQ _ _ _ _=L;have lr:=gV hL 2 5 (λi t s=>ab t 0=v/\ab t 86=.rs ((sW.map bG.cells).flatten) 5 4/\ab t 87=.i .i64 5/\ab t 88=.i .i64 (i:Int)) (λt s=>ab t 0=v) (λt _=>KR t) (by omega)
  ⟨by simp[p0],by simp,by simp[sW],by simp⟩
  (by
   rintro i t s hi ⟨i0,i86,i87,i88⟩;have e3:(i:Int)<5:=by omega
   have e4:wr .i64 ((i:Int)+1)=((i+1:Nat):Int):=by rw[aP (by omega) (by omega)];rfl
   have hi':i<sW.length:=hi;have⟨q,ix⟩:=qU GW hi';have ld:=λst:St=>ya (st:=st) sW[i] q
   generalize sW[i]=d at*;have hcl:d.cells.length=4:=rfl;have⟨s2,u1,u2,u3,u4⟩:=bJ (s:=s) (z:=fU) (cells:=d.cells) rfl (yW d);have hld:loadAt π 63 s2 (.p s.next 0)=So (.ag d.cells):=by rw[cu dD xY,dB,ai u2];rfl
   have⟨b,hb⟩:=MI (c:=c) d hv (by omega) (N:=N) (by omega);cases b with
   |true=>left;simp[i0,i86,i87,i88,e3,e4,ix,ld,aB,ek,aC dD dB,hcl,u1,hld,hb]
   |false=>right;simp[i0,i86,i87,i88,e3,ix,ld,aB,ek,aC dD dB,hcl,u1,hld,hb];exact⟨Ff,by simp⟩)
  (by rintro t s ⟨i0,i86,i87,i88⟩;simp[i87,i88];exact i0)
 clear hL;rcases lr with ⟨t2,s2,rfl,p0⟩|⟨t2,s2,rfl,b,hb⟩
 case inr=>exact⟨b,by simp[hb],λ_=>pA⟩
 simp[p0,ln,ba];generalize hL:aQ _ _ _ _=L;have lr:=gV hL 4 ds.length (λi t s=>ab t 0=v/\ab t 97=v/\ab t 98=.i .i64 (ds.length:Int)/\ab t 99=.i .i64 (i:Int)) (λt s=>True) (λt _=>KR t) (by omega)
  ⟨by simp[p0],by simp,by simp,by simp⟩
  (by
   rintro i t s hi ⟨i0,i97,i98,i99⟩;have e3:(i:Int)<(ds.length:Int):=by omega
   have e4:wr .i64 ((i:Int)+1)=((i+1:Nat):Int):=by rw[aP (by omega) (by omega)];rfl
   have⟨q,ix⟩:=qU hv hi;have ld:=λst:St=>ya (st:=st) ds[i] q
   obtain⟨d,hd⟩:∃d,ds[i]=d:=⟨_,rfl⟩;rw[hd]at ix ld;have hcl:d.cells.length=4:=rfl;have c2:cut d.cells 2 1=So [.s d.ty]:=rfl;have⟨s2,u1,u2,u3,u4⟩:=bJ (s:=s) (z:=fU) (cells:=d.cells) rfl (yW d);have hld:loadAt π 63 s2 (.p s.next 0)=So (.ag d.cells):=by rw[cu dD xY,dB,ai u2];rfl
   have⟨b,hb⟩:=MI (c:=c) d GW (by decide) (N:=N) (by omega);by_cases tB:d.ty=[66,111,111,108]
   case pos=>
    cases b with
    |true=>
     left;simp[i97,i98,i99,e3,ix,ld,aB,ek,aC dD dB,hcl,u1,aY];rw[ft (fl:=[(15,0)])]
     rotate_left
     ·kernel_rfl
     ·intro R hR;simp[ai u2,c2,cV,bc,hb,hld,tB]at hR;subst hR;simp only[Q5,Q6,Q7]
      first|rfl|exact cZ rfl rfl rfl (s:=s2) (by simp[hld])
     simp[i0,i97,i98,i99,e4,ai u2,c2,cV,bc,hb,hld,tB]
    |false=>
     right;simp[i97,i98,i99,e3,ix,ld,aB,ek,aC dD dB,hcl,u1,aY];rw[ft (fl:=[(15,0)])]
     rotate_left
     ·kernel_rfl
     ·intro R hR;simp[ai u2,c2,cV,bc,hb,hld,tB]at hR;subst hR;simp only[Q5,Q6,Q7]
      first|rfl|exact cZ rfl rfl rfl (s:=s2) (by simp[hld])
     simp[ai u2,c2,cV,bc,hb,hld,tB];exact⟨Ff,by simp⟩
   by_cases tL:d.ty=[76,105,115,116]
   case pos=>
    cases b with
    |true=>
     left;simp[i97,i98,i99,e3,ix,ld,aB,ek,aC dD dB,hcl,u1,aY];rw[ft (fl:=[(15,0)])]
     rotate_left
     ·kernel_rfl
     ·intro R hR;simp[ai u2,c2,cV,bc,hb,hld,tL]at hR;subst hR;simp only[Q5,Q6,Q7]
      first|rfl|exact cZ rfl rfl rfl (s:=s2) (by simp[hld])
     simp[i0,i97,i98,i99,e4,ai u2,c2,cV,bc,hb,hld,tL]
    |false=>
     right;simp[i97,i98,i99,e3,ix,ld,aB,ek,aC dD dB,hcl,u1,aY];rw[ft (fl:=[(15,0)])]
     rotate_left
     ·kernel_rfl
     ·intro R hR;simp[ai u2,c2,cV,bc,hb,hld,tL]at hR;subst hR;simp only[Q5,Q6,Q7]
      first|rfl|exact cZ rfl rfl rfl (s:=s2) (by simp[hld])
     simp[ai u2,c2,cV,bc,hb,hld,tL];exact⟨Ff,by simp⟩
   by_cases tU:d.ty=[85,110,105,116]
   case pos=>
    cases b with
    |true=>
     left;simp[i97,i98,i99,e3,ix,ld,aB,ek,aC dD dB,hcl,u1,aY];rw[ft (fl:=[(15,0)])]
     rotate_left
     ·kernel_rfl
     ·intro R hR;simp[ai u2,c2,cV,bc,hb,hld,tU]at hR;subst hR;simp only[Q5,Q6,Q7]
      first|rfl|exact cZ rfl rfl rfl (s:=s2) (by simp[hld])
     simp[i0,i97,i98,i99,e4,ai u2,c2,cV,bc,hb,hld,tU]
    |false=>
     right;simp[i97,i98,i99,e3,ix,ld,aB,ek,aC dD dB,hcl,u1,aY];rw[ft (fl:=[(15,0)])]
     rotate_left
     ·kernel_rfl
     ·intro R hR;simp[ai u2,c2,cV,bc,hb,hld,tU]at hR;subst hR;simp only[Q5,Q6,Q7]
      first|rfl|exact cZ rfl rfl rfl (s:=s2) (by simp[hld])
     simp[ai u2,c2,cV,bc,hb,hld,tU];exact⟨Ff,by simp⟩
   left;simp[i97,i98,i99,e3,ix,ld,aB,ek,aC dD dB,hcl,u1,aY];rw[ft (fl:=[(15,0)])]
   rotate_left
   ·kernel_rfl
   ·intro R hR;simp[ai u2,c2,cV,bc,tB,tL,tU]at hR;subst hR;simp only[Q5,Q6,Q7]
    first|rfl|exact cZ rfl rfl rfl (s:=s2) (by simp[hld])
   simp[i0,i97,i98,i99,e4,ai u2,c2,cV,tB,tL,tU])
  (by rintro t s ⟨i0,i97,i98,i99⟩;simp[i98,i99])
 clear hL;rcases lr with ⟨t3,s3,rfl,-⟩|⟨t3,s3,rfl,b,hb⟩
 ·exact⟨Tt,by simp[bf,aO],λ_=>pA⟩
 ·exact⟨b,by simp[hb],λ_=>pA⟩
theorem VI{ds:List bG}(hv:fq v ds)(hl:ds.length<=1000000)(hN:10000000000000000010<=N):∃b:Bool,∀st,(Tw c N).call 45 [v] st=So (.b b,st):=by obtain⟨b,h,-⟩:=MH hv hl hN;exact⟨b,h⟩
theorem ad5:eC π 165=true:=by kernel_rfl
theorem UD:cI π 165 []=λst=>So (.ag [.i .i64 0,.b Ff],st):=by kernel_rfl
theorem Mf(t:Tr AV)(s:St):cO (.build 165 #[]) π S t s=So (.ag [.i .i64 0,.b Ff],s):=by
 show @Bool.rec (λ_=>aD) none (cI π 165 [] s) (eC π 165)=_
 rw[ad5,UD]
def lF(b:aa):Bool:=decide (b.depth<=4096)&&decide (b.size<=1048576)
def TK(s:St)(r cr:Nat)(cv bv:AV)(b:aa)(i:Nat):Prop:=(∃al,s.ce r=So ([cv,bv],r,al))/\r<s.next/\r≠cr/\qv s cr (dM b.list i)/\dM b.list i<=1048576/\∀j (h:j<b.list.length),j<i->b.list[j].2.depth<=4096
theorem Zi{cv:AV}(hcv:aE cv=Tt)(_:bR cv=Tt){b:aa}(hb:b.Ty 1)(hs:b.size<=1000000)(hN:b.size+10000000000000000010<=N):
  (Tw c N).call 42 [.ag [cv,b.slice 8]] st=So (.b (!lF b),st):=by
 cases N
 ·omega
 rename_i N;have hp:aA [.ag [cv,b.slice 8]]=true:=by grind[aA,aE,aa.tQ]
 refine eS (X:=[]) rfl rfl (.inr (by decide)) (.pure hp) func42 rfl (Q3 rfl) rfl ?_;unfold aJ;have lb:=λst:St=>bg (st:=st) underlying23 (b.bU 8) (b.bV 8)
 have hbl:=b.cq;have c0:=bq (st:=ay) [cv,b.slice 8];have k0:ay.next<(ay.aj [cv,b.slice 8]).next:=Q9 _;obtain⟨r,hr⟩:∃r,ay.next=r:=⟨_,rfl⟩;obtain⟨s0,hs0⟩:∃s,ay.aj [cv,b.slice 8]=s:=⟨_,rfl⟩;rw[hr,hs0]at c0 k0;have c1:=bq (st:=s0) [.i .i64 0,.b Ff];have kn:=Kp.aj (st:=s0) [] [] [.i .i64 0,.b Ff];have c01:=kn.ce c0 k0 k0 (by simp) (by simp);have k1:s0.next<(s0.aj [.i .i64 0,.b Ff]).next:=Q9 _;obtain⟨cr,hcr⟩:∃r,s0.next=r:=⟨_,rfl⟩;obtain⟨s1,hs1⟩:∃s,s0.aj [.i .i64 0,.b Ff]=s:=⟨_,rfl⟩;rw[hcr,hs1]at c1 k1;rw[hs1]at c01 kn;have bc1:rd s1 r 1 1=So [b.slice 8]:=by rw[ai c01];rfl
 simp[f42,hr,hs0,Mf,hcr,hs1,bc1,lb,ba];generalize hL:aQ _ _ _ _=L;have lr:=gV hL 0 b.list.length (λi t s=>ab t 1=.p r 0/\ab t 3=.p cr 0/\ab t 9=.i .i64 (b.len:Int)/\ab t 10=.i .i64 (i:Int)/\TK s r cr cv (b.slice 8) b i) (λt s=>lF b=Tt) (λt s=>ab t 2=.b Tt/\lF b=Ff) (by rw[<- aa.aF]; omega)
  ⟨by simp,by simp,by simp,by simp,⟨_,c01⟩,Q0 k0 kn.next,by omega,by rw[mv];exact⟨⟨_,Ff,c1⟩,k1⟩,by rw[mv];omega,λj hj h=>by omega⟩
  (by
   rintro i t s hi ⟨i1,i3,i9,i10,⟨al,iR⟩,iL,iN,iC,iB,iS⟩;have hil:i<b.len:=by rw[aa.aF];exact hi
   have e5:(i:Int)<(b.len:Int):=by omega
   have e7:wr .i64 ((i:Int)+1)=((i+1:Nat):Int):=by rw[aP (by omega) (by omega)];rfl
   obtain⟨q,q1,q2⟩:=eK hb.pre (show fH 1+7=8 from rfl) hi;have ix:=dP underlying23 dc cK b.flat b.len i hil;rw[<-aa.dR hil,q1]at ix;have hmem:=Q8 hi;have hTi:=aa.dC hb _ hmem;have hsz':=aa.dX hmem;have hd:(b.list[i].1++(b.list[i].2.cells++q)).drop 1=b.list[i].2.cells++q:=by have q2':b.list[i].1.length=1:=q2;rw[Z8,q2'];simp[q2',J3]
   have bcs:rd s r 1 1=So [b.slice 8]:=by rw[ai iR];rfl
   obtain⟨bb,n',s',g1,g2,g3,g4⟩:=MK _ hTi.2.wf cr (dM b.list i) 1 s (.rp (b.list[i].2.cells++q)) N (by omega) (by omega) (by omega) iC (.inl ⟨q,rfl⟩);have g1':(Tw c N).call 81 [.p cr 0,.rp (b.list[i].2.cells++q),.i .i64 1] s=So (.b bb,s'):=g1;have iR':=g3.ce iR iL iL (by simp[iN]) (by simp[iN]);cases bb with
   |true=>
    left;obtain⟨y1,y2,y3⟩:=g4.yes rfl;simp[i1,i3,i9,i10,e5,e7,bcs,ix,hd,g1'];refine⟨_,_,⟨rfl,rfl⟩,by simp[i1],by simp[i3],by simp[i9],by simp,⟨_,iR'⟩,Q0 iL g3.next,iN,?_,?_,λj hj hji=>?_⟩
    ·rw[gX hi,<-y1];exact g2
    ·rw[gX hi];exact y3
    ·by_cases hje:j=i
     ·subst hje;omega
     ·exact iS j hj (by omega)
   |false=>
    right;simp[i1,i3,i9,i10,e5,bcs,ix,hd,g1'];rw[J9];intro hf;unfold lF at hf;simp only[Q1,decide_eq_true_eq]at hf;have hdp':=aa.tc hmem;have hsum:dM b.list i+b.list[i].2.size<=b.size:=by rw[<-gX hi];exact ac0 _ hi
    have:=g4.fit (by omega) (by omega);cases this)
  (by
   rintro t s ⟨i1,i3,i9,i10,⟨al,iR⟩,iL,iN,iC,iB,iS⟩;simp[i9,i10,aa.aF];unfold lF;rw[mq]at iB;have hd:b.depth<=4096:=aa.Ag λj hj=>iS j hj hj
   simp[hd,iB])
 clear hL;rcases lr with ⟨t1,s1,rfl,hT⟩|⟨t1,s1,rfl,hT,hF⟩
 ·rw[hT];simp[bf,aO]
 ·rw[hF];simp[hT]
def ir:List bG->ae->Option AV
 |[]=>λ_=>none
 |d::ds=>upd (ir ds) d.n (.ag d.cells)
theorem MG:∀ds:List bG,zy (ir ds)
 |[],s,v,h=>by cases h
 |d::ds,s,v,h=>by
  unfold ir upd at h;split at h
  ·cases h;exact⟨d.n,d.ar,d.ty,d.tag,rfl⟩
  ·exact MG ds s v h
def GK:Code->Code
 |.block _ x=>x
 |x=>x
noncomputable def mK:Code:=f43.body.getD .skip
noncomputable def Ds:Code:=GK (aw (au (aw (aw mK))))
def Rg:Code->Code
 |.rangeFunc _ _ a _=>a
 |x=>x
def Rh:Code->Code
 |.rangeFunc _ _ _ b=>b
 |x=>x
noncomputable def nJ:Code:=Rg Ds
noncomputable def mJ:Code:=Rh Ds
theorem Sn{n nt:Nat}{k:Code}:(Tw c (n+1)).code nt k t st=ao k ⟨π,Tw c n,Tt,nt,n⟩ t st:=by cases c<;>rfl
structure uu(s:St)(l r4 r3 cr mr:Nat)(v:AV)(t:Tr AV)(C:ae->Option AV):Prop where
 row:s.get l=So (.lp t 22 [12,13] nJ mJ)
 ll:l<s.next
 c4:∃al,s.ce r4=So ([v],r4,al)
 c3:∃al,s.ce r3=So ([.p cr 0],r3,al)
 cc:∃al,s.ce cr=So ([.m mr,.i .i64 0],cr,al)
 mp:bZ s mr C
 lt:r4<l/\r3<l/\cr<l/\mr<l
 ne:r4≠mr/\r3≠mr/\cr≠mr
theorem ZU{l r4 r3:Nat}(h:uu s l r4 r3 cr mr v t C)(h3:ab t 3=.p r3 0)(d:bG)(i:Int)(hN:2<=N):
  ∃s',round (Tw c N) l [.i .i64 i,.ag d.cells] s=So (.b Tt,s')/\uu s' l r4 r3 cr mr v t (upd C d.n (.ag d.cells))/\Kp [mr,l] [] s s':=by
 cases N
 ·omega
 rename_i N;obtain⟨hrow,hll,⟨a4,c4⟩,⟨a3,c3⟩,⟨ac,cc⟩,hmp,⟨l4,l3,lc,lm⟩,n4,n3,nc⟩:=h;have kd:Kp [l] [] s (s.drop l):=.drop (by simp);have nl:∀x,x<l->x∉[l]:=λx hx=>by grind
 have hcl:d.cells.length=4:=rfl;obtain⟨s2,u1,u2,u3,u4⟩:=bJ (z:=fU) (cells:=d.cells) rfl (yW d);have k2:=kd.trans (u3.sub (by simp) (by simp));have mp2:=hmp.keep k2 (by omega) (nl _ lm);obtain⟨s3,v1,v2,v3,v4⟩:=mp2.set wP d.n (.ag d.cells);have c3':=k2.ce c3 (by omega) (by omega) (nl _ l3) (by simp);have cc':=k2.ce cc (by omega) (by omega) (nl _ lc) (by simp);have c0:cut d.cells 0 1=So [.s d.n]:=rfl;have hld:loadAt π 63 s2 (.p (s.drop l).next 0)=So (.ag d.cells):=by rw[cu dD xY,dB,ai u2];rfl
 have ptr56:aN π 111=true:=by kernel_rfl
 have Lp:cw π 111=false:=by kernel_rfl
 unfold round;rw[hrow];have hset:Fo 22 [12,13] [.i .i64 i,.ag d.cells] t=So ((t.set 12 (So (.i .i64 i))).set 13 (So (.ag d.cells))):=rfl;simp only[hset,Sn];have hA:∃t2,ao nJ ⟨π,Tw c N,Tt,22,N⟩ ((t.set 12 (So (.i .i64 i))).set 13 (So (.ag d.cells))) (s.drop l)=.nx t2 s2/\ab t2 3=.p r3 0/\ab t2 5=.p (s.drop l).next 0:=by simp_all[nJ,Ds,mK,Rg,GK,au,aw,f43,aB,ek,aC,dD,dB]
 obtain⟨t2,hA,q3,q5⟩:=hA;rw[hA];show ∃s',Fg l (.lp t 22 [12,13] nJ mJ) ((Tw c (N+1)).code 22 mJ t2 s2)=So (.b Tt,s')/\uu s' l r4 r3 cr mr v t (upd C d.n (.ag d.cells))/\Kp [mr,l] [] s s'
 rw[Sn];have hB:∃t3,ao mJ ⟨π,Tw c N,Tt,22,N⟩ t2 s2=.nx t3 s3:=by simp[mJ,Ds,mK,Rh,GK,au,aw,f43,aY];rw[bP (by kernel_rfl)];simp[q3,q5,ry ptr56 Lp,ai c3',ai cc',ai u2,c0,hld,v1]
 obtain⟨t3,hB⟩:=hB;rw[hB];have k3:Kp [mr,l] [] s s3:=(k2.sub (by simp) (by simp)).trans (v3.sub (by simp) (by simp));have k4:Kp [mr,l] [] s (s3.put l (.lp t 22 [12,13] nJ mJ)):=k3.trans (.put (by simp));have kp:∀x,x<l->x≠mr->x∉[mr,l]:=λx h1 h2=>by simp;omega
 refine⟨_,rfl,⟨yO _ _,Q0 hll k4.next,⟨_,k4.ce c4 (by omega) (by omega) (kp _ l4 n4) (by simp)⟩,⟨_,k4.ce c3 (by omega) (by omega) (kp _ l3 n3) (by simp)⟩,⟨_,k4.ce cc (by omega) (by omega) (kp _ lc nc) (by simp)⟩,
  v2.keep (Kp.put (B:=[]) (by simp)) (Q0 (by omega) k3.next) (nl _ lm),⟨l4,l3,lc,lm⟩,n4,n3,nc⟩,k4⟩
