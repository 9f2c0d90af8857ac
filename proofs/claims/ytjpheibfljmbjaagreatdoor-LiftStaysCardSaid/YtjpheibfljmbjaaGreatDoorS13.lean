/- A part of the proof. -/
import Derived.Test.YtjpheibfljmbjaaGreatDoorS12
set_option maxRecDepth 100000
set_option maxHeartbeats 4000000
open Nat renaming lt_of_lt_of_le->Q0, lt_succ_self->Q6, le_of_ble_eq_true->J4
open List renaming nil_append->Q1, cons_append->Q3, getElem_mem->Q4, drop_eq_nil_of_le->Q7, all_eq_true->Q8, getElem_take->Q9, append_assoc->J1, length_append->J3, all_cons->J8, all_nil->J9
open Bool renaming and_eq_true->Q2, or_eq_true->J5, not_eq_true'->J6, and_true->Z3
open Go.Proofs.Tryz
noncomputable section
open Go.Ev
namespace Go.Proofs.YtjpheibfljmbjaaGreatDoor
variable {C : ah->Option AV}{H : List ie}{N cr i j mr : Nat}{c : Option Self}{fr v : AV}{l : ae}{sc : List (List ah)}{st : St}{t : Tr AV}{w : Int}
def Ar(n:ah)(ar:Int)(ty:ah)(tag:Int):AV:=.ag [.s n,.i .i64 ar,.s ty,.i .i64 tag]
def zt(C:ah->Option AV):Prop:=∀ s v,C s=some v->∃ n ar ty tag,v=Ar n ar ty tag
def od:AV->Int
 |.ag [_,.i _ ar,_,_]=>ar
 |_=>0
def yT:AV->ah
 |.ag [_,_,.s ty,_]=>ty
 |_=>[]
def cC(C:ah->Option AV):List ie->List ie->Int->ah->Bool->List ah->Bool
 |_,[],_,_,_,_=>true
 |pre,a::rest,kind,typ,sm,seen =>
  eS a.vs&&(decide (1<=a.k)&&(decide (a.k<=4) &&
   if a.k=4 then rest.isEmpty&&(decide (a.vs.length<=1)&&(decide (a.n=[])&&(decide (a.m=0)&&cC C (pre++[a]) rest kind typ sm seen)))
   else(decide (kind=0)||decide (a.k=kind)) &&
    if a.k≠1 then decide (a.n=[])&&(decide (a.vs.length=0)&&((decide (a.k≠3)||(decide (0<=a.m)&&decide (a.m<=255)))&&(pre.all (fun b=>decide (b.m≠a.m))&&cC C (pre++[a]) rest a.k typ sm seen)))
    else decide (a.m=0)&&(decide (a.n∉seen)&&(named a.n&&match C a.n with
     |none=>false
     |some v=>decide (od v=(a.vs.length:Int))&&((!sm||decide (yT v=typ))&&cC C (pre++[a]) rest a.k (yT v) true (seen++[a.n]))))))
def mN(C:ah->Option AV)(H:List ie):Bool:=!H.isEmpty&&cC C [] H 0 [] false []
theorem xe:rz prog 78 54 (.ag [.s [],.i .i64 0,.s [],.i .i64 0]):=⟨⟨9,underlying78,underlying9⟩,by kernel_rfl⟩
theorem Ca{p:List AV× Ex}(h:eO 4 p.1):∃ vs,p.1=[.i .i64 (cD p).k,.s (cD p).n,.i .i64 (cD p).m,vs]/\de vs ((cD p).vs.map .s)/\(cD p).vs.length<=9223372036854775807:=by obtain⟨k,n,m,vs,h1,h2⟩:=h;obtain⟨q,x⟩:=p;simp only at h1;subst h1;exact⟨vs,rfl,h2.sl.1,h2.sl.2⟩
structure Ys(st s:St)(cr mr sr:Nat)(w w':Int)(C:ah->Option AV)(H:List ie)(i:Nat)(kind:Int)(typ:ah)(sm:Bool)(seen:List ah):Prop where
 ck:Ck s cr mr w' C
 mp:cS s sr (iD seen)
 srl:sr<s.next
 kp:Kp [cr] [cr] st s
 go:(w'=0/\cC C (H.take i) (H.drop i) kind typ sm seen=true)↔(w=0/\cC C [] H 0 [] false []=true)
def Od(st:St)(cr mr sr:Nat)(w:Int)(C:ah->Option AV)(H:List ie)(v:AV)(i:Nat)(t:Tr AV)(s:St):Prop :=
 ab t 0=.p cr 0/\ab t 1=v/\ab t 8=.m sr/\ab t 17=v/\ab t 18=.i .i64 (H.length:Int)/\ab t 19=.i .i64 (i:Int)/\
 ∃ kind typ sm seen w',ab t 5=.i .i64 kind/\ab t 6=.s typ/\ab t 7=.b sm/\Ys st s cr mr sr w w' C H i kind typ sm seen
def Uf(st:St)(cr mr:Nat)(w:Int)(C:ah->Option AV)(H:List ie)(v:AV)(t:Tr AV)(s:St):Prop :=
 ab t 0=.p cr 0/\ab t 1=v/\∃ w',Ck s cr mr w' C/\Kp [cr] [cr] st s/\(w'=0↔w=0/\cC C [] H 0 [] false []=true)
def yR(st:St)(cr mr:Nat)(w:Int)(C:ah->Option AV)(H:List ie)(t:Tr AV)(s:St):Prop :=
 ab t 4=.b false/\∃ w',Ck s cr mr w' C/\Kp [cr] [cr] st s/\¬ (w=0/\cC C [] H 0 [] false []=true)
def Zb(o:Option (AV× St))(st:St)(cr mr:Nat)(w:Int)(C:ah->Option AV)(H:List ie):Prop :=
 ∃ b st' w',o=some (.b b,st')/\Ck st' cr mr w' C/\Kp [cr] [cr] st st'/\((b=true/\w'=0)↔(w=0/\mN C H=true))
theorem DM(m:Int)(h:∀ j (hj:j<H.length),j<i->H[j].m≠m):(H.take i).all (fun b=>decide (b.m≠m))=true:=by
 rw[Q8];intro b hb;obtain⟨j,hj,rfl⟩:=List.getElem_of_mem hb;have hj':j<H.length:=by simp at hj;omega
 have hji:j<i:=by simp at hj;omega
 rw[Q9];simpa using h j hj' hji
theorem CO(m:Int)(hj:j<H.length)(hji:j<i)(h:H[j].m=m):(H.take i).all (fun b=>decide (b.m≠m))=false:=by
 rw[Bool.eq_false_iff];intro hh;rw[Q8]at hh;have:=hh H[j] (by
  have hq:j<(H.take i).length:=by simp;omega
  rw[<-Q9];exact Q4 hq)
 simp[h]at this
def uh(st:St)(cr mr sr:Nat)(w1:Int)(C:ah->Option AV)(H:List ie)(v:AV)(i:Nat)(ak:Int)(typ:ah)(sm:Bool)(seen:List ah)(am:Int)(fl:List AV)(j:Nat)(t:Tr AV)(s:St):Prop :=
 (ab t 0=.p cr 0/\ab t 1=v/\ab t 8=.m sr/\ab t 17=v/\ab t 18=.i .i64 (H.length:Int)/\ab t 19=.i .i64 (i:Int))/\
 (ab t 5=.i .i64 ak/\ab t 6=.s typ/\ab t 7=.b sm/\ab t 11=.i .i64 am/\ab t 103=.rs fl i 11/\ab t 104=.i .i64 (i:Int)/\ab t 105=.i .i64 (j:Int))/\
 Ck s cr mr w1 C/\cS s sr (iD seen)/\sr<s.next/\Kp [cr] [cr] st s/\∀ k (hk:k<H.length),k<j->H[k].m≠am
theorem Er(hT:l.Ty 4)(hH:l.bN.length=l.len)(hj:j<l.list.length)(hji:j<i)(_:l.len<=1000000){s:St}{sr:Nat}{w1:Int}{ak:Int}{typ:ah}{sm:Bool}{seen:List ah}{am:Int}
  (_:uh st cr mr sr w1 C l.bN v i ak typ sm seen am l.flat j t s):
  ∃ cl r s2,indexAddr prog 33 (.rs l.flat i 11) (.i .i64 (j:Int))=some (.rp (cl++r))/\(∀ st,loadAt prog 93 st (.rp (cl++r))=some (.ag cl))/\wt (s.aw qp) s.next 0 cl=some s2/\cl.length=11/\
   rd s2 s.next 2 1=some [.i .i64 (l.bN[j]'(by rw[hH,ae.aC];exact hj)).m]/\Kp [] [] s s2/\s.next<s2.next/\True:=by
 have hjl:j<l.len:=by rw[ae.aC];exact hj
 have hjH:j<l.bN.length:=by rw[hH];exact hjl
 obtain⟨r,r1,r2⟩:=eR hT.pre (show eD 4+7=11 from rfl) hj;have ix:=dV underlying33 cy bU l.flat i j hji;rw[r1,<-J1]at ix;have hTi:=ae.cU hT _ (Q4 hj);obtain⟨vs,hp,-⟩:=Ca hTi.1;have hce:(l.list[j].1++l.list[j].2.cells).length=11:=by rw[J3,r2,Ex.aO];rfl
 have hsc:bq (l.list[j].1++l.list[j].2.cells)=true:=gX hTi.1.sc (Ex.dH hTi.2.wf);have hg:l.bN[j]=cD l.list[j]:=by simp[ae.bN]
 rw[<-hg]at hp;have g2:cut (l.list[j].1++l.list[j].2.cells) 2 1=some [.i .i64 l.bN[j].m]:=by rw[hp];rfl
 obtain⟨s2,u1,u2,u3,u4⟩:=cO (z:=qp) hce hsc;exact⟨_,r,s2,ix,fun st=>kO cy zn bU hce,u1,hce,by rw[au u2];exact g2,u3,u4,trivial⟩
theorem Yt(hT:l.Ty 4)(hlen:l.len<=1000000)(hC:zt C)(hk:Ck st cr mr w C)(hN:10000000000000000010<=N):
  Zb ((Tw c N).call 69 [.p cr 0,l.slice 11] st) st cr mr w C l.bN:=by
 obtain⟨N,rfl⟩:∃ N',N=N'+1:=⟨N-1,by omega⟩;rw[dt rfl func69 rfl (J4 rfl)];unfold aV;have hH:l.bN.length=l.len:=by unfold ae.bN;rw[List.length_map,ae.aC]
 have ln:=fun st:St=>aY (st:=st) underlying33 (l.bK 11) (l.bJ 11)
 have hm:=cS.new st;have km:=Kp.new (st:=st) [] [] (.mp [] 0);have kck:=hk.keep km (by simp) (by simp) (by simp);obtain⟨sr,hr⟩:∃ r,st.next=r:=⟨_,rfl⟩;have hsr:sr<(st.new (.mp [] 0)).next:=by rw[<-hr];exact Q6 _
 obtain⟨s0,hs0⟩:∃ s,st.new (.mp [] 0)=s:=⟨_,rfl⟩;rw[hr,hs0]at hm;rw[hs0]at km kck hsr;have crs:cr<sr:=by rw[<-hr];exact hk.crl
 have mrs:mr<sr:=by rw[<-hr];exact hk.mrl
 simp[f69,ln,hr,hs0,bw];generalize hL:bf _ _ _ _=L;have lr:=fW hL 0 l.list.length (Od st cr mr sr w C l.bN (l.slice 11)) (Uf st cr mr w C l.bN (l.slice 11)) (yR st cr mr w C l.bN) (by rw[<-ae.aC];omega)
  (by
   unfold Od;refine⟨by simp,by simp,by simp,by simp,by simp[hH],by simp,0,[],false,[],w,by simp,by simp,by simp,kck,?_,hsr,km.sub (by simp) (by simp),by simp⟩;have:iD []=fun _=>none:=by funext x;simp[iD]
   rw[this];exact hm)
  (by
   rintro i t s hi ⟨i0,i1,i8,i17,i18,i19,kind,typ,sm,seen,w1,i5,i6,i7,A⟩;clear hL;have hil:i<l.len:=by rw[ae.aC];exact hi
   have hiH:i<l.bN.length:=by rw[hH];exact hil
   rw[hH]at i18;have e3:(i:Int)<(l.len:Int):=by omega
   have e4:wr .i64 ((i:Int)+1)=((i+1:Nat):Int):=by rw[aZ (by omega) (by omega)];rfl
   have e5:wr .i64 ((l.len:Int)-1)=(l.len:Int)-1:=aZ (by omega) (by omega);obtain⟨r,r1,r2⟩:=eR hT.pre (show eD 4+7=11 from rfl) hi;have ix:=dV underlying33 cy bU l.flat l.len i hil;rw[<-ae.cZ hil,r1,<-J1]at ix;have hTi:=ae.cU hT _ (Q4 hi);obtain⟨vs,hp,hvs,hvl⟩:=Ca hTi.1;have hce:(l.list[i].1++l.list[i].2.cells).length=11:=by rw[J3,r2,Ex.aO];rfl
   have hsc:bq (l.list[i].1++l.list[i].2.cells)=true:=gX hTi.1.sc (Ex.dH hTi.2.wf);have ld:=fun st:St=>kO (st:=st) (r:=r) cy zn bU hce
   have hg:l.bN[i]=cD l.list[i]:=by simp[ae.bN]
   rw[<-hg]at hp hvs hvl;have g0:cut (l.list[i].1++l.list[i].2.cells) 0 1=some [.i .i64 l.bN[i].k]:=by rw[hp];rfl
   have g1:cut (l.list[i].1++l.list[i].2.cells) 1 1=some [.s l.bN[i].n]:=by rw[hp];rfl
   have g2:cut (l.list[i].1++l.list[i].2.cells) 2 1=some [.i .i64 l.bN[i].m]:=by rw[hp];rfl
   have g3:cut (l.list[i].1++l.list[i].2.cells) 3 1=some [vs]:=by rw[hp];rfl
   have hdrop:=List.drop_eq_getElem_cons hiH;have hgo:=A.go;rw[hdrop]at hgo;have htake:l.bN.take (i+1)=l.bN.take i++[l.bN[i]]:=(List.take_append_getElem hiH).symm;have hlast:(l.bN.drop (i+1)).isEmpty=decide ((i:Int)=(l.len:Int)-1):=by
    rw[<-hH];by_cases h:(i:Int)=(l.bN.length:Int)-1
    ·rw[decide_eq_true h,Q7 (by omega)];rfl
    ·rw[decide_eq_false h,List.isEmpty_eq_false_iff,List.ne_nil_iff_length_pos,List.length_drop];omega
   obtain⟨cl,hcl⟩:∃ cl,l.list[i].1++l.list[i].2.cells=cl:=⟨_,rfl⟩;rw[hcl]at ix hce hsc ld g0 g1 g2 g3;obtain⟨a,ha⟩:∃ a,l.bN[i]=a:=⟨_,rfl⟩;rw[ha]at hgo htake g0 g1 g2 hvs hvl;obtain⟨ak,an,am,avs⟩:=a;simp only at g0 g1 g2 hvs hvl;obtain⟨s2,u1,u2,u3,u4⟩:=cO (s:=s) (z:=qp) hce hsc;have kck2:=A.ck.keep u3 (by simp) (by simp) (by simp);have kp2:=A.kp.trans (u3.sub (by simp) (by simp));have mp2:=A.mp.keep u3 A.srl (by simp);have nm:=fun st:St=>CR (c:=c) (st:=st) hvs hvl (N:=N) (by omega)
   have vl:=fun st:St=>hvs.sLen (st:=st) gz
   have bad:∀ (t':Tr AV) (w':Int) (s':St),ab t' 4=.b false->Ck s' cr mr w' C->Kp [cr] [cr] st s'->cC C (l.bN.take i) (⟨ak,an,am,avs⟩::l.bN.drop (i+1)) kind typ sm seen=false->yR st cr mr w C l.bN t' s':=by intro t' w' s' h1 h2 h3 h4;refine⟨h1,w',h2,h3,fun hh=>?_⟩;have:=(hgo.2 hh).2;rw[h4]at this;cases this
   by_cases h1:eS avs=true
   case neg =>
    have h1:eS avs=false:=by simpa using h1
    right;simp[i17,i18,i19,e3,ix,ld,aJ,dM,aI cy bU,hce,u1,au u2,g3,nm,h1];exact⟨_,_,⟨rfl,rfl⟩,bad _ _ _ (by simp) kck2 kp2 (by simp[cC,h1])⟩
   by_cases h2:ak<1
   case pos =>
    have h2':¬ 1<=ak:=by omega
    right;simp[i17,i18,i19,e3,ix,ld,aJ,dM,aI cy bU,hce,u1,au u2,g0,g3,nm,h1,h2];exact⟨_,_,⟨rfl,rfl⟩,bad _ _ _ (by simp) kck2 kp2 (by simp[cC,h1,h2'])⟩
   by_cases h3:4<ak
   case pos =>
    have h3':¬ ak<=4:=by omega
    right;simp[i17,i18,i19,e3,ix,ld,aJ,dM,aI cy bU,hce,u1,au u2,g0,g3,nm,h1,h2,h3];exact⟨_,_,⟨rfl,rfl⟩,bad _ _ _ (by simp) kck2 kp2 (by simp[cC,h1,h3'])⟩
   have h23:1<=ak:=by omega
   have h33:ak<=4:=by omega
   by_cases h4:ak=4
   case pos =>
    subst h4;by_cases h5:(i:Int)=(l.len:Int)-1
    case neg =>right;simp[i1,i17,i18,i19,e3,e5,ix,ld,aJ,dM,aI cy bU,hce,u1,au u2,g0,g3,nm,ln,h1,h5];exact⟨_,_,⟨rfl,rfl⟩,bad _ _ _ (by simp) kck2 kp2 (by simp[cC,h1,hlast,h5])⟩
    have p5:(l.len:Int)-1=(i:Int):=h5.symm;have p6:wr .i64 (i:Int)=(i:Int):=aZ (by omega) (by omega);by_cases h6:1<avs.length
    case pos =>
     have h6':(1:Int)<(avs.length:Int):=by omega
     have h6'':¬ avs.length<=1:=by omega
     right;simp[i1,i17,i18,i19,e3,ix,ld,aJ,dM,aI cy bU,hce,u1,au u2,g0,g3,nm,ln,vl,h1,p5,p6,h6'];exact⟨_,_,⟨rfl,rfl⟩,bad _ _ _ (by simp) kck2 kp2 (by simp[cC,h1,hlast,h5,h6''])⟩
    have h6':¬ (1:Int)<(avs.length:Int):=by omega
    have h6'':avs.length<=1:=by omega
    by_cases h7:an=[]
    case neg =>right;simp[i1,i17,i18,i19,e3,ix,ld,aJ,dM,aI cy bU,hce,u1,au u2,g0,g1,g3,nm,ln,vl,jJ,h1,p5,p6,h6',h7];exact⟨_,_,⟨rfl,rfl⟩,bad _ _ _ (by simp) kck2 kp2 (by simp[cC,h1,hlast,h5,h6'',h7])⟩
    by_cases h8:am=0
    case neg =>right;simp[i1,i17,i18,i19,e3,ix,ld,aJ,dM,aI cy bU,hce,u1,au u2,g0,g1,g2,g3,nm,ln,vl,jJ,h1,p5,p6,h6',h7,h8];exact⟨_,_,⟨rfl,rfl⟩,bad _ _ _ (by simp) kck2 kp2 (by simp[cC,h1,hlast,h5,h6'',h7,h8])⟩
    left;simp[i1,i17,i18,i19,e3,e4,ix,ld,aJ,dM,aI cy bU,hce,u1,au u2,g0,g1,g2,g3,nm,ln,vl,jJ,h1,p5,p6,h6',h7,h8];refine⟨_,_,⟨rfl,rfl⟩,by simp[i0],by simp[i1],by simp[i8],by simp[i17],by simp[i18,hH],by simp,kind,typ,sm,seen,w1,by simp[i5],by simp[i6],by simp[i7],kck2,mp2,Q0 A.srl u3.next,kp2,?_⟩;rw[htake,<-hgo];simp[cC,h1,hlast,h5,h6'',h7,h8]
   by_cases k0:kind=0
   case pos =>
    by_cases k1:ak=1
    case neg =>
     by_cases n0:an=[]
     case neg =>right;simp[i5,i17,i18,i19,e3,ix,ld,aJ,dM,aI cy bU,hce,u1,au u2,g0,g1,g3,nm,jJ,h1,h2,h3,h4,k0,k1,n0];exact⟨_,_,⟨rfl,rfl⟩,bad _ _ _ (by simp) kck2 kp2 (by simp[cC,h1,h23,h33,h4,k0,k1,n0])⟩
     by_cases v0:avs.length=0
     case neg =>right;simp[i5,i17,i18,i19,e3,ix,ld,aJ,dM,aI cy bU,hce,u1,au u2,g0,g1,g3,nm,vl,jJ,h1,h2,h3,h4,k0,k1,n0,v0];exact⟨_,_,⟨rfl,rfl⟩,bad _ _ _ (by simp) kck2 kp2 (by simp[cC,h1,h23,h33,h4,k0,k1,n0,v0])⟩
     by_cases k3:ak=3
     case pos =>
      by_cases m1:am<0
      case pos =>
       have m1':¬ 0<=am:=by omega
       right;simp[i5,i17,i18,i19,e3,ix,ld,aJ,dM,aI cy bU,hce,u1,au u2,g0,g1,g2,g3,nm,vl,jJ,h1,k0,n0,v0,k3,m1];exact⟨_,_,⟨rfl,rfl⟩,bad _ _ _ (by simp) kck2 kp2 (by simp[cC,h1,k0,n0,v0,k3,m1'])⟩
      by_cases m2:255<am
      case pos =>
       have m2':¬ am<=255:=by omega
       right;simp[i5,i17,i18,i19,e3,ix,ld,aJ,dM,aI cy bU,hce,u1,au u2,g0,g1,g2,g3,nm,vl,jJ,h1,k0,n0,v0,k3,m1,m2];exact⟨_,_,⟨rfl,rfl⟩,bad _ _ _ (by simp) kck2 kp2 (by simp[cC,h1,k0,n0,v0,k3,m2'])⟩
      have m1':0<=am:=by omega
      have m2':am<=255:=by omega
      have sp:=EE (P:=prog) (st:=s2) nY (c:=l.flat) (n:=l.len) (i:=i) (by omega);rw[<-ae.cZ hil]at sp;have ln2:=fun st:St=>aY (P:=prog) (st:=st) (v:=.rs l.flat i 11) underlying33 rfl rfl
      simp[i1,i5,i17,i18,i19,e3,ix,ld,aJ,dM,aI cy bU,hce,u1,au u2,g0,g1,g2,g3,nm,vl,jJ,h1,k0,n0,v0,k3,m1,m2,sp,ln2,bw];generalize hL2:bf _ _ _ _=L2;have lr2:=fW hL2 2 i (uh st cr mr sr w1 C l.bN (l.slice 11) i ak typ sm seen am l.flat) (fun t s=>uh st cr mr sr w1 C l.bN (l.slice 11) i ak typ sm seen am l.flat i t s) (yR st cr mr w C l.bN) (by omega)
       ⟨⟨by simp[i0],by simp[i1],by simp[i8],by simp[i17],by simp[i18,hH],by simp[i19]⟩,⟨by simp[k3],by simp[i6],by simp[i7],by simp,by simp,by simp,by simp⟩,kck2,mp2,Q0 A.srl u3.next,kp2,fun j hj h=>by omega⟩
       (by
        rintro j t3 s3 hji B;clear hL2;have hj:j<l.list.length:=by omega
        have q:=Er hT hH hj hji hlen B;obtain⟨cl2,r3,s4,q1,q2,q3,q4,q5,q6,q7,q8⟩:=q;obtain⟨⟨j0,j1,j8,j17,j18,j19⟩,⟨j5,j6,j7,j11,j103,j104,j105⟩,jC,jM,jl,jK,jN⟩:=B;have f3:(j:Int)<(i:Int):=by omega
        have f4:wr .i64 ((j:Int)+1)=((j+1:Nat):Int):=by rw[aZ (by omega) (by omega)];rfl
        have hjH:j<l.bN.length:=by omega
        by_cases hm:l.bN[j].m=am
        case pos =>right;rw[hm]at q5;simp[j11,j103,j104,j105,f3,q1,q2,q3,aJ,dM,aI cy bU,q4,q5];have gq:=CO am hjH hji hm;exact⟨_,_,⟨rfl,rfl⟩,bad _ _ _ (by simp) (jC.keep q6 (by simp) (by simp) (by simp)) (jK.trans (q6.sub (by simp) (by simp))) (by simp only[cC,gq];simp[h1,k0,n0,v0,k3,m1',m2'])⟩
        case neg =>
         left;simp[j11,j103,j104,j105,f3,f4,q1,q2,q3,aJ,dM,aI cy bU,q4,q5,hm];refine⟨_,_,⟨rfl,rfl⟩,⟨by simp[j0],by simp[j1],by simp[j8],by simp[j17],by simp[j18],by simp[j19]⟩,⟨by simp[j5],by simp[j6],by simp[j7],by simp[j11],by simp[j103],by simp[j104],by simp⟩,jC.keep q6 (by simp) (by simp) (by simp),jM.keep q6 jl (by simp),Q0 jl q6.next,jK.trans (q6.sub (by simp) (by simp)),fun k hk h=>?_⟩;by_cases hkj:k=j
         ·subst hkj;exact hm
         ·exact jN k hk (by omega))
       (by rintro t3 s3 B;clear hL2;have B':=B;obtain⟨⟨j0,j1,j8,j17,j18,j19⟩,⟨j5,j6,j7,j11,j103,j104,j105⟩,jC,jM,jl,jK,jN⟩:=B;simp[j104,j105];exact⟨_,_,⟨rfl,rfl⟩,⟨by simp[j0],by simp[j1],by simp[j8],by simp[j17],by simp[j18],by simp[j19]⟩,⟨by simp[j5],by simp[j6],by simp[j7],by simp[j11],by simp[j103],by simp[j104],by simp[j105]⟩,jC,jM,jl,jK,jN⟩)
      clear hL2;rcases lr2 with ⟨t3,s3,rfl,B⟩|⟨t3,s3,rfl,B⟩
      ·obtain⟨⟨j0,j1,j8,j17,j18,j19⟩,⟨j5,j6,j7,j11,j103,j104,j105⟩,jC,jM,jl,jK,jN⟩:=B;left;simp[j19,e4];refine⟨_,_,⟨rfl,rfl⟩,by simp[j0],by simp[j1],by simp[j8],by simp[j17],by simp[j18],by simp,ak,typ,sm,seen,w1,by simp[j5],by simp[j6],by simp[j7],jC,jM,jl,jK,?_⟩;rw[htake,<-hgo];have gq:=DM am jN;simp only[cC,gq];simp[h1,k0,n0,v0,k3,m1',m2']
      ·right;simp;exact⟨_,_,⟨rfl,rfl⟩,B⟩
     have sp:=EE (P:=prog) (st:=s2) nY (c:=l.flat) (n:=l.len) (i:=i) (by omega);rw[<-ae.cZ hil]at sp;have ln2:=fun st:St=>aY (P:=prog) (st:=st) (v:=.rs l.flat i 11) underlying33 rfl rfl
     simp[i1,i5,i17,i18,i19,e3,ix,ld,aJ,dM,aI cy bU,hce,u1,au u2,g0,g1,g2,g3,nm,vl,jJ,h1,h2,h3,h4,k0,k1,n0,v0,k3,sp,ln2,bw];generalize hL2:bf _ _ _ _=L2;have lr2:=fW hL2 2 i (uh st cr mr sr w1 C l.bN (l.slice 11) i ak typ sm seen am l.flat) (fun t s=>uh st cr mr sr w1 C l.bN (l.slice 11) i ak typ sm seen am l.flat i t s) (yR st cr mr w C l.bN) (by omega)
      ⟨⟨by simp[i0],by simp[i1],by simp[i8],by simp[i17],by simp[i18,hH],by simp[i19]⟩,⟨by simp,by simp[i6],by simp[i7],by simp,by simp,by simp,by simp⟩,kck2,mp2,Q0 A.srl u3.next,kp2,fun j hj h=>by omega⟩
      (by
       rintro j t3 s3 hji B;clear hL2;have hj:j<l.list.length:=by omega
       have q:=Er hT hH hj hji hlen B;obtain⟨cl2,r3,s4,q1,q2,q3,q4,q5,q6,q7,q8⟩:=q;obtain⟨⟨j0,j1,j8,j17,j18,j19⟩,⟨j5,j6,j7,j11,j103,j104,j105⟩,jC,jM,jl,jK,jN⟩:=B;have f3:(j:Int)<(i:Int):=by omega
       have f4:wr .i64 ((j:Int)+1)=((j+1:Nat):Int):=by rw[aZ (by omega) (by omega)];rfl
       have hjH:j<l.bN.length:=by omega
       by_cases hm:l.bN[j].m=am
       case pos =>right;rw[hm]at q5;simp[j11,j103,j104,j105,f3,q1,q2,q3,aJ,dM,aI cy bU,q4,q5];have gq:=CO am hjH hji hm;exact⟨_,_,⟨rfl,rfl⟩,bad _ _ _ (by simp) (jC.keep q6 (by simp) (by simp) (by simp)) (jK.trans (q6.sub (by simp) (by simp))) (by simp only[cC,gq];simp[h1,h23,h33,h4,k0,k1,n0,v0,k3])⟩
       case neg =>
        left;simp[j11,j103,j104,j105,f3,f4,q1,q2,q3,aJ,dM,aI cy bU,q4,q5,hm];refine⟨_,_,⟨rfl,rfl⟩,⟨by simp[j0],by simp[j1],by simp[j8],by simp[j17],by simp[j18],by simp[j19]⟩,⟨by simp[j5],by simp[j6],by simp[j7],by simp[j11],by simp[j103],by simp[j104],by simp⟩,jC.keep q6 (by simp) (by simp) (by simp),jM.keep q6 jl (by simp),Q0 jl q6.next,jK.trans (q6.sub (by simp) (by simp)),fun k hk h=>?_⟩;by_cases hkj:k=j
        ·subst hkj;exact hm
        ·exact jN k hk (by omega))
      (by rintro t3 s3 B;clear hL2;have B':=B;obtain⟨⟨j0,j1,j8,j17,j18,j19⟩,⟨j5,j6,j7,j11,j103,j104,j105⟩,jC,jM,jl,jK,jN⟩:=B;simp[j104,j105];exact⟨_,_,⟨rfl,rfl⟩,⟨by simp[j0],by simp[j1],by simp[j8],by simp[j17],by simp[j18],by simp[j19]⟩,⟨by simp[j5],by simp[j6],by simp[j7],by simp[j11],by simp[j103],by simp[j104],by simp[j105]⟩,jC,jM,jl,jK,jN⟩)
     clear hL2;rcases lr2 with ⟨t3,s3,rfl,B⟩|⟨t3,s3,rfl,B⟩
     ·obtain⟨⟨j0,j1,j8,j17,j18,j19⟩,⟨j5,j6,j7,j11,j103,j104,j105⟩,jC,jM,jl,jK,jN⟩:=B;left;simp[j19,e4];refine⟨_,_,⟨rfl,rfl⟩,by simp[j0],by simp[j1],by simp[j8],by simp[j17],by simp[j18],by simp,ak,typ,sm,seen,w1,by simp[j5],by simp[j6],by simp[j7],jC,jM,jl,jK,?_⟩;rw[htake,<-hgo];have gq:=DM am jN;simp only[cC,gq];simp[h1,h23,h33,h4,k0,k1,n0,v0,k3]
     ·right;simp;exact⟨_,_,⟨rfl,rfl⟩,B⟩
    by_cases m0:am=0
    case neg =>right;simp[i5,i17,i18,i19,e3,ix,ld,aJ,dM,aI cy bU,hce,u1,au u2,g0,g2,g3,nm,h1,k0,k1,m0];exact⟨_,_,⟨rfl,rfl⟩,bad _ _ _ (by simp) kck2 kp2 (by simp[cC,h1,k0,k1,m0])⟩
    have lk:=mp2.get gW an;rw[ze]at lk;by_cases hs:an∈seen
    case pos =>right;simp[i5,i8,i17,i18,i19,e3,ix,ld,aJ,dM,aI cy bU,hce,u1,au u2,g0,g1,g2,g3,nm,h1,k0,k1,m0,lk,hs];exact⟨_,_,⟨rfl,rfl⟩,bad _ _ _ (by simp) kck2 kp2 (by simp[cC,h1,k0,k1,m0,hs])⟩
    have nd:=fun st:St=>yL (c:=c) (st:=st) an (N:=N) (by omega)
    cases hn:named an with
    |false =>right;simp[i5,i8,i17,i18,i19,e3,ix,ld,aJ,dM,aI cy bU,hce,u1,au u2,g0,g1,g2,g3,nm,h1,k0,k1,m0,lk,hs,nd,hn];exact⟨_,_,⟨rfl,rfl⟩,bad _ _ _ (by simp) kck2 kp2 (by simp[cC,h1,k0,k1,m0,hs,hn])⟩
    |true =>
     obtain⟨s3,v1,v2,v3,v4⟩:=mp2.set gW an (.b true);have hne:s.next∉[sr]:=by simp;have:=A.srl;omega
     have hcs:cr∉[sr]:=by simp;omega
     have hms:mr∉[sr]:=by simp;omega
     have kck3:=kck2.keep v3 hcs hms (by simp);have kp3:=dz kp2 v3 (by simp;omega) (by simp);have u2':=v3.ce u2 u4 u4 hne (by simp);have lt3:s.next<s3.next:=by rw[v4];exact u4
     obtain⟨al3,hc3⟩:=kck3.ce;have lk3:=kck3.mp.uu xe an;have sm3:=wX seen an;rw[sm3]at v2;cases hCn:C an with
     |none =>
      rw[hCn]at lk3;obtain⟨s4,x1,x2,x3,x4⟩:=cO (s:=s3) (z:=gP) (cells:=gP) rfl rfl;have kck4:=kck3.keep x3 (by simp) (by simp) (by simp);obtain⟨s5,w5,y1,y2,y3,y4⟩:=mj (c:=c) true kck4 (e:=9) (by right;right;left;rfl) (by decide) (N:=N) (by omega);have z35:gP.length=4:=rfl;have w5n:w5≠0:=fun h=>by have:=(y4.1 h).2;cases this
      left;simp[i5,i8,i17,i18,i19,e3,ix,ld,aJ,dM,aI cy bU,hce,u1,au u2,g0,g1,g2,g3,nm,h1,k0,k1,m0,lk,hs,nd,hn,v1,br];rw[dj (by kernel_rfl)];have lk3':lookup prog 78 s3 (.m mr) (.s an) true=some (.tu [.ag gP,.b false]):=lk3;simp[i0,i19,au hc3,au u2',g1,lk3',aJ,dW,aI dx dq,z35,x1,y1,e4];refine⟨_,_,⟨rfl,rfl⟩,by simp[i0],by simp[i1],by simp[i8],by simp[i17],by simp[i18,hH],by simp,ak,typ,sm,seen++[an],w5,by simp[k1],by simp[i6],by simp[i7],y2,(v2.keep x3 (by rw[v4];exact Q0 A.srl u3.next) (by simp)).keep y3 (Q0 (show sr<s3.next by rw[v4];exact Q0 A.srl u3.next) x3.next) (by simp;omega),Q0 (Q0 (show sr<s3.next by rw[v4];exact Q0 A.srl u3.next) x3.next) y3.next,(kp3.trans (x3.sub (by simp) (by simp))).trans y3,?_⟩;have gf:cC C (l.bN.take i) (⟨ak,an,am,avs⟩::l.bN.drop (i+1)) kind typ sm seen=false:=by simp[cC,h1,k0,k1,m0,hs,hn,hCn]
      rw[gf]at hgo;refine⟨fun h=>absurd h.1 w5n,fun h=>?_⟩;have:=(hgo.2 h).2;cases this
     |some cv =>
      obtain⟨cn,car,cty,ctag,hcv⟩:=hC _ _ hCn;rw[hCn,hcv]at lk3;obtain⟨s4,x1,x2,x3,x4⟩:=cO (s:=s3) (z:=gP) (cells:=[.s cn,.i .i64 car,.s cty,.i .i64 ctag]) rfl rfl;have kck4:=kck3.keep x3 (by simp) (by simp) (by simp);have u4':=x3.ce u2' lt3 lt3 (by simp) (by simp);obtain⟨s5,w5,y1,y2,y3,y4⟩:=mj (c:=c) (!decide (car=(avs.length:Int))) kck4 (e:=9) (by right;right;left;rfl) (by decide) (N:=N) (by omega);have ncr:s3.next∉[cr]:=by simp;have:=kck3.crl;omega
      have x2':=y3.ce x2 x4 x4 ncr ncr;have lk3':lookup prog 78 s3 (.m mr) (.s an) true=some (.tu [.ag [.s cn,.i .i64 car,.s cty,.i .i64 ctag],.b true]):=lk3;have ckF:Ck s5 cr mr w5 C:=y2;have kpF:Kp [cr] [cr] st s5:=(kp3.trans (x3.sub (by simp) (by simp))).trans y3;have mpF:cS s5 sr (iD (seen++[an])):=(v2.keep x3 (by rw[v4];exact Q0 A.srl u3.next) (by simp)).keep y3 (Q0 (show sr<s3.next by rw[v4];exact Q0 A.srl u3.next) x3.next) (by simp;omega);have srF:sr<s5.next:=Q0 (Q0 (show sr<s3.next by rw[v4];exact Q0 A.srl u3.next) x3.next) y3.next;by_cases ht:sm=true/\cty≠typ
      case pos =>obtain⟨t1,t2⟩:=ht;right;simp[i5,i8,i17,i18,i19,e3,ix,ld,aJ,dM,aI cy bU,hce,u1,au u2,g0,g1,g2,g3,nm,h1,k0,k1,m0,lk,hs,nd,hn,v1,br];rw[dj (by kernel_rfl)];simp[i0,i6,i7,au hc3,au u2',au u4',au x2,au x2',g1,g3,vl,lk3',aJ,dW,aI dx dq,x1,y1,jJ,t1,t2];exact⟨_,_,⟨rfl,rfl⟩,bad _ _ _ (by simp) ckF kpF (by simp[cC,h1,k0,k1,m0,hs,hn,hCn,hcv,yT,Ar,t1,t2])⟩
      case neg =>
       have hgo':(w1=0/\(car=(avs.length:Int)/\cC C (l.bN.take i++[⟨ak,an,am,avs⟩]) (l.bN.drop (i+1)) ak cty true (seen++[an])=true))↔(w=0/\cC C [] l.bN 0 [] false []=true):=by
        rw[<-hgo];have ht':(!sm||decide (cty=typ))=true:=by
         cases sm with
         |false=>rfl
         |true =>
          have:cty=typ:=Classical.byContradiction fun h=>ht ⟨rfl,h⟩
          simp[this]
        simp[cC,h1,k0,k1,m0,hs,hn,hCn,hcv,od,yT,Ar];intro _;simp only[J5,J6,decide_eq_true_eq]at ht'|-;constructor
        ·rintro⟨a1,a2⟩;exact⟨decide_eq_true a1,ht'.imp id decide_eq_true,a2⟩
        ·rintro⟨a1,-,a2⟩;exact⟨of_decide_eq_true a1,a2⟩
       left;cases sm with
       |false =>simp[i5,i8,i17,i18,i19,e3,ix,ld,aJ,dM,aI cy bU,hce,u1,au u2,g0,g1,g2,g3,nm,h1,k0,k1,m0,lk,hs,nd,hn,v1,br];rw[dj (by kernel_rfl)];simp[i0,i7,i19,au hc3,au u2',au u4',au x2,au x2',g1,g3,vl,lk3',aJ,dW,aI dx dq,x1,y1,e4];refine⟨_,_,⟨rfl,rfl⟩,by simp[i0],by simp[i1],by simp[i8],by simp[i17],by simp[i18,hH],by simp,ak,cty,true,seen++[an],w5,by simp[k1],by simp,by simp,ckF,mpF,srF,kpF,?_⟩;rw[htake,<-hgo',y4];simp[and_assoc]
       |true =>
        have ht2:cty=typ:=Classical.byContradiction fun h=>ht ⟨rfl,h⟩
        subst ht2;simp[i5,i8,i17,i18,i19,e3,ix,ld,aJ,dM,aI cy bU,hce,u1,au u2,g0,g1,g2,g3,nm,h1,k0,k1,m0,lk,hs,nd,hn,v1,br];rw[dj (by kernel_rfl)];simp[i0,i6,i7,i19,au hc3,au u2',au u4',au x2,au x2',g1,g3,vl,lk3',aJ,dW,aI dx dq,x1,y1,jJ,e4];refine⟨_,_,⟨rfl,rfl⟩,by simp[i0],by simp[i1],by simp[i8],by simp[i17],by simp[i18,hH],by simp,ak,cty,true,seen++[an],w5,by simp[k1],by simp,by simp,ckF,mpF,srF,kpF,?_⟩;rw[htake,<-hgo',y4];simp[and_assoc]
   by_cases kk:ak=kind
   case neg =>right;simp[i5,i17,i18,i19,e3,ix,ld,aJ,dM,aI cy bU,hce,u1,au u2,g0,g3,nm,h1,h2,h3,h4,k0,kk];exact⟨_,_,⟨rfl,rfl⟩,bad _ _ _ (by simp) kck2 kp2 (by simp[cC,h1,h23,h33,h4,k0,kk])⟩
   subst kk;by_cases k1:ak=1
   case neg =>
    by_cases n0:an=[]
    case neg =>right;simp[i5,i17,i18,i19,e3,ix,ld,aJ,dM,aI cy bU,hce,u1,au u2,g0,g1,g3,nm,jJ,h1,h2,h3,h4,k0,k1,n0];exact⟨_,_,⟨rfl,rfl⟩,bad _ _ _ (by simp) kck2 kp2 (by simp[cC,h1,h23,h33,h4,k0,k1,n0])⟩
    by_cases v0:avs.length=0
    case neg =>right;simp[i5,i17,i18,i19,e3,ix,ld,aJ,dM,aI cy bU,hce,u1,au u2,g0,g1,g3,nm,vl,jJ,h1,h2,h3,h4,k0,k1,n0,v0];exact⟨_,_,⟨rfl,rfl⟩,bad _ _ _ (by simp) kck2 kp2 (by simp[cC,h1,h23,h33,h4,k0,k1,n0,v0])⟩
    by_cases k3:ak=3
    case pos =>
     by_cases m1:am<0
     case pos =>
      have m1':¬ 0<=am:=by omega
      right;simp[i5,i17,i18,i19,e3,ix,ld,aJ,dM,aI cy bU,hce,u1,au u2,g0,g1,g2,g3,nm,vl,jJ,h1,n0,v0,k3,m1];exact⟨_,_,⟨rfl,rfl⟩,bad _ _ _ (by simp) kck2 kp2 (by simp[cC,h1,n0,v0,k3,m1'])⟩
     by_cases m2:255<am
     case pos =>
      have m2':¬ am<=255:=by omega
      right;simp[i5,i17,i18,i19,e3,ix,ld,aJ,dM,aI cy bU,hce,u1,au u2,g0,g1,g2,g3,nm,vl,jJ,h1,n0,v0,k3,m1,m2];exact⟨_,_,⟨rfl,rfl⟩,bad _ _ _ (by simp) kck2 kp2 (by simp[cC,h1,n0,v0,k3,m2'])⟩
     have m1':0<=am:=by omega
     have m2':am<=255:=by omega
     have sp:=EE (P:=prog) (st:=s2) nY (c:=l.flat) (n:=l.len) (i:=i) (by omega);rw[<-ae.cZ hil]at sp;have ln2:=fun st:St=>aY (P:=prog) (st:=st) (v:=.rs l.flat i 11) underlying33 rfl rfl
     simp[i1,i5,i17,i18,i19,e3,ix,ld,aJ,dM,aI cy bU,hce,u1,au u2,g0,g1,g2,g3,nm,vl,jJ,h1,n0,v0,k3,m1,m2,sp,ln2,bw];generalize hL2:bf _ _ _ _=L2;have lr2:=fW hL2 2 i (uh st cr mr sr w1 C l.bN (l.slice 11) i ak typ sm seen am l.flat) (fun t s=>uh st cr mr sr w1 C l.bN (l.slice 11) i ak typ sm seen am l.flat i t s) (yR st cr mr w C l.bN) (by omega)
      ⟨⟨by simp[i0],by simp[i1],by simp[i8],by simp[i17],by simp[i18,hH],by simp[i19]⟩,⟨by simp[k3],by simp[i6],by simp[i7],by simp,by simp,by simp,by simp⟩,kck2,mp2,Q0 A.srl u3.next,kp2,fun j hj h=>by omega⟩
      (by
       rintro j t3 s3 hji B;clear hL2;have hj:j<l.list.length:=by omega
       have q:=Er hT hH hj hji hlen B;obtain⟨cl2,r3,s4,q1,q2,q3,q4,q5,q6,q7,q8⟩:=q;obtain⟨⟨j0,j1,j8,j17,j18,j19⟩,⟨j5,j6,j7,j11,j103,j104,j105⟩,jC,jM,jl,jK,jN⟩:=B;have f3:(j:Int)<(i:Int):=by omega
       have f4:wr .i64 ((j:Int)+1)=((j+1:Nat):Int):=by rw[aZ (by omega) (by omega)];rfl
       have hjH:j<l.bN.length:=by omega
       by_cases hm:l.bN[j].m=am
       case pos =>right;rw[hm]at q5;simp[j11,j103,j104,j105,f3,q1,q2,q3,aJ,dM,aI cy bU,q4,q5];have gq:=CO am hjH hji hm;exact⟨_,_,⟨rfl,rfl⟩,bad _ _ _ (by simp) (jC.keep q6 (by simp) (by simp) (by simp)) (jK.trans (q6.sub (by simp) (by simp))) (by simp only[cC,gq];simp[h1,n0,v0,k3,m1',m2'])⟩
       case neg =>
        left;simp[j11,j103,j104,j105,f3,f4,q1,q2,q3,aJ,dM,aI cy bU,q4,q5,hm];refine⟨_,_,⟨rfl,rfl⟩,⟨by simp[j0],by simp[j1],by simp[j8],by simp[j17],by simp[j18],by simp[j19]⟩,⟨by simp[j5],by simp[j6],by simp[j7],by simp[j11],by simp[j103],by simp[j104],by simp⟩,jC.keep q6 (by simp) (by simp) (by simp),jM.keep q6 jl (by simp),Q0 jl q6.next,jK.trans (q6.sub (by simp) (by simp)),fun k hk h=>?_⟩;by_cases hkj:k=j
        ·subst hkj;exact hm
        ·exact jN k hk (by omega))
      (by rintro t3 s3 B;clear hL2;have B':=B;obtain⟨⟨j0,j1,j8,j17,j18,j19⟩,⟨j5,j6,j7,j11,j103,j104,j105⟩,jC,jM,jl,jK,jN⟩:=B;simp[j104,j105];exact⟨_,_,⟨rfl,rfl⟩,⟨by simp[j0],by simp[j1],by simp[j8],by simp[j17],by simp[j18],by simp[j19]⟩,⟨by simp[j5],by simp[j6],by simp[j7],by simp[j11],by simp[j103],by simp[j104],by simp[j105]⟩,jC,jM,jl,jK,jN⟩)
     clear hL2;rcases lr2 with ⟨t3,s3,rfl,B⟩|⟨t3,s3,rfl,B⟩
     ·obtain⟨⟨j0,j1,j8,j17,j18,j19⟩,⟨j5,j6,j7,j11,j103,j104,j105⟩,jC,jM,jl,jK,jN⟩:=B;left;simp[j19,e4];refine⟨_,_,⟨rfl,rfl⟩,by simp[j0],by simp[j1],by simp[j8],by simp[j17],by simp[j18],by simp,ak,typ,sm,seen,w1,by simp[j5],by simp[j6],by simp[j7],jC,jM,jl,jK,?_⟩;rw[htake,<-hgo];have gq:=DM am jN;simp only[cC,gq];simp[h1,n0,v0,k3,m1',m2']
     ·right;simp;exact⟨_,_,⟨rfl,rfl⟩,B⟩
    have sp:=EE (P:=prog) (st:=s2) nY (c:=l.flat) (n:=l.len) (i:=i) (by omega);rw[<-ae.cZ hil]at sp;have ln2:=fun st:St=>aY (P:=prog) (st:=st) (v:=.rs l.flat i 11) underlying33 rfl rfl
    simp[i1,i5,i17,i18,i19,e3,ix,ld,aJ,dM,aI cy bU,hce,u1,au u2,g0,g1,g2,g3,nm,vl,jJ,h1,h2,h3,h4,k0,k1,n0,v0,k3,sp,ln2,bw];generalize hL2:bf _ _ _ _=L2;have lr2:=fW hL2 2 i (uh st cr mr sr w1 C l.bN (l.slice 11) i ak typ sm seen am l.flat) (fun t s=>uh st cr mr sr w1 C l.bN (l.slice 11) i ak typ sm seen am l.flat i t s) (yR st cr mr w C l.bN) (by omega)
     ⟨⟨by simp[i0],by simp[i1],by simp[i8],by simp[i17],by simp[i18,hH],by simp[i19]⟩,⟨by simp,by simp[i6],by simp[i7],by simp,by simp,by simp,by simp⟩,kck2,mp2,Q0 A.srl u3.next,kp2,fun j hj h=>by omega⟩
     (by
      rintro j t3 s3 hji B;clear hL2;have hj:j<l.list.length:=by omega
      have q:=Er hT hH hj hji hlen B;obtain⟨cl2,r3,s4,q1,q2,q3,q4,q5,q6,q7,q8⟩:=q;obtain⟨⟨j0,j1,j8,j17,j18,j19⟩,⟨j5,j6,j7,j11,j103,j104,j105⟩,jC,jM,jl,jK,jN⟩:=B;have f3:(j:Int)<(i:Int):=by omega
      have f4:wr .i64 ((j:Int)+1)=((j+1:Nat):Int):=by rw[aZ (by omega) (by omega)];rfl
      have hjH:j<l.bN.length:=by omega
      by_cases hm:l.bN[j].m=am
      case pos =>right;rw[hm]at q5;simp[j11,j103,j104,j105,f3,q1,q2,q3,aJ,dM,aI cy bU,q4,q5];have gq:=CO am hjH hji hm;exact⟨_,_,⟨rfl,rfl⟩,bad _ _ _ (by simp) (jC.keep q6 (by simp) (by simp) (by simp)) (jK.trans (q6.sub (by simp) (by simp))) (by simp only[cC,gq];simp[h1,h23,h33,h4,k0,k1,n0,v0,k3])⟩
      case neg =>
       left;simp[j11,j103,j104,j105,f3,f4,q1,q2,q3,aJ,dM,aI cy bU,q4,q5,hm];refine⟨_,_,⟨rfl,rfl⟩,⟨by simp[j0],by simp[j1],by simp[j8],by simp[j17],by simp[j18],by simp[j19]⟩,⟨by simp[j5],by simp[j6],by simp[j7],by simp[j11],by simp[j103],by simp[j104],by simp⟩,jC.keep q6 (by simp) (by simp) (by simp),jM.keep q6 jl (by simp),Q0 jl q6.next,jK.trans (q6.sub (by simp) (by simp)),fun k hk h=>?_⟩;by_cases hkj:k=j
       ·subst hkj;exact hm
       ·exact jN k hk (by omega))
     (by rintro t3 s3 B;clear hL2;have B':=B;obtain⟨⟨j0,j1,j8,j17,j18,j19⟩,⟨j5,j6,j7,j11,j103,j104,j105⟩,jC,jM,jl,jK,jN⟩:=B;simp[j104,j105];exact⟨_,_,⟨rfl,rfl⟩,⟨by simp[j0],by simp[j1],by simp[j8],by simp[j17],by simp[j18],by simp[j19]⟩,⟨by simp[j5],by simp[j6],by simp[j7],by simp[j11],by simp[j103],by simp[j104],by simp[j105]⟩,jC,jM,jl,jK,jN⟩)
    clear hL2;rcases lr2 with ⟨t3,s3,rfl,B⟩|⟨t3,s3,rfl,B⟩
    ·obtain⟨⟨j0,j1,j8,j17,j18,j19⟩,⟨j5,j6,j7,j11,j103,j104,j105⟩,jC,jM,jl,jK,jN⟩:=B;left;simp[j19,e4];refine⟨_,_,⟨rfl,rfl⟩,by simp[j0],by simp[j1],by simp[j8],by simp[j17],by simp[j18],by simp,ak,typ,sm,seen,w1,by simp[j5],by simp[j6],by simp[j7],jC,jM,jl,jK,?_⟩;rw[htake,<-hgo];have gq:=DM am jN;simp only[cC,gq];simp[h1,h23,h33,h4,k0,k1,n0,v0,k3]
    ·right;simp;exact⟨_,_,⟨rfl,rfl⟩,B⟩
   by_cases m0:am=0
   case neg =>right;simp[i5,i17,i18,i19,e3,ix,ld,aJ,dM,aI cy bU,hce,u1,au u2,g0,g2,g3,nm,h1,k1,m0];exact⟨_,_,⟨rfl,rfl⟩,bad _ _ _ (by simp) kck2 kp2 (by simp[cC,h1,k1,m0])⟩
   have lk:=mp2.get gW an;rw[ze]at lk;by_cases hs:an∈seen
   case pos =>right;simp[i5,i8,i17,i18,i19,e3,ix,ld,aJ,dM,aI cy bU,hce,u1,au u2,g0,g1,g2,g3,nm,h1,k1,m0,lk,hs];exact⟨_,_,⟨rfl,rfl⟩,bad _ _ _ (by simp) kck2 kp2 (by simp[cC,h1,k1,m0,hs])⟩
   have nd:=fun st:St=>yL (c:=c) (st:=st) an (N:=N) (by omega)
   cases hn:named an with
   |false =>right;simp[i5,i8,i17,i18,i19,e3,ix,ld,aJ,dM,aI cy bU,hce,u1,au u2,g0,g1,g2,g3,nm,h1,k1,m0,lk,hs,nd,hn];exact⟨_,_,⟨rfl,rfl⟩,bad _ _ _ (by simp) kck2 kp2 (by simp[cC,h1,k1,m0,hs,hn])⟩
   |true =>
    obtain⟨s3,v1,v2,v3,v4⟩:=mp2.set gW an (.b true);have hne:s.next∉[sr]:=by simp;have:=A.srl;omega
    have hcs:cr∉[sr]:=by simp;omega
    have hms:mr∉[sr]:=by simp;omega
    have kck3:=kck2.keep v3 hcs hms (by simp);have kp3:=dz kp2 v3 (by simp;omega) (by simp);have u2':=v3.ce u2 u4 u4 hne (by simp);have lt3:s.next<s3.next:=by rw[v4];exact u4
    obtain⟨al3,hc3⟩:=kck3.ce;have lk3:=kck3.mp.uu xe an;have sm3:=wX seen an;rw[sm3]at v2;cases hCn:C an with
    |none =>
     rw[hCn]at lk3;obtain⟨s4,x1,x2,x3,x4⟩:=cO (s:=s3) (z:=gP) (cells:=gP) rfl rfl;have kck4:=kck3.keep x3 (by simp) (by simp) (by simp);obtain⟨s5,w5,y1,y2,y3,y4⟩:=mj (c:=c) true kck4 (e:=9) (by right;right;left;rfl) (by decide) (N:=N) (by omega);have z35:gP.length=4:=rfl;have w5n:w5≠0:=fun h=>by have:=(y4.1 h).2;cases this
     left;simp[i5,i8,i17,i18,i19,e3,ix,ld,aJ,dM,aI cy bU,hce,u1,au u2,g0,g1,g2,g3,nm,h1,k1,m0,lk,hs,nd,hn,v1,br];rw[dj (by kernel_rfl)];have lk3':lookup prog 78 s3 (.m mr) (.s an) true=some (.tu [.ag gP,.b false]):=lk3;simp[i0,i19,au hc3,au u2',g1,lk3',aJ,dW,aI dx dq,z35,x1,y1,e4];refine⟨_,_,⟨rfl,rfl⟩,by simp[i0],by simp[i1],by simp[i8],by simp[i17],by simp[i18,hH],by simp,ak,typ,sm,seen++[an],w5,by simp[k1],by simp[i6],by simp[i7],y2,(v2.keep x3 (by rw[v4];exact Q0 A.srl u3.next) (by simp)).keep y3 (Q0 (show sr<s3.next by rw[v4];exact Q0 A.srl u3.next) x3.next) (by simp;omega),Q0 (Q0 (show sr<s3.next by rw[v4];exact Q0 A.srl u3.next) x3.next) y3.next,(kp3.trans (x3.sub (by simp) (by simp))).trans y3,?_⟩;have gf:cC C (l.bN.take i) (⟨ak,an,am,avs⟩::l.bN.drop (i+1)) ak typ sm seen=false:=by simp[cC,h1,k1,m0,hs,hn,hCn]
     rw[gf]at hgo;refine⟨fun h=>absurd h.1 w5n,fun h=>?_⟩;have:=(hgo.2 h).2;cases this
    |some cv =>
     obtain⟨cn,car,cty,ctag,hcv⟩:=hC _ _ hCn;rw[hCn,hcv]at lk3;obtain⟨s4,x1,x2,x3,x4⟩:=cO (s:=s3) (z:=gP) (cells:=[.s cn,.i .i64 car,.s cty,.i .i64 ctag]) rfl rfl;have kck4:=kck3.keep x3 (by simp) (by simp) (by simp);have u4':=x3.ce u2' lt3 lt3 (by simp) (by simp);obtain⟨s5,w5,y1,y2,y3,y4⟩:=mj (c:=c) (!decide (car=(avs.length:Int))) kck4 (e:=9) (by right;right;left;rfl) (by decide) (N:=N) (by omega);have ncr:s3.next∉[cr]:=by simp;have:=kck3.crl;omega
     have x2':=y3.ce x2 x4 x4 ncr ncr;have lk3':lookup prog 78 s3 (.m mr) (.s an) true=some (.tu [.ag [.s cn,.i .i64 car,.s cty,.i .i64 ctag],.b true]):=lk3;have ckF:Ck s5 cr mr w5 C:=y2;have kpF:Kp [cr] [cr] st s5:=(kp3.trans (x3.sub (by simp) (by simp))).trans y3;have mpF:cS s5 sr (iD (seen++[an])):=(v2.keep x3 (by rw[v4];exact Q0 A.srl u3.next) (by simp)).keep y3 (Q0 (show sr<s3.next by rw[v4];exact Q0 A.srl u3.next) x3.next) (by simp;omega);have srF:sr<s5.next:=Q0 (Q0 (show sr<s3.next by rw[v4];exact Q0 A.srl u3.next) x3.next) y3.next;by_cases ht:sm=true/\cty≠typ
     case pos =>obtain⟨t1,t2⟩:=ht;right;simp[i5,i8,i17,i18,i19,e3,ix,ld,aJ,dM,aI cy bU,hce,u1,au u2,g0,g1,g2,g3,nm,h1,k1,m0,lk,hs,nd,hn,v1,br];rw[dj (by kernel_rfl)];simp[i0,i6,i7,au hc3,au u2',au u4',au x2,au x2',g1,g3,vl,lk3',aJ,dW,aI dx dq,x1,y1,jJ,t1,t2];exact⟨_,_,⟨rfl,rfl⟩,bad _ _ _ (by simp) ckF kpF (by simp[cC,h1,k1,m0,hs,hn,hCn,hcv,yT,Ar,t1,t2])⟩
     case neg =>
      have hgo':(w1=0/\(car=(avs.length:Int)/\cC C (l.bN.take i++[⟨ak,an,am,avs⟩]) (l.bN.drop (i+1)) ak cty true (seen++[an])=true))↔(w=0/\cC C [] l.bN 0 [] false []=true):=by
       rw[<-hgo];have ht':(!sm||decide (cty=typ))=true:=by
        cases sm with
        |false=>rfl
        |true =>
         have:cty=typ:=Classical.byContradiction fun h=>ht ⟨rfl,h⟩
         simp[this]
       simp[cC,h1,k1,m0,hs,hn,hCn,hcv,od,yT,Ar];intro _;simp only[J5,J6,decide_eq_true_eq]at ht'|-;constructor
       ·rintro⟨a1,a2⟩;exact⟨decide_eq_true a1,ht'.imp id decide_eq_true,a2⟩
       ·rintro⟨a1,-,a2⟩;exact⟨of_decide_eq_true a1,a2⟩
      left;cases sm with
      |false =>simp[i5,i8,i17,i18,i19,e3,ix,ld,aJ,dM,aI cy bU,hce,u1,au u2,g0,g1,g2,g3,nm,h1,k1,m0,lk,hs,nd,hn,v1,br];rw[dj (by kernel_rfl)];simp[i0,i7,i19,au hc3,au u2',au u4',au x2,au x2',g1,g3,vl,lk3',aJ,dW,aI dx dq,x1,y1,e4];refine⟨_,_,⟨rfl,rfl⟩,by simp[i0],by simp[i1],by simp[i8],by simp[i17],by simp[i18,hH],by simp,ak,cty,true,seen++[an],w5,by simp[k1],by simp,by simp,ckF,mpF,srF,kpF,?_⟩;rw[htake,<-hgo',y4];simp[and_assoc]
      |true =>
       have ht2:cty=typ:=Classical.byContradiction fun h=>ht ⟨rfl,h⟩
       subst ht2;simp[i5,i8,i17,i18,i19,e3,ix,ld,aJ,dM,aI cy bU,hce,u1,au u2,g0,g1,g2,g3,nm,h1,k1,m0,lk,hs,nd,hn,v1,br];rw[dj (by kernel_rfl)];simp[i0,i6,i7,i19,au hc3,au u2',au u4',au x2,au x2',g1,g3,vl,lk3',aJ,dW,aI dx dq,x1,y1,jJ,e4];refine⟨_,_,⟨rfl,rfl⟩,by simp[i0],by simp[i1],by simp[i8],by simp[i17],by simp[i18,hH],by simp,ak,cty,true,seen++[an],w5,by simp[k1],by simp,by simp,ckF,mpF,srF,kpF,?_⟩;rw[htake,<-hgo',y4];simp[and_assoc])
  (by rintro t s ⟨i0,i1,i8,i17,i18,i19,kind,typ,sm,seen,w1,i5,i6,i7,A⟩;clear hL;rw[hH,ae.aC]at i18;simp[i18,i19];refine⟨_,_,⟨rfl,rfl⟩,by simp[i0],by simp[i1],w1,A.ck,A.kp,?_⟩;have hgo:=A.go;rw[Q7 (by rw[hH,ae.aC];exact Nat.le_refl _)]at hgo;simpa[cC]using hgo)
 clear hL;rcases lr with ⟨t1,s1,rfl,p0,p1,w',pC,pK,pG⟩|⟨t1,s1,rfl,q4,w',qC,qK,qG⟩
 ·refine⟨decide (0<l.len),s1,w',?_,pC,pK,?_⟩
  ·simp[p1,ln,aG,aF]
  ·unfold mN;have:(!l.bN.isEmpty)=decide (0<l.len):=by
    rw[<-hH];cases l.bN<;>simp
   rw[this,Q2,pG];constructor
   ·rintro⟨h1,h2,h3⟩;exact⟨h2,h1,h3⟩
   ·rintro⟨h1,h2,h3⟩;exact⟨h2,h1,h3⟩
 ·refine⟨false,s1,w',?_,qC,qK,?_⟩
  ·simp[q4,aG,aF]
  ·simp only[Bool.false_eq_true,false_and,false_iff];rintro⟨h1,h2⟩;unfold mN at h2;rw[Q2]at h2;exact qG ⟨h1,h2.2⟩
noncomputable def aq:Code->Code
 |.seq a _=>a
 |x=>x
noncomputable def aj:Code->Code
 |.seq _ b=>b
 |x=>x
noncomputable def cW:Code:=f37.body.getD .skip
noncomputable def dO:Code:=aj (aq (aj (aj cW)))
noncomputable def Hs:Code:=aj (aj (aj cW))
def dG(C:ah->Option AV)(sc:List (List ah))(k:Int)(nm:ah)(num:Int)(ps:List ah)(b a l:ae):Bool :=
 if k=1 then eH [110] nm num ps.length b.len a.len l.len&&(named nm&&hasB sc nm)
 else if k=2 then eH [105] nm num ps.length b.len a.len l.len
 else if k=3 then eH [105] nm num ps.length b.len a.len l.len&&(decide (0<=num)&&decide (num<=255))
 else if k=4 then eH [110,97] nm num ps.length b.len a.len l.len&&(named nm&&match C nm with|none=>false|some v=>decide (od v=(a.len:Int)))
 else if k=5 then eH [112,97] nm num ps.length b.len a.len l.len&&(decide (1<=ps.length)&&(decide (ps.length<=32)&&(eS ps&&decide (a.len=1))))
 else if k=6 then eH [97] nm num ps.length b.len a.len l.len&&(decide (2<=a.len)&&decide (a.len<=33))
 else if k=7 then eH [98,97] nm num ps.length b.len a.len l.len&&(decide (1<=b.len)&&(eS b.names&&decide (a.len=1)))
 else if k=8 then eH [97,99] nm num ps.length b.len a.len l.len&&(decide (a.len=1)&&mN C l.bN)
 else if k=9 then eH [110,97] nm num ps.length b.len a.len l.len&&(named nm&&decide (DR nm=(a.len:Int)))
 else false
def dS(k:Int)(ps:List ah)(b:ae)(sc:List (List ah)):List (List ah):=if k=5 then ps::sc else if k=7 then b.names::sc else sc
theorem Yx:bm prog 77=some [.sn,.pn]:=by kernel_rfl
theorem Tf:fu prog 77=true:=by kernel_rfl
theorem ZB:∃ fs,prog.underlying 77=some (.struct fs)/\gM prog fs 0=some (0,1)/\gM prog fs 1=some (1,1):=⟨_,underlying77,by kernel_rfl,by kernel_rfl⟩
theorem wy{S:Self}{x y:Operand}{f:AV}(hx:ai t x=v)(hy:ai t y=f)(hv:v.cells=some [v])(hf:f.cells=some [f]):bH (.build 77 #[(0,x),(1,y)]) prog S t st=some (.ag [v,f],st):=by
 obtain⟨fs,h1,h2,h3⟩:=ZB;show @Bool.rec (fun _=>aR) none (df prog 77 [(0,ai t x),(1,ai t y)] st) (fu prog 77)=_
 rw[Tf,hx,hy];show df prog 77 [(0,v),(1,f)] st=_
 unfold df;rw[h1];simp only[Yx,jg,fill,h2,h3,hv,hf];rfl
theorem qD{l:List AV}(h:de v l):v.cells=some [v]:=by rcases h with ⟨rfl,-⟩|rfl<;>simp
theorem Ph{l:List AV}(h:de v l):bS v=true:=by rcases h with ⟨rfl,-⟩|rfl<;>rfl
def jj(st:St)(cr:Nat)(fr:AV)(sc:List (List ah)):Prop:=(fr.cells=some [fr]/\bS fr=true)/\∃ w,gF [cr] st fr w/\Dz sc w
theorem jj.keep{cr:Nat}{fr:AV}{sc:List (List ah)}{st':St}(h:jj st cr fr sc)(k:Kp [cr] [cr] st st'):jj st' cr fr sc:=by obtain⟨h1,w,h2,h3⟩:=h;exact⟨h1,w,h2.keep k (by simp) (by simp),h3⟩
theorem jj.new{l:List ah}(h:jj st cr fr sc)(hv:de v (l.map .s))(hl:l.length<=9223372036854775807)(hcr:cr<st.next):jj (st.aw [v,fr]) cr (.p st.next 0) (l::sc):=by
 obtain⟨h1,w,h2,h3⟩:=h;have hn:st.next∉[cr]:=by grind
 refine⟨⟨by simp,rfl⟩,.rp [v,w],.ptr (cz _) (Q6 _) (Q6 _) hn hn (.cons (.pure (hv.pure (jD l))) (.cons (h2.keep (.aw [] [] _) (by simp) (by simp)) .nil)),v,w,rfl,⟨hv,hl⟩,h3⟩
structure SC(st s:St)(t:Tr AV)(cr mr:Nat)(w:Int)(C:ah->Option AV)(sc:List (List ah))(e fr:AV)(ok:Bool)(cX:List (List ah)):Prop where
 t0:ab t 0=.p cr 0
 t1:ab t 1=e
 t2:ab t 2=fr
 fr:jj s cr (ab t 6) cX
 rest:∃ fine w',ab t 7=.b fine/\Ck s cr mr w' C/\Kp [cr] [cr] st s/\((w'=0/\fine=true)↔(w=0/\ok=true))
def qc(o:Out)(st:St)(cr mr:Nat)(w:Int)(C:ah->Option AV)(sc:List (List ah))(e fr:AV)(ok:Bool)(cX:List (List ah)):Prop:=∃ t s,o=.nx t s/\SC st s t cr mr w C sc e fr ok cX
theorem Sf(k:Int)(nm:ah)(num:Int)(ps:AV)(b a l:ae)(hT:(Ex.mk k nm num ps b a l).Ty)(hs:(Ex.mk k nm num ps b a l).size<=1000000)(r:List AV)(hr:aQ r=true)(hC:zt C)(hk:Ck st cr mr w C)(hf:jj st cr fr sc)(hN:sc.length+10000000000000000020<=N)(h0:ab t 0=.p cr 0)(h1:ab t 1=.rp ((Ex.mk k nm num ps b a l).cells++r))(h2:ab t 2=fr)(h6:ab t 6=fr)(h7:ab t 7=.b false)(h18:ab t 18=.i .i64 k):
  qc (ao dO ⟨prog,Tw c N,false,f37.ntmps,N⟩ t st) st cr mr w C sc (.rp ((Ex.mk k nm num ps b a l).cells++r)) fr (dG C sc k nm num (ba ps) b a l) (dS k (ba ps) b sc):=by
 have hT':=hT;simp only[Ex.Ty]at hT;obtain⟨-,hps,hTb,hTa,hTl⟩:=hT;obtain⟨hp,hpl⟩:=hps.sl;have hsz:(Ex.mk k nm num ps b a l).size=1+b.size+a.size+l.size:=by simp only[Ex.size]
 have hbl:=b.bZ;have hal:=a.bZ;have hll:=l.bZ;have hpu:aQ ((Ex.mk k nm num ps b a l).cells++r)=true:=by rw[uP,Ex.nX hT',hr];rfl
 have lp:=fun st:St=>hp.sLen (st:=st) gz
 have lb:=fun st:St=>aY (st:=st) underlying23 (b.bK 8) (b.bJ 8)
 have la:=fun st:St=>aY (st:=st) underlying32 (a.bK 7) (a.bJ 7)
 have ll:=fun st:St=>aY (st:=st) underlying33 (l.bK 11) (l.bJ 11)
 obtain⟨al,hc⟩:=hk.ce;have e1:wH 8:=by right;left;rfl
 have e2:wH 9:=by right;right;left;rfl
 have nmd:=fun st:St=>yL (c:=c) (st:=st) nm (N:=N) (by omega)
 have cutK:∀ (j:Nat) (v:AV),(Ex.mk k nm num ps b a l).cells[j]? = some v->loadAt prog 3 st (.rp (((Ex.mk k nm num ps b a l).cells++r).drop j))=some v\/True:=fun _ _ _=>.inr trivial
 generalize hpx:ba ps=px at *;by_cases k1:k=1
 case pos =>
  subst k1;have on:=fun st:St=>ZX (c:=c) (st:=st) 1 nm num hp b a l r (N:=N) (by omega) hpu
  simp only[Ex.cells,Q3,Q1]at on;unfold qc;obtain⟨f1,fw,f2,f3⟩:=id hf;have hs:=Rv (c:=c) nm f2 f3 (N:=N) (by omega);cases ho:eH [110] nm num px.length b.len a.len l.len with
  |false =>rw[ho]at on;obtain⟨s1,w1,y1,y2,y3,y4⟩:=mj (c:=c) false hk e1 (by decide) (N:=N) (by omega);simp[dO,cW,aq,aj,f37,h0,h1,h18,Ex.cells,on,y1];refine⟨_,_,⟨rfl,rfl⟩,by simp[h0],by simp[h1,Ex.cells],by simp[h2],by simpa[dS,h6] using(hf.keep y3),false,w1,by simp,y2,y3,?_⟩;simp[dG,ho]
  |true =>
   rw[ho]at on;cases hn:named nm with
   |false =>obtain⟨s1,w1,y1,y2,y3,y4⟩:=mj (c:=c) false hk e1 (by decide) (N:=N) (by omega);simp[dO,cW,aq,aj,f37,h0,h1,h18,Ex.cells,nmd,on,hn,y1];refine⟨_,_,⟨rfl,rfl⟩,by simp[h0],by simp[h1,Ex.cells],by simp[h2],by simpa[dS,h6] using(hf.keep y3),false,w1,by simp,y2,y3,?_⟩;simp[dG,ho,hn]
   |true =>obtain⟨s1,w1,y1,y2,y3,y4⟩:=mj (c:=c) (!hasB sc nm) hk e1 (by decide) (N:=N) (by omega);simp[dO,cW,aq,aj,f37,h0,h1,h2,h18,Ex.cells,nmd,on,hn,hs,y1];refine⟨_,_,⟨rfl,rfl⟩,by simp[h0],by simp[h1,Ex.cells],by simp[h2],by simpa[dS,h6] using(hf.keep y3),true,w1,by simp,y2,y3,?_⟩;rw[y4];simp[dG,ho,hn]
 by_cases k2:k=2
 case pos =>
  subst k2;have on:=fun st:St=>JR (c:=c) (st:=st) 2 nm num hp b a l r (N:=N) (by omega) hpu
  simp only[Ex.cells,Q3,Q1]at on;unfold qc;simp[dO,cW,aq,aj,f37,h1,h18,Ex.cells,on];refine⟨_,_,⟨rfl,rfl⟩,by simp[h0],by simp[h1,Ex.cells],by simp[h2],by simpa[dS,h6]using hf,eH [105] nm num px.length b.len a.len l.len,w,by simp,hk,.refl _ _ _,?_⟩;simp[dG]
 by_cases k3:k=3
 case pos =>
  subst k3;have on:=fun st:St=>JR (c:=c) (st:=st) 3 nm num hp b a l r (N:=N) (by omega) hpu
  simp only[Ex.cells,Q3,Q1]at on;unfold qc;cases ho:eH [105] nm num px.length b.len a.len l.len with
  |false =>rw[ho]at on;simp[dO,cW,aq,aj,f37,h1,h18,Ex.cells,on];refine⟨_,_,⟨rfl,rfl⟩,by simp[h0],by simp[h1,Ex.cells],by simp[h2],by simpa[dS,h6]using hf,false,w,by simp,hk,.refl _ _ _,?_⟩;simp[dG,ho]
  |true =>
   rw[ho]at on;by_cases n0:0<=num
   case neg =>simp[dO,cW,aq,aj,f37,h1,h18,Ex.cells,on,n0];refine⟨_,_,⟨rfl,rfl⟩,by simp[h0],by simp[h1,Ex.cells],by simp[h2],by simpa[dS,h6]using hf,false,w,by simp,hk,.refl _ _ _,?_⟩;simp[dG,ho,n0]
   simp[dO,cW,aq,aj,f37,h1,h18,Ex.cells,on,n0];refine⟨_,_,⟨rfl,rfl⟩,by simp[h0],by simp[h1,Ex.cells],by simp[h2],by simpa[dS,h6]using hf,decide (num<=255),w,by simp,hk,.refl _ _ _,?_⟩;simp[dG,ho,n0]
 by_cases k4:k=4
 case pos =>
  subst k4;have on:=fun st:St=>JN (c:=c) (st:=st) 4 nm num hp b a l r (N:=N) (by omega) hpu
  simp only[Ex.cells,Q3,Q1]at on;unfold qc;cases ho:eH [110,97] nm num px.length b.len a.len l.len with
  |false =>
   rw[ho]at on;cases hCn:C nm with
   |none =>have lk:=hk.mp.uu xe nm;rw[hCn]at lk;have lk':lookup prog 78 st (.m mr) (.s nm) true=some (.tu [.ag gP,.b false]):=lk;obtain⟨s0,x1,x2,x3,x4⟩:=cO (s:=st) (z:=gP) (cells:=gP) rfl rfl;have z35:gP.length=4:=rfl;have k0:=hk.keep x3 (by simp) (by simp) (by simp);obtain⟨s1,w1,y1,y2,y3,y4⟩:=mj (c:=c) true k0 e2 (by decide) (N:=N) (by omega);simp[dO,cW,aq,aj,f37,h1,h18,Ex.cells,on,br];rw[dj (by kernel_rfl)];simp[h0,h1,Ex.cells,au hc,lk',aJ,dW,aI dx dq,z35,x1,br];rw[dj (by kernel_rfl)];simp[h0,y1];refine⟨_,_,⟨rfl,rfl⟩,by simp[h0],by simp[h1,Ex.cells],by simp[h2],by simpa[dS,h6] using((hf.keep (x3.sub (by simp) (by simp))).keep y3),false,w1,by simp,y2,((x3.sub (by simp) (by simp)).trans y3),?_⟩;simp[dG,hCn,y4]
   |some cv =>
    obtain⟨cn,car,cty,ctag,hcv⟩:=hC _ _ hCn;have lk:=hk.mp.uu xe nm;rw[hCn,hcv]at lk;have lk':lookup prog 78 st (.m mr) (.s nm) true=some (.tu [.ag [.s cn,.i .i64 car,.s cty,.i .i64 ctag],.b true]):=lk;obtain⟨s0,x1,x2,x3,x4⟩:=cO (s:=st) (z:=gP) (cells:=[.s cn,.i .i64 car,.s cty,.i .i64 ctag]) rfl rfl;have k0:=hk.keep x3 (by simp) (by simp) (by simp);obtain⟨s1,w1,y1,y2,y3,y4⟩:=mj (c:=c) (!decide (car=(a.len:Int))) k0 e2 (by decide) (N:=N) (by omega);simp[dO,cW,aq,aj,f37,h1,h18,Ex.cells,on,br];rw[dj (by kernel_rfl)];simp[h0,h1,Ex.cells,au hc,lk',aJ,dW,aI dx dq,x1,br];rw[dj (by kernel_rfl)];simp[h0,h1,Ex.cells,la,au x2,y1];refine⟨_,_,⟨rfl,rfl⟩,by simp[h0],by simp[h1,Ex.cells],by simp[h2],by simpa[dS,h6] using((hf.keep (x3.sub (by simp) (by simp))).keep y3),false,w1,by simp,y2,((x3.sub (by simp) (by simp)).trans y3),?_⟩;have e:dG C sc 4 nm num px b a l=(eH [110,97] nm num px.length b.len a.len l.len&&(named nm&&decide (car=(a.len:Int)))):=by simp[dG,hCn,hcv];intros;rfl
    rw[e,y4];simp[ho];try exact⟨fun⟨⟨q1,q2⟩,q3⟩=>⟨q1,q3,q2⟩,fun⟨q1,q3,q2⟩=>⟨⟨q1,q2⟩,q3⟩⟩
  |true =>
   rw[ho]at on;cases hCn:C nm with
   |none =>have lk:=hk.mp.uu xe nm;rw[hCn]at lk;have lk':lookup prog 78 st (.m mr) (.s nm) true=some (.tu [.ag gP,.b false]):=lk;obtain⟨s0,x1,x2,x3,x4⟩:=cO (s:=st) (z:=gP) (cells:=gP) rfl rfl;have z35:gP.length=4:=rfl;have k0:=hk.keep x3 (by simp) (by simp) (by simp);obtain⟨s1,w1,y1,y2,y3,y4⟩:=mj (c:=c) true k0 e2 (by decide) (N:=N) (by omega);simp[dO,cW,aq,aj,f37,h1,h18,Ex.cells,nmd,on,br];rw[dj (by kernel_rfl)];simp[h0,h1,Ex.cells,au hc,lk',aJ,dW,aI dx dq,z35,x1,br];rw[dj (by kernel_rfl)];simp[h0,y1];refine⟨_,_,⟨rfl,rfl⟩,by simp[h0],by simp[h1,Ex.cells],by simp[h2],by simpa[dS,h6] using((hf.keep (x3.sub (by simp) (by simp))).keep y3),named nm,w1,by simp,y2,((x3.sub (by simp) (by simp)).trans y3),?_⟩;simp[dG,hCn,y4]
   |some cv =>
    obtain⟨cn,car,cty,ctag,hcv⟩:=hC _ _ hCn;have lk:=hk.mp.uu xe nm;rw[hCn,hcv]at lk;have lk':lookup prog 78 st (.m mr) (.s nm) true=some (.tu [.ag [.s cn,.i .i64 car,.s cty,.i .i64 ctag],.b true]):=lk;obtain⟨s0,x1,x2,x3,x4⟩:=cO (s:=st) (z:=gP) (cells:=[.s cn,.i .i64 car,.s cty,.i .i64 ctag]) rfl rfl;have k0:=hk.keep x3 (by simp) (by simp) (by simp);obtain⟨s1,w1,y1,y2,y3,y4⟩:=mj (c:=c) (!decide (car=(a.len:Int))) k0 e2 (by decide) (N:=N) (by omega);simp[dO,cW,aq,aj,f37,h1,h18,Ex.cells,nmd,on,br];rw[dj (by kernel_rfl)];simp[h0,h1,Ex.cells,au hc,lk',aJ,dW,aI dx dq,x1,br];rw[dj (by kernel_rfl)];simp[h0,h1,Ex.cells,la,au x2,y1];refine⟨_,_,⟨rfl,rfl⟩,by simp[h0],by simp[h1,Ex.cells],by simp[h2],by simpa[dS,h6] using((hf.keep (x3.sub (by simp) (by simp))).keep y3),named nm,w1,by simp,y2,((x3.sub (by simp) (by simp)).trans y3),?_⟩;have e:dG C sc 4 nm num px b a l=(eH [110,97] nm num px.length b.len a.len l.len&&(named nm&&decide (car=(a.len:Int)))):=by simp[dG,hCn,hcv];intros;rfl
    rw[e,y4];simp[ho];try exact⟨fun⟨⟨q1,q2⟩,q3⟩=>⟨q1,q3,q2⟩,fun⟨q1,q3,q2⟩=>⟨⟨q1,q2⟩,q3⟩⟩
 by_cases k5:k=5
 case pos =>
  subst k5;have on:=fun st:St=>acL (c:=c) (st:=st) 5 nm num hp b a l r (N:=N) (by omega) hpu
  simp only[Ex.cells,Q3,Q1]at on;unfold qc;have bo:=fun(t:Tr AV) (q1:ai t (.tmp 139)=ps) (q2:ai t (.tmp 140)=fr)=>wy (st:=st) (S:=Tw c N) (t:=t) q1 q2 (qD hp) hf.1.1
  have nf:=hf.new hp hpl hk.crl;have kn:=Kp.aw (st:=st) [cr] [cr] [ps,fr];have nk:=hk.keep (Kp.aw (st:=st) [] [] [ps,fr]) (by simp) (by simp) (by simp);have nms:=fun st:St=>CR (c:=c) (st:=st) hp hpl (N:=N) (by omega)
  cases ho:eH [112,97] nm num px.length b.len a.len l.len with
  |false =>rw[ho]at on;simp[dO,cW,aq,aj,f37,h1,h2,h18,Ex.cells,on,bo];refine⟨_,_,⟨rfl,rfl⟩,by simp[h0],by simp[h1,Ex.cells],by simp[h2],by simpa[dS,h6]using nf,false,w,by simp,nk,kn,?_⟩;simp[dG,ho]
  |true =>
   rw[ho]at on;by_cases n1:1<=px.length
   case neg =>
    have n1':¬ (1:Int)<=(px.length:Int):=by omega
    simp[dO,cW,aq,aj,f37,h1,h2,h18,Ex.cells,lp,on,n1',bo];refine⟨_,_,⟨rfl,rfl⟩,by simp[h0],by simp[h1,Ex.cells],by simp[h2],by simpa[dS,h6]using nf,false,w,by simp,nk,kn,?_⟩;simp[dG,ho,n1]
   have n1':(1:Int)<=(px.length:Int):=by omega
   by_cases n2:px.length<=32
   case neg =>
    have n2':¬ (px.length:Int)<=32:=by omega
    simp[dO,cW,aq,aj,f37,h1,h2,h18,Ex.cells,lp,on,n1',n2',bo];refine⟨_,_,⟨rfl,rfl⟩,by simp[h0],by simp[h1,Ex.cells],by simp[h2],by simpa[dS,h6]using nf,false,w,by simp,nk,kn,?_⟩;simp[dG,ho,n1,n2]
   have n2':(px.length:Int)<=32:=by omega
   cases nn:eS px with
   |false =>simp[dO,cW,aq,aj,f37,h1,h2,h18,Ex.cells,lp,on,n1',n2',nms,nn,bo];refine⟨_,_,⟨rfl,rfl⟩,by simp[h0],by simp[h1,Ex.cells],by simp[h2],by simpa[dS,h6]using nf,false,w,by simp,nk,kn,?_⟩;simp[dG,ho,n1,n2,nn]
   |true =>
    have na:decide ((a.len:Int)=1)=decide (a.len=1):=by rw[decide_eq_decide];omega
    simp[dO,cW,aq,aj,f37,h1,h2,h18,Ex.cells,lp,la,on,n1',n2',nms,nn,bo];refine⟨_,_,⟨rfl,rfl⟩,by simp[h0],by simp[h1,Ex.cells],by simp[h2],by simpa[dS,h6]using nf,decide (a.len=1),w,by simp[na],nk,kn,?_⟩;simp[dG,ho,n1,n2,nn]
 by_cases k6:k=6
 case pos =>
  subst k6;have on:=fun st:St=>Wu (c:=c) (st:=st) 6 nm num hp b a l r (N:=N) (by omega) hpu
  simp only[Ex.cells,Q3,Q1]at on;unfold qc;cases ho:eH [97] nm num px.length b.len a.len l.len with
  |false =>rw[ho]at on;simp[dO,cW,aq,aj,f37,h1,h18,Ex.cells,on];refine⟨_,_,⟨rfl,rfl⟩,by simp[h0],by simp[h1,Ex.cells],by simp[h2],by simpa[dS,h6]using hf,false,w,by simp,hk,.refl _ _ _,?_⟩;simp[dG,ho]
  |true =>
   rw[ho]at on;by_cases n1:2<=a.len
   case neg =>
    have n1':¬ (2:Int)<=(a.len:Int):=by omega
    simp[dO,cW,aq,aj,f37,h1,h18,Ex.cells,la,on,n1'];refine⟨_,_,⟨rfl,rfl⟩,by simp[h0],by simp[h1,Ex.cells],by simp[h2],by simpa[dS,h6]using hf,false,w,by simp,hk,.refl _ _ _,?_⟩;simp[dG,ho,n1]
   have n1':(2:Int)<=(a.len:Int):=by omega
   have na:decide ((a.len:Int)<=33)=decide (a.len<=33):=by rw[decide_eq_decide];omega
   simp[dO,cW,aq,aj,f37,h1,h18,Ex.cells,la,on,n1'];refine⟨_,_,⟨rfl,rfl⟩,by simp[h0],by simp[h1,Ex.cells],by simp[h2],by simpa[dS,h6]using hf,decide (a.len<=33),w,by simp[na],hk,.refl _ _ _,?_⟩;simp[dG,ho,n1]
 by_cases k7:k=7
 case pos =>
  subst k7;have on:=fun st:St=>Vr (c:=c) (st:=st) 7 nm num hp b a l r (N:=N) (by omega) hpu
  simp only[Ex.cells,Q3,Q1]at on;unfold qc;obtain⟨wb,wb1,wb2⟩:=Gp (c:=c) (st:=st) hTb (by omega) (N:=N) (by omega);have wln:=fun st:St=>wb2.sLen (st:=st) gz
  rw[eW]at wln;have wll:b.names.length<=9223372036854775807:=by rw[eW];omega
  have bo:=fun(t:Tr AV) (q1:ai t (.tmp 189)=wb) (q2:ai t (.tmp 190)=fr)=>wy (st:=st) (S:=Tw c N) (t:=t) q1 q2 (qD wb2) hf.1.1
  have nf:=hf.new wb2 wll hk.crl;have kn:=Kp.aw (st:=st) [cr] [cr] [wb,fr];have nk:=hk.keep (Kp.aw (st:=st) [] [] [wb,fr]) (by simp) (by simp) (by simp);have nms:=fun st:St=>CR (c:=c) (st:=st) wb2 wll (N:=N) (by omega)
  cases ho:eH [98,97] nm num px.length b.len a.len l.len with
  |false =>rw[ho]at on;simp[dO,cW,aq,aj,f37,h1,h2,h18,Ex.cells,wb1,on,bo];refine⟨_,_,⟨rfl,rfl⟩,by simp[h0],by simp[h1,Ex.cells],by simp[h2],by simpa[dS,h6]using nf,false,w,by simp,nk,kn,?_⟩;simp[dG,ho]
  |true =>
   rw[ho]at on;by_cases n1:1<=b.len
   case neg =>
    have n1':¬ (1:Int)<=(b.len:Int):=by omega
    simp[dO,cW,aq,aj,f37,h1,h2,h18,Ex.cells,wb1,wln,on,n1',bo];refine⟨_,_,⟨rfl,rfl⟩,by simp[h0],by simp[h1,Ex.cells],by simp[h2],by simpa[dS,h6]using nf,false,w,by simp,nk,kn,?_⟩;simp[dG,ho,n1]
   have n1':(1:Int)<=(b.len:Int):=by omega
   cases nn:eS b.names with
   |false =>simp[dO,cW,aq,aj,f37,h1,h2,h18,Ex.cells,wb1,wln,on,n1',nms,nn,bo];refine⟨_,_,⟨rfl,rfl⟩,by simp[h0],by simp[h1,Ex.cells],by simp[h2],by simpa[dS,h6]using nf,false,w,by simp,nk,kn,?_⟩;simp[dG,ho,n1,nn]
   |true =>
    have na:decide ((a.len:Int)=1)=decide (a.len=1):=by rw[decide_eq_decide];omega
    simp[dO,cW,aq,aj,f37,h1,h2,h18,Ex.cells,la,wb1,wln,on,n1',nms,nn,bo];refine⟨_,_,⟨rfl,rfl⟩,by simp[h0],by simp[h1,Ex.cells],by simp[h2],by simpa[dS,h6]using nf,decide (a.len=1),w,by simp[na],nk,kn,?_⟩;simp[dG,ho,n1,nn]
 by_cases k8:k=8
 case pos =>
  subst k8;have on:=fun st:St=>abf (c:=c) (st:=st) 8 nm num hp b a l r (N:=N) (by omega) hpu
  simp only[Ex.cells,Q3,Q1]at on;unfold qc;cases ho:eH [97,99] nm num px.length b.len a.len l.len with
  |false =>rw[ho]at on;simp[dO,cW,aq,aj,f37,h1,h18,Ex.cells,on];refine⟨_,_,⟨rfl,rfl⟩,by simp[h0],by simp[h1,Ex.cells],by simp[h2],by simpa[dS,h6]using hf,false,w,by simp,hk,.refl _ _ _,?_⟩;simp[dG,ho]
  |true =>
   rw[ho]at on;by_cases n1:a.len=1
   case neg =>
    have n1':¬ (a.len:Int)=1:=by omega
    simp[dO,cW,aq,aj,f37,h1,h18,Ex.cells,la,on,n1'];refine⟨_,_,⟨rfl,rfl⟩,by simp[h0],by simp[h1,Ex.cells],by simp[h2],by simpa[dS,h6]using hf,false,w,by simp,hk,.refl _ _ _,?_⟩;simp[dG,ho,n1]
   have n1':(a.len:Int)=1:=by omega
   obtain⟨bb,s1,w1,y1,y2,y3,y4⟩:=Yt (c:=c) hTl (by omega) hC hk (N:=N) (by omega);simp[dO,cW,aq,aj,f37,h0,h1,h18,Ex.cells,la,on,n1',y1];refine⟨_,_,⟨rfl,rfl⟩,by simp[h0],by simp[h1,Ex.cells],by simp[h2],by simpa[dS,h6] using(hf.keep y3),bb,w1,by simp,y2,y3,?_⟩;rw[n1]at ho;rw[and_comm,y4];simp[dG,ho,n1]
 by_cases k9:k=9
 case pos =>
  subst k9;have on:=fun st:St=>JN (c:=c) (st:=st) 9 nm num hp b a l r (N:=N) (by omega) hpu
  simp only[Ex.cells,Q3,Q1]at on;unfold qc;have arc:=fun st:St=>Vi (c:=c) (st:=st) nm (N:=N) (by omega)
  cases ho:eH [110,97] nm num px.length b.len a.len l.len with
  |false =>
   rw[ho]at on;obtain⟨s1,w1,y1,y2,y3,y4⟩:=mj (c:=c) (!decide (DR nm=(a.len:Int))) hk e2 (by decide) (N:=N) (by omega);simp[dO,cW,aq,aj,f37,h1,h18,Ex.cells,on,br];rw[eJ (fl:=[(9,0),(10,0)])]
   rotate_left
   ·kernel_rfl
   ·intro R hR;simp[h0,h1,Ex.cells,la,arc,y1]at hR;subst hR;simp only[J8,J9,Z3,Q2];exact⟨bV rfl rfl rfl (s:=st) (by simp),bV rfl rfl rfl (s:=st) (by simp[la])⟩
   simp[h0,h1,Ex.cells,la,arc,y1];refine⟨_,_,⟨rfl,rfl⟩,by simp[h0],by simp[h1,Ex.cells],by simp[h2],by simpa[dS,h6] using(hf.keep y3),false,w1,by simp,y2,y3,?_⟩;rw[y4];simp[dG,ho];try exact⟨fun⟨⟨q1,q2⟩,q3⟩=>⟨q1,q3,q2⟩,fun⟨q1,q3,q2⟩=>⟨⟨q1,q2⟩,q3⟩⟩
  |true =>
   rw[ho]at on;obtain⟨s1,w1,y1,y2,y3,y4⟩:=mj (c:=c) (!decide (DR nm=(a.len:Int))) hk e2 (by decide) (N:=N) (by omega);simp[dO,cW,aq,aj,f37,h1,h18,Ex.cells,nmd,on,br];rw[eJ (fl:=[(9,0),(10,0)])]
   rotate_left
   ·kernel_rfl
   ·intro R hR;simp[h0,h1,Ex.cells,la,arc,y1]at hR;subst hR;simp only[J8,J9,Z3,Q2];exact⟨bV rfl rfl rfl (s:=st) (by simp),bV rfl rfl rfl (s:=st) (by simp[la])⟩
   simp[h0,h1,Ex.cells,la,arc,y1];refine⟨_,_,⟨rfl,rfl⟩,by simp[h0],by simp[h1,Ex.cells],by simp[h2],by simpa[dS,h6] using(hf.keep y3),named nm,w1,by simp,y2,y3,?_⟩;rw[y4];simp[dG,ho];try exact⟨fun⟨⟨q1,q2⟩,q3⟩=>⟨q1,q3,q2⟩,fun⟨q1,q3,q2⟩=>⟨⟨q1,q2⟩,q3⟩⟩
 unfold qc;simp[dO,cW,aq,aj,f37,h18,Ex.cells,k1,k2,k3,k4,k5,k6,k7,k8,k9];refine⟨_,_,⟨rfl,rfl⟩,by simp[h0],by simp[h1,Ex.cells],by simp[h2],by simpa[dS,h6,k1,k2,k3,k4,k5,k6,k7,k8,k9]using hf,false,w,by simp[h7],hk,.refl _ _ _,?_⟩;simp[dG,k1,k2,k3,k4,k5,k6,k7,k8,k9]
mutual
def gK(C:ah->Option AV):Ex->List (List ah)->Bool
 |.mk k nm num ps b a l,sc=>dG C sc k nm num (ba ps) b a l&&(eI C a (dS k (ba ps) b sc)&&(eI C b (dS k (ba ps) b sc)&&jh C l sc))
def eI(C:ah->Option AV):ae->List (List ah)->Bool
 |.nil _,_=>true
 |.cons _ x l,sc=>gK C x sc&&eI C l sc
def jh(C:ah->Option AV):ae->List (List ah)->Bool
 |.nil _,_=>true
 |.cons p x l,sc=>gK C x (ba (p.getD 3 .un)::sc)&&jh C l sc
end
theorem IR{C:ah->Option AV}:∀ {l:ae}{sc:List (List ah)},eI C l sc=true↔∀ j (h:j<l.list.length),gK C l.list[j].2 sc=true
 |.nil _,sc=>by simp[eI,ae.list]
 |.cons p x l,sc=>by
  simp only[eI,Q2,IR];constructor
  ·rintro⟨h1,h2⟩ j hj;cases j with
   |zero=>exact h1
   |succ j=>exact h2 j (by simpa[ae.list]using hj)
  ·intro h;exact⟨h 0 (by simp[ae.list]),fun j hj=>h (j+1) (by simpa[ae.list]using hj)⟩
theorem Kg{C:ah->Option AV}:∀ {l:ae}{sc:List (List ah)},jh C l sc=true↔∀ j (h:j<l.list.length),gK C l.list[j].2 ((cD l.list[j]).vs::sc)=true
 |.nil _,sc=>by simp[jh,ae.list]
 |.cons p x l,sc=>by
  simp only[jh,Q2,Kg];constructor
  ·rintro⟨h1,h2⟩ j hj;cases j with
   |zero=>exact h1
   |succ j=>exact h2 j (by simpa[ae.list]using hj)
  ·intro h;exact⟨h 0 (by simp[ae.list]),fun j hj=>h (j+1) (by simpa[ae.list]using hj)⟩
def GI(o:Option (AV× St))(st:St)(cr mr:Nat)(w:Int)(C:ah->Option AV)(ok:Bool):Prop :=
 ∃ st' w',o=some (.tu [],st')/\Ck st' cr mr w' C/\Kp [cr] [cr] st st'/\(w'=0↔w=0/\ok=true)
def Yk(c:Option Self)(x:Ex):Prop:=x.Ty->x.size<=1000000->∀ (st:St) (cr mr:Nat) (w:Int) (C:ah->Option AV) (sc:List (List ah)) (fr:AV) (r:List AV) (N:Nat),zt C->Ck st cr mr w C->jj st cr fr sc->aQ r=true->
 2*x.size+sc.length+10000000000000000030<=N->GI ((Tw c N).call 37 [.p cr 0,.rp (x.cells++r),fr] st) st cr mr w C (gK C x sc)
def Jg(st s:St)(t:Tr AV)(cr mr:Nat)(w:Int)(C:ah->Option AV)(e fr fi:AV)(i n:Nat)(q:Nat->Prop)(kl ki:Nat):Prop :=
 ab t 0=.p cr 0/\ab t 1=e/\ab t 2=fr/\ab t 6=fi/\ab t kl=.i .i64 (n:Int)/\ab t ki=.i .i64 (i:Int)/\∃ w',Ck s cr mr w' C/\Kp [cr] [cr] st s/\(w'=0↔w=0/\∀ j,j<i->q j)
def FI(st s:St)(t:Tr AV)(cr mr:Nat)(w:Int)(C:ah->Option AV)(e fr fi:AV)(n:Nat)(q:Nat->Prop):Prop :=
 ab t 0=.p cr 0/\ab t 1=e/\ab t 2=fr/\ab t 6=fi/\∃ w',Ck s cr mr w' C/\Kp [cr] [cr] st s/\(w'=0↔w=0/\∀ j,j<n->q j)
def xK(C:ah->Option AV)(sc:List (List ah))(l:ae)(j:Nat):Prop:=∀ h:j<l.list.length,gK C l.list[j].2 sc=true
def FJ(C:ah->Option AV)(sc:List (List ah))(l:ae)(j:Nat):Prop:=∀ h:j<l.list.length,gK C l.list[j].2 ((cD l.list[j]).vs::sc)=true
theorem Ho:(∀ j,j<l.list.length->xK C sc l j)↔eI C l sc=true:=by rw[IR];exact⟨fun h j hj=>h j hj hj,fun h j _ hj=>h j hj⟩
theorem UE:(∀ j,j<l.list.length->FJ C sc l j)↔jh C l sc=true:=by rw[Kg];exact⟨fun h j hj=>h j hj hj,fun h j _ hj=>h j hj⟩
theorem all_succ{q:Nat->Prop}:(∀ j,j<i+1->q j)↔(∀ j,j<i->q j)/\q i :=
 ⟨fun h=>⟨fun j hj=>h j (by omega),h i (by omega)⟩,fun h j hj=>by
  rcases Nat.lt_succ_iff_lt_or_eq.1 hj with hj|rfl
  ·exact h.1 j hj
  ·exact h.2⟩
theorem jj.pn{st:St}{cr:Nat}:jj st cr .pn []:=⟨⟨by simp,rfl⟩,.pn,.pure rfl,rfl⟩
theorem wM{m z:Nat}(hT:l.Ty m)(hi:i<l.list.length){r:List AV}(h:l.flat.drop (i*z)=l.list[i].1++(l.list[i].2.cells++r))(_:l.list[i].1.length=eD m):aQ r=true:=by have h1:=JV (n:=i*z) (ae.oF hT);rw[h,uP,uP,Q2,Q2]at h1;exact h1.2.2
theorem Wn{t0:Tr AV}(k:Int)(nm:ah)(num:Int)(ps:AV)(b a l:ae)(r:List AV)(h0:ab t0 0=.p cr 0)(h1:ab t0 1=.rp ((Ex.mk k nm num ps b a l).cells++r))(h2:ab t0 2=fr):
  ∃ t,ao cW ⟨prog,Tw c N,false,f37.ntmps,N⟩ t0 st=bT (ao dO ⟨prog,Tw c N,false,f37.ntmps,N⟩ t st) (ao Hs ⟨prog,Tw c N,false,f37.ntmps,N⟩)/\
   ab t 0=.p cr 0/\ab t 1=.rp ((Ex.mk k nm num ps b a l).cells++r)/\ab t 2=fr/\ab t 6=fr/\ab t 7=.b false/\ab t 18=.i .i64 k:=by
 rw[show ao cW ⟨prog,Tw c N,false,f37.ntmps,N⟩ t0 st=bT (ao (aq cW) ⟨prog,Tw c N,false,f37.ntmps,N⟩ t0 st) (fun t s=>bT (ao (aq (aj cW)) ⟨prog,Tw c N,false,f37.ntmps,N⟩ t s)
  (fun t s=>bT (bT (ao (aq (aq (aj (aj cW)))) ⟨prog,Tw c N,false,f37.ntmps,N⟩ t s) (ao dO ⟨prog,Tw c N,false,f37.ntmps,N⟩)) (ao Hs ⟨prog,Tw c N,false,f37.ntmps,N⟩))) from rfl]
 have a0:∃ t,ao (aq cW) ⟨prog,Tw c N,false,f37.ntmps,N⟩ t0 st=.nx t st/\ab t 0=.p cr 0/\ab t 1=.rp ((Ex.mk k nm num ps b a l).cells++r)/\ab t 2=fr/\ab t 6=fr:=by simp[cW,aq,f37,h0,h1,h2]
 obtain⟨t1,a0,b0,b1,b2,b6⟩:=a0;have a1:∃ t,ao (aq (aj cW)) ⟨prog,Tw c N,false,f37.ntmps,N⟩ t1 st=.nx t st/\ab t 0=.p cr 0/\ab t 1=.rp ((Ex.mk k nm num ps b a l).cells++r)/\ab t 2=fr/\ab t 6=fr/\ab t 7=.b false:=by simp[cW,aq,aj,f37,b0,b1,b2,b6]
 obtain⟨t2,a1,c0,c1,c2,c6,c7⟩:=a1;have a2:∃ t,ao (aq (aq (aj (aj cW)))) ⟨prog,Tw c N,false,f37.ntmps,N⟩ t2 st=.nx t st/\ab t 0=.p cr 0/\ab t 1=.rp ((Ex.mk k nm num ps b a l).cells++r)/\ab t 2=fr/\ab t 6=fr/\ab t 7=.b false/\ab t 18=.i .i64 k:=by simp[cW,aq,aj,f37,c0,c1,c2,c6,c7,Ex.cells]
 obtain⟨t3,a2,d0,d1,d2,d6,d7,d18⟩:=a2;refine⟨t3,?_,d0,d1,d2,d6,d7,d18⟩;rw[a0,dK,a1,dK,a2,dK]
theorem Wa:∀ x,Yk c x:=by
 refine Ex.ind fun k nm num ps b a l hb ha hl=>?_
 intro hT hs st cr mr w C sc fr r N hC hk hf hr hN;obtain⟨N,rfl⟩:∃ N',N=N'+1:=⟨N-1,by omega⟩;rw[dt rfl func37 rfl (J4 rfl)];unfold aV;have hT':=hT;have hT2:=hT;simp only[Ex.Ty]at hT;obtain⟨-,hps,hTb,hTa,hTl⟩:=hT;have hsz:(Ex.mk k nm num ps b a l).size=1+b.size+a.size+l.size:=by simp only[Ex.size]
 have hbl:=b.bZ;have hal:=a.bZ;have hll:=l.bZ;have lb:=fun st:St=>aY (st:=st) underlying23 (b.bK 8) (b.bJ 8)
 have la:=fun st:St=>aY (st:=st) underlying32 (a.bK 7) (a.bJ 7)
 have ll:=fun st:St=>aY (st:=st) underlying33 (l.bK 11) (l.bJ 11)
 have hcl:(Ex.mk k nm num ps b a l).cells++r=.i .i64 k::.s nm::.i .i64 num::ps::b.slice 8::a.slice 7::l.slice 11::r:=by simp[Ex.cells]
 have slen:(dS k (ba ps) b sc).length<=sc.length+1:=by
  unfold dS;split
  ·simp
  ·split<;>simp
 obtain⟨cX,hsc'⟩:∃ cX,dS k (ba ps) b sc=cX:=⟨_,rfl⟩;have e2:wH 2:=by right;right;right;rfl
 have e2:wH 2:=by right;right;right;rfl
 have start:=Wn (c:=c) (N:=N) (t0:=tmpsOf [.p cr 0,.rp ((Ex.mk k nm num ps b a l).cells++r),fr] 0 .lf) (st:=st) (cr:=cr) (fr:=fr) k nm num ps b a l r (by simp) (by simp) (by simp);obtain⟨t,h0,q0,q1,q2,q6,q7,q18⟩:=start;have hb0:ao (f37.body.getD .skip) ⟨prog,Tw c N,false,f37.ntmps,N⟩ (tmpsOf [.p cr 0,.rp ((Ex.mk k nm num ps b a l).cells++r),fr] 0 .lf) st=_:=h0;obtain⟨t1,s1,h1,H⟩:=Sf k nm num ps b a l hT2 hs r hr hC hk hf (N:=N) (by omega) q0 q1 q2 q6 q7 q18;obtain⟨p0,p1,p2,pF,fine,w1,p7,pC,pK,pG⟩:=H;rw[hsc']at pF;obtain⟨fi,hfi⟩:∃ fi,ab t1 6=fi:=⟨_,rfl⟩;rw[hfi]at pF;obtain⟨s2,w2,y1,y2,y3,y4⟩:=mj (c:=c) (!fine) pC e2 (by decide) (N:=N) (by omega);have kp2:=pK.trans y3;have g2:w2=0↔w=0/\dG C sc k nm num (ba ps) b a l=true:=by rw[y4,<-pG];cases fine<;>simp
 show GI (eE prog f37.results.toList (ao (f37.body.getD .skip) ⟨prog,Tw c N,false,f37.ntmps,N⟩ (tmpsOf [.p cr 0,.rp ((Ex.mk k nm num ps b a l).cells++r),fr] 0 .lf) st)) st cr mr w C _
 rw[hb0,h1,dK];rw[hcl]at p1;unfold GI;simp[Hs,cW,aj,f37,p0,p1,p7,y1,la,bw];generalize hL:bf _ _ _ _=L;obtain⟨t3,s3,rfl,z0,z1,z2,z6,w3,zC,zK,zG⟩:=dy hL 1 a.list.length
  (fun i t s=>Jg s2 s t cr mr w2 C (.rp (.i .i64 k::.s nm::.i .i64 num::ps::b.slice 8::a.slice 7::l.slice 11::r)) fr fi i a.len (xK C cX a) 245 246)
  (fun t s=>FI s2 s t cr mr w2 C (.rp (.i .i64 k::.s nm::.i .i64 num::ps::b.slice 8::a.slice 7::l.slice 11::r)) fr fi a.list.length (xK C cX a)) (by rw[<-ae.aC];omega)
  ⟨by simp[p0],by simp[p1],by simp[p2],by simp[hfi],by simp,by simp,w2,y2,.refl _ _ _,by simp⟩
  (by
   rintro i t s hi ⟨i0,i1,i2,i6,il,ii,w',iC,iK,iG⟩;clear hL;have hil:i<a.len:=by rw[ae.aC];exact hi
   have e5:(i:Int)<(a.len:Int):=by omega
   have e7:wr .i64 ((i:Int)+1)=((i+1:Nat):Int):=by rw[aZ (by omega) (by omega)];rfl
   obtain⟨r1,r2,r3⟩:=eR hTa.pre (show eD 0+7=7 from rfl) hi;have ix:=dV (P:=prog) underlying32 cI aH a.flat a.len i hil;rw[<-ae.cZ hil,r2,List.eq_nil_of_length_eq_zero r3,Q1]at ix;have hmem:=Q4 hi;have hTi:=ae.cU hTa _ hmem;have hsz':=ae.dU hmem;have hpr1:aQ r1=true:=wM hTa hi r2 r3;obtain⟨s4,w4,x1,x2,x3,x4⟩:=ha _ hmem hTi.2 (by omega) s cr mr w' C cX fi r1 N hC iC ((pF.keep y3).keep iK) hpr1 (by rw[<-hsc'];omega);simp[i0,i1,i6,il,ii,e5,e7,ix,x1];refine⟨_,_,⟨rfl,rfl⟩,by simp[i0],by simp[i1],by simp[i2],by simp[i6],by simp[il],by simp,w4,x2,iK.trans x3,?_⟩;rw[x4,iG,all_succ,and_assoc];exact and_congr Iff.rfl (and_congr Iff.rfl ⟨fun h _=>h,fun h=>h hi⟩))
  (by rintro t s ⟨i0,i1,i2,i6,il,ii,w',iC,iK,iG⟩;clear hL;simp[il,ii,ae.aC];exact⟨_,_,⟨rfl,rfl⟩,by simp[i0],by simp[i1],by simp[i2],by simp[i6],w',iC,iK,iG⟩)
 clear hL;simp[z1,lb,bw];generalize hL:bf _ _ _ _=L;obtain⟨t4,s4,rfl,u0,u1,u2,u6,w4,uC,uK,uG⟩:=dy hL 3 b.list.length
  (fun i t s=>Jg s3 s t cr mr w3 C (.rp (.i .i64 k::.s nm::.i .i64 num::ps::b.slice 8::a.slice 7::l.slice 11::r)) fr fi i b.len (xK C cX b) 263 264)
  (fun t s=>FI s3 s t cr mr w3 C (.rp (.i .i64 k::.s nm::.i .i64 num::ps::b.slice 8::a.slice 7::l.slice 11::r)) fr fi b.list.length (xK C cX b)) (by rw[<-ae.aC];omega)
  ⟨by simp[z0],by simp[z1],by simp[z2],by simp[z6],by simp,by simp,w3,zC,.refl _ _ _,by simp⟩
  (by
   rintro i t s hi ⟨i0,i1,i2,i6,il,ii,w',iC,iK,iG⟩;clear hL;have hil:i<b.len:=by rw[ae.aC];exact hi
   have e5:(i:Int)<(b.len:Int):=by omega
   have e7:wr .i64 ((i:Int)+1)=((i+1:Nat):Int):=by rw[aZ (by omega) (by omega)];rfl
   obtain⟨r1,r2,r3⟩:=eR hTb.pre (show eD 1+7=8 from rfl) hi;have ix:=dV (P:=prog) underlying23 dn cV b.flat b.len i hil;rw[<-ae.cZ hil,r2]at ix;have hmem:=Q4 hi;have hTi:=ae.cU hTb _ hmem;have hsz':=ae.dU hmem;have hpr1:aQ r1=true:=wM hTb hi r2 r3;have hd:(b.list[i].1++(b.list[i].2.cells++r1)).drop 1=b.list[i].2.cells++r1:=by have r3':b.list[i].1.length=1:=r3;rw[List.drop_append,r3'];simp[r3',Q7]
   obtain⟨s4,w4,x1,x2,x3,x4⟩:=hb _ hmem hTi.2 (by omega) s cr mr w' C cX fi r1 N hC iC (((pF.keep y3).keep zK).keep iK) hpr1 (by rw[<-hsc'];omega);simp[i0,i1,i6,il,ii,e5,e7,ix,hd,x1];refine⟨_,_,⟨rfl,rfl⟩,by simp[i0],by simp[i1],by simp[i2],by simp[i6],by simp[il],by simp,w4,x2,iK.trans x3,?_⟩;rw[x4,iG,all_succ,and_assoc];exact and_congr Iff.rfl (and_congr Iff.rfl ⟨fun h _=>h,fun h=>h hi⟩))
  (by rintro t s ⟨i0,i1,i2,i6,il,ii,w',iC,iK,iG⟩;clear hL;simp[il,ii,ae.aC];exact⟨_,_,⟨rfl,rfl⟩,by simp[i0],by simp[i1],by simp[i2],by simp[i6],w',iC,iK,iG⟩)
 clear hL;simp[u1,ll,bw];generalize hL:bf _ _ _ _=L;obtain⟨t5,s5,rfl,v0,v1,v2,v6,w5,vC,vK,vG⟩:=dy hL 5 l.list.length
  (fun i t s=>Jg s4 s t cr mr w4 C (.rp (.i .i64 k::.s nm::.i .i64 num::ps::b.slice 8::a.slice 7::l.slice 11::r)) fr fi i l.len (FJ C sc l) 282 283)
  (fun t s=>FI s4 s t cr mr w4 C (.rp (.i .i64 k::.s nm::.i .i64 num::ps::b.slice 8::a.slice 7::l.slice 11::r)) fr fi l.list.length (FJ C sc l)) (by rw[<-ae.aC];omega)
  ⟨by simp[u0],by simp[u1],by simp[u2],by simp[u6],by simp,by simp,w4,uC,.refl _ _ _,by simp⟩
  (by
   rintro i t s hi ⟨i0,i1,i2,i6,il,ii,w',iC,iK,iG⟩;clear hL;have hil:i<l.len:=by rw[ae.aC];exact hi
   have e5:(i:Int)<(l.len:Int):=by omega
   have e7:wr .i64 ((i:Int)+1)=((i+1:Nat):Int):=by rw[aZ (by omega) (by omega)];rfl
   obtain⟨r1,r2,r3⟩:=eR hTl.pre (show eD 4+7=11 from rfl) hi;have ix:=dV (P:=prog) underlying33 cy bU l.flat l.len i hil;rw[<-ae.cZ hil,r2]at ix;have hmem:=Q4 hi;have hTi:=ae.cU hTl _ hmem;have hsz':=ae.dU hmem;have hpr1:aQ r1=true:=wM hTl hi r2 r3;obtain⟨vs,hp4,hvs,hvl⟩:=Ca hTi.1;have hd:(l.list[i].1++(l.list[i].2.cells++r1)).drop 4=l.list[i].2.cells++r1:=by rw[hp4];rfl
   have hd3:cut ((l.list[i].1++(l.list[i].2.cells++r1)).drop 3) 0 1=some [vs]:=by rw[hp4];rfl
   have fK:jj s cr fr sc:=(((((hf.keep pK).keep y3).keep zK).keep uK).keep iK);have bo:=fun(t:Tr AV) (q1:ai t (.tmp 301)=vs) (q2:ai t (.tmp 302)=fr)=>wy (st:=s) (S:=Tw c N) (t:=t) q1 q2 (qD hvs) fK.1.1
   have nf:=fK.new hvs hvl iC.crl;have kn:=Kp.aw (st:=s) [cr] [cr] [vs,fr];have nk:=iC.keep (Kp.aw (st:=s) [] [] [vs,fr]) (by simp) (by simp) (by simp);obtain⟨s6,w6,x1,x2,x3,x4⟩:=hl _ hmem hTi.2 (by omega) (s.aw [vs,fr]) cr mr w' C ((cD l.list[i]).vs::sc) (.p s.next 0) r1 N hC nk nf hpr1 (by simp;omega);simp[il,ii,e5,br];rw[dj (by kernel_rfl)];simp[i0,i1,i2,ii,e7,ix,hd,hd3,bo,x1];refine⟨_,_,⟨rfl,rfl⟩,by simp[i0],by simp[i1],by simp[i2],by simp[i6],by simp[il],by simp,w6,x2,iK.trans (kn.trans x3),?_⟩;rw[x4,iG,all_succ,and_assoc];exact and_congr Iff.rfl (and_congr Iff.rfl ⟨fun h _=>h,fun h=>h hi⟩))
  (by rintro t s ⟨i0,i1,i2,i6,il,ii,w',iC,iK,iG⟩;clear hL;simp[il,ii,ae.aC];exact⟨_,_,⟨rfl,rfl⟩,by simp[i0],by simp[i1],by simp[i2],by simp[i6],w',iC,iK,iG⟩)
 clear hL;refine⟨s5,by simp[aG,aF],w5,vC,((kp2.trans zK).trans uK).trans vK,?_⟩;rw[vG,uG,zG,g2,Ho,Ho,UE];simp only[gK,Q2,hsc',and_assoc]
