/- A part of the proof. -/
import Derived.Test.YtjpheibfljmbjaaGreatDoorS14
set_option maxRecDepth 100000
set_option maxHeartbeats 4000000
open Nat renaming lt_of_lt_of_le->Q0, le_of_ble_eq_true->Q1, le_trans->Q2, lt_succ_self->Q4, le_refl->Q7, zero_add->Q8, ble->J3, mul_one->Z3, ble_eq_true_of_le->V1
open List renaming length_append->Q3, drop_eq_getElem_cons->Q6, append_nil->Q9, getElem_mem->J1, append_assoc->J4, take_append_getElem->J5, take_length->J6, mem_cons_of_mem->J8, mem_cons->J9, length_map->Z4, mem_cons_self->Z5, map_cons->Z6, length_cons->Z7, drop_eq_nil_of_le->Z8, drop_left->Z9, drop_length->V0, map_append->V2, drop_append->V3, nil_append->V4, length_nil->V6
open Go.Proofs.Tryz
noncomputable section
open Go.Ev
namespace Go.Proofs.YtjpheibfljmbjaaGreatDoor
variable {A W W' Y al : List Nat}{J : St->Prop}{M0 N g i lo lr m mn mr n r rs tr z : Nat}{P : Program}{S : bL}{T l : List ah}{a b b0 s st st' : St}{c : Option Self}{caps cl rest zs : List AV}{del : ah->Bool}{e ty : TypeId}{k : Int}{nm : ah}{p : List AV× Ex}{sv v w : AV}{x y : Operand}
theorem RJ{l:List AV}(h:s.ce r=some (l,g,al))(hg:g<n):(s.shut n).ce r=some (l,g,al):=by obtain⟨h0,h1,h2,h3⟩:=St.pR h;grind[St.ce,aaR,NV]
theorem Mk.shut{s:St}{mr tr n k:Nat}{T:List ah}(h:Mk s mr tr T k)(hn:mr<n):Mk (s.shut n) mr tr T k:=by obtain⟨al,hc⟩:=h.ce;exact⟨⟨al,RJ hc hn⟩,h.mrl,h.trl,h.ne,h.mp,h.tab,h.z1,h.z2⟩
def kP(st:St)(mr tr:Nat)(sv:AV)(S:bL):Prop:=(sv=.mn/\∀ x,S x=none)\/∃ r,sv=.m r/\cS st r (fun x=>(S x).map .s)/\r<st.next/\r≠mr/\r≠tr/\r≠0
theorem kP.keep{mr tr:Nat}{sv:AV}{S:bL}{A B:List Nat}{st':St}(h:kP st mr tr sv S)(k:Kp A B st st')(hA:∀ x,x∈A->x=mr\/x=tr\/st.next<=x):kP st' mr tr sv S:=by
 rcases h with h|⟨r,h1,h2,h3,h4,h5,h6⟩
 ·exact .inl h
 ·refine .inr ⟨r,h1,h2.keep k h3 (fun hh=>?_),Q0 h3 k.next,h4,h5,h6⟩;grind
theorem yw:rz prog 86 9 (.s []):=⟨⟨9,underlying86,underlying9⟩,by kernel_rfl⟩
theorem map_nil{k:TypeId}{c:Bool}(h:P.underlying ty=some (.map k e)):Go.Ev.binOp P ty c .eql .mn .mn=some (.b true):=by
 show mb P ty c .eql .mn .mn=_
 grind[mb,mG,ik,mQ,AV.xE,orElse]
theorem aco{k:TypeId}{c:Bool}(h:P.underlying ty=some (.map k e)):Go.Ev.binOp P ty c .eql (.m r) .mn=some (.b false):=by
 show mb P ty c .eql (.m r) .mn=_
 grind[mb,mG,ik,mQ,AV.xE,orElse]
@[simp] theorem adM(t:Tr AV):ai t (.const (.map none))=.mn:=rfl
theorem AO(T:List ah):∀ (l:List ah) (S:bL) (n:Nat),(aU T S l n).2.1.length=l.length
 |[],_,_=>rfl
 |x::l,S,n=>by simp[aU,AO T l]
theorem qT(T:List ah):∀ (l:List ah) (S:bL) (n:Nat),bG T (aU T S l n).2.2<=bG T n+l.length/\n<=(aU T S l n).2.2
 |[],_,_=>⟨Q7 _,Q7 _⟩
 |x::l,S,n=>by have h1:=qT T l (sT S x (dE (bD T n))) (bD T n);grind[wJ,sW,aU]
theorem Bg{f g:ah->Option AV}(h:cS s r f)(hg:∀ x,f x=g x):cS s r g:=by obtain⟨es,k,h1,h2,h3⟩:=h;exact⟨es,k,h1,h2,fun x=>(h3 x).trans (hg x)⟩
def Wi(st:St)(c:Option Self)(N:Nat)(sv:AV)(S:bL):Prop:=∃ s0 v0,(Tw c N).call 74 [sv] st=some (v0,s0)/\
 ((v0=.mn/\s0=st/\∀ x,S x=none)\/(v0=.m st.next/\s0.next=st.next+1/\cS s0 st.next (fun x=>(S x).map .s)/\Kp [] [] st s0))
theorem S9(h:kP st mr tr sv S)(hN:2<=N):Wi st c N sv S:=by
 obtain⟨N,rfl⟩:∃ N',N=N'+1:=⟨N-1,by omega⟩;rcases h with ⟨rfl,h⟩|⟨r,rfl,⟨es,k,h1,h2,h3⟩,-⟩
 ·refine⟨st,.mn,?_,.inl ⟨rfl,rfl,h⟩⟩;rw[Yr func74 rfl (Q1 rfl) rfl];unfold aV;simp[f74,map_nil underlying86,aG,aF]
 ·refine⟨_,_,UQ h1,.inr ⟨rfl,rfl,⟨es,k,by rw[St.pP,if_pos rfl],h2,h3⟩,.new _ _ _⟩⟩
def Wd(o:Option (AV× St))(st:St)(mr tr:Nat)(T:List ah)(R:bL× List ah× Nat):Prop :=
 ∃ st' sv',o=some (.tu [sv',cG R.2.1],st')/\kP st' mr tr sv' R.1/\Mk st' mr tr T R.2.2/\Kp [mr,tr] [mr] st st'
theorem BG{B:List Nat}(h:Kp [] [] a b):Kp A B a b:=⟨h.next,fun r h1 _=>h.get r h1 (by simp),fun g h1 _=>h.live g h1 (by simp)⟩
theorem Kp.qN{B A' B':List Nat}(h:Kp A B a b)(hA:∀ x,x∈A->x∈A')(hB:∀ x,x∈B->x∈B'):Kp A' B' a b:=⟨h.next,fun r h1 h2=>h.get r h1 (fun hh=>h2 (hA _ hh)),fun g h1 h2=>h.live g h1 (fun hh=>h2 (hB _ hh))⟩
def Cd(st s:St)(mr tr:Nat)(T:List ah)(S:bL)(l:List ah)(n lo r1:Nat)(v9:AV)(i:Nat):Prop :=
 ∃ (va:AV) (acc:List ah) (Si:bL) (ni:Nat) (g:Option Nat),v9=va/\aW s lo 1 va i (acc.map .s) g/\(i=0->va=.sn)/\Mk s mr tr T ni/\Kp [mr,tr] [mr] st s/\cS s r1 (fun x=>(Si x).map .s)/\r1<s.next /\
  (aU T S l n=((aU T Si (l.drop i) ni).1,acc++(aU T Si (l.drop i) ni).2.1,(aU T Si (l.drop i) ni).2.2))/\bG T ni+(l.length-i)<=bG T n+l.length/\acc.length=i
theorem Nh(h:de v (l.map .s))(h0:l=[]->v=.sn):v=cG l:=by
 cases l with
 |nil=>exact h0 rfl
 |cons s l =>
  rcases h with ⟨-,h⟩|h
  ·grind
  ·rw[h];simp[cG]
def qd(st:St)(mr tr:Nat)(v:AV)(l:List ah):Prop:=de v (l.map .s)\/∃ r g al,v=.sl r 0 l.length 1 none/\st.ce r=some (l.map .s,g,al)/\r<st.next/\g<st.next/\r≠mr/\r≠tr/\g≠mr
theorem qd.sLen{mr tr:Nat}{v:AV}{l:List ah}(h:qd st mr tr v l){s:St}:Go.Ev.ft prog s [31] [v]=some (.i .i64 (l.length:Int),s):=by
 rcases h with h|⟨r,g,al,rfl,-⟩
 ·exact h.sLen gz
 ·exact aY underlying31 rfl rfl
theorem qd.keep{B:List Nat}(h:qd st mr tr v l)(k:Kp A B st s)(hA:∀ x,x∈A->x=mr\/x=tr)(hB:∀ x,x∈B->x=mr):qd s mr tr v l:=by
 rcases h with h|⟨r,g,al,h1,h2,h3,h4,h5,h6,h7⟩
 ·exact .inl h
 ·exact .inr ⟨r,g,al,h1,k.ce h2 h3 h4 (fun hh=>by grind) (fun hh=>h7 (hB _ hh)),Q0 h3 k.next,Q0 h4 k.next,h5,h6,h7⟩
theorem qd.Ml(h:qd st mr tr v l){k:Nat}(hk:k<l.length):∃ a,indexAddr prog 31 v (.i .i64 (k:Int))=some a/\loadAt prog 9 st a=some (.s l[k]):=by
 rcases h with h|⟨r,g,al,rfl,h2,-⟩
 ·obtain⟨a,h1,h2⟩:=h.sat gz nU hk;grind
 ·refine⟨_,kQ underlying31 jT oO _ _ _ _ _ hk,?_⟩;rw[oE jT nU,au h2,Q8,Z3];have:cut (l.map AV.s) k 1=some [.s l[k]]:=by
   have key:∀ (l:List AV) (k:Nat) (hk:k<l.length),cut l k 1=some [l[k]]:=by
    intro l;induction l with
    |nil=>grind
    |cons v l ih =>
     intro k hk;cases k with
     |zero=>simp
     |succ k=>simpa using ih k (by grind)
   grind
  simp_all
theorem HC(hv:qd st mr tr v l)(hl:l.length<=1000000)(hS:kP st mr tr sv S)(hM:Mk st mr tr T n)(hp:bG T n+l.length<1000000)(hN:3000000<=N):
  Wd ((Tw c N).call 43 [sv,.p mr 0,v] st) st mr tr T (aU T S l n):=by
 obtain⟨N,rfl⟩:∃ N',N=N'+1:=⟨N-1,by omega⟩;have ln:=fun st:St=>hv.sLen (s:=st)
 have bn:=oM T n
 suffices h:∃ s1 sv' v1,aV c N f43 (f43.body.getD .skip) [sv,.p mr 0,v] st=some (.tu [sv',v1],s1)/\Fz st.next s1 (.tu [sv',v1]) (.tu [sv',cG (aU T S l n).2.1])/\kP s1 mr tr sv' (aU T S l n).1/\Mk s1 mr tr T (aU T S l n).2.2/\Kp [mr,tr] [mr] st s1 by
  obtain⟨s1,sv',v1,h1,h2,h3,h4,h5⟩:=h;refine⟨s1.shut st.next,sv',vi rfl rfl rfl rfl rfl (by decide) func43 rfl (Q1 rfl) h1 h2,?_,h4.shut hM.mrl,h5.shut (Q7 _)⟩;rcases h3 with h3|⟨r,k1,k2,k3⟩
  ·exact .inl h3
  ·exact .inr ⟨r,k1,(show cS (s1.shut _) r _ from k2),k3⟩
 unfold aV;cases hl0:l with
 |nil =>
  subst hl0;refine⟨st,sv,.sn,?_,?_,hS,hM,.refl _ _ _⟩
  ·simp_all[f43,aG,aF]
  ·rcases hS with ⟨rfl,-⟩|⟨r,rfl,-⟩
   ·exact .tu (.cons (.pure rfl) (.cons (.pure rfl) .nil))
   ·exact .tu (.cons (.map r) (.cons (.pure rfl) .nil))
 |cons x0 l0 =>
  rw[<-hl0];have hne:l≠[]:=by grind
  have hlen:¬ (l.length:Int)=0:=by grind
  obtain⟨s0,v0,q1,q2⟩:=S9 (c:=c) hS (N:=N) (by omega);have m1l:=hM.mrl;have m2l:=hM.trl;have m3l:=hM.ne;have z1l:=hM.z1;rcases q2 with ⟨rfl,e0,hS0⟩|⟨rfl,hn0,hm0,hk0⟩
  ·have e1:=e0.symm;subst e1;have m1:cS (st.new (.mp [] 0)) st.next (fun x=>(S x).map .s):=Bg (.new st) fun x=>by rw[hS0 x];rfl
   have k1:Kp [] [] st (st.new (.mp [] 0)):=.new _ _ _;have l1:st.next<(st.new (.mp [] 0)).next:=Q4 _;simp[f43,ln,hne,q1,map_nil underlying86,bw];obtain⟨s1,hs1⟩:∃ s,st.new (.mp [] 0)=s:=⟨_,rfl⟩;obtain⟨lo,hlo⟩:∃ n,s1.next=n:=⟨_,rfl⟩;obtain⟨r1,hr1⟩:∃ n,st.next=n:=⟨_,rfl⟩;rw[hs1]at m1 k1 l1|-;have hlo2:st.next<=r1/\r1<lo/\lo<=r1+1:=by rw[<-hr1,<-hlo,<-hs1];exact⟨Q7 _,Q4 _,Q7 _⟩
   rw[hr1]at m1 l1|-;generalize hL:bf _ _ _ _=L;obtain⟨t5,s5,rfl,z8,va,acc,Si,ni,g,z9,zO,z0,zM,zK,zm,zl,zE,zp,za⟩:=dy hL 0 l.length
    (fun i t s=>ab t 1=.p mr 0/\ab t 8=.m r1/\ab t 21=v/\ab t 22=.i .i64 (l.length:Int)/\ab t 23=.i .i64 (i:Int)/\Cd st s mr tr T S l n lo r1 (ab t 9) i)
    (fun t s=>ab t 8=.m r1/\Cd st s mr tr T S l n lo r1 (ab t 9) l.length) (by omega)
    ⟨by simp,by simp,by simp,by simp,by simp,.sn,[],S,n,none,by simp,by simpa using aW.nil s1 lo 1,fun _=>rfl,hM.keep k1 (by simp) (by simp) (by simp) (by simp),BG k1,m1,l1,by simp,by omega,rfl⟩
    (by
     rintro i t s hi ⟨i1,i8,i21,i22,i23,va,acc,Si,ni,g,z9,zO,z0,zM,zK,zm,zl,zE,zp,za⟩;clear hL;have e3:(i:Int)<(l.length:Int):=by omega
     have e4:wr .i64 ((i:Int)+1)=((i+1:Nat):Int):=by rw[aZ (by omega) (by omega)];rfl
     obtain⟨a,ix,ld⟩:=(hv.keep zK (fun x hx=>by simpa using hx) (fun x hx=>by simpa using hx)).Ml hi;have hpn:=wJ T ni;have hbn:=oM T (bD T ni);obtain⟨s2,f1,f2,f3⟩:=Hl (c:=c) zM (by omega) (N:=N) (by omega);have zm2:=zm.keep f3 zl (by simp;omega);obtain⟨s3,u1,u2,u3,u4⟩:=zm2.set yw l[i] (.s (dE (bD T ni)));have lk:=u2.get yw l[i];rw[HG]at lk;have O3:=(zO.keep f3 (by simp;omega) (fun x hx=>.inl (by simp at hx;omega))).keep u3 (by simp;omega) (by simp);have bo:=fun(t:Tr AV) (h:ai t (.tmp 34)=.s (dE (bD T ni)))=>gT (S:=Tw c N) (st:=s3) fM (cs:=[.s (dE (bD T ni))]) (by rw[h];simp) rfl
     have n3:lo<=s3.next:=by have:=zK.next;have:=f3.next;omega
     obtain⟨v',g',s4,w1,w2,w3,w4⟩:=O3.mc fM (new:=[.s (dE (bD T ni))]) rfl rfl (by omega) n3;have hgl:=zO.fJ;have M4:Mk s4 mr tr T (bD T ni):=by refine(f2.keep u3 (by simp;omega) (by simp;omega) (by simp) (by simp;omega)).keep w3 (by simp) (by simp) (fun hh=>?_) (by simp);have:=hgl mr (by simpa using hh);omega
     have mm4:=u2.keep w3 (by rw[u4];have:=f3.next;omega) (by simp);simp[i1,i8,i21,i22,i23,z9,e3,e4,ix,ld,f1,u1,lk,bo,w1];refine⟨_,_,⟨rfl,rfl⟩,by simp[i1],by simp[i8],by simp[i21],by simp[i22],by simp,v',acc++[dE (bD T ni)],sT Si l[i] (dE (bD T ni)),bD T ni,g',by simp,by simpa using w2,fun h=>by omega,M4,?_,?_,?_,?_,by omega,by simp[za]⟩
     ·have k13:Kp [mr,tr,r1] [mr] s s3:=(Kp.qN f3 (by simp) (by simp)).trans (Kp.qN u3 (by simp) (by simp));have k14:Kp [mr,tr] [mr] st s3:=⟨Q2 zK.next k13.next,fun r h1 h2=>(k13.get r (Q0 h1 zK.next) (by simp at h2|-;omega)).trans (zK.get r h1 h2),fun g h1 h2=>(k13.live g (Q0 h1 zK.next) h2).trans (zK.live g h1 h2)⟩;exact dz k14 w3 (by simp) (fun x hx=>by have:=hgl x (by simpa using hx);omega)
     ·refine Bg mm4 fun x=>?_
      unfold upd sT;split<;>rfl
     ·have:=w3.next;have:=f3.next;omega
     ·rw[zE,Q6 hi];simp[aU])
    (by rintro t s ⟨i1,i8,i21,i22,i23,iA⟩;clear hL;simp[i22,i23];exact⟨_,_,⟨rfl,rfl⟩,by simp[i8],by simpa using iA⟩)
   clear hL;simp[aU]at zE;have hw:∃ w,Fz st.next s5 va w/\de w (acc.map .s):=by
    obtain⟨w,h3,h4⟩:=zO.fz (show st.next<=lo by omega) (Q7 1) (fB.pure (jD acc));refine⟨w,h3,?_⟩;rcases h4 with ⟨rfl,h5,h6⟩|rfl
    ·exact .inl ⟨rfl,h6⟩
    ·right;rw[Z4,za]
   obtain⟨w,hw1,hw2⟩:=hw;have hacc:acc≠[]:=by rintro rfl;rw[hl0]at za;simp at za
   have zE1:(aU T S l n).1=Si:=by rw[zE]
   have zE2:(aU T S l n).2.1=acc:=by rw[zE]
   have zE3:(aU T S l n).2.2=ni:=by rw[zE]
   have hwe:=Nh hw2 (fun h=>absurd h hacc);subst hwe;refine⟨s5,.m r1,va,?_,?_,.inr ⟨r1,rfl,?_,zl,by omega,by omega,by omega⟩,?_,zK⟩
   ·simp[z8,z9,aG,aF]
   ·rw[zE2];rw[<-hr1];exact .tu (.cons (.map _) (.cons hw1 .nil))
   ·rw[zE1];exact zm
   ·rw[zE3];exact zM
  ·have m1:=hm0;have k1:=hk0;have l1:st.next<s0.next:=by omega
   simp[f43,ln,hne,q1,aco underlying86,bw];obtain⟨s1,hs1⟩:∃ s,s0=s:=⟨_,rfl⟩;obtain⟨lo,hlo⟩:∃ n,s1.next=n:=⟨_,rfl⟩;obtain⟨r1,hr1⟩:∃ n,st.next=n:=⟨_,rfl⟩;have hlo2:st.next<=r1/\r1<lo/\lo<=r1+1:=by rw[<-hr1,<-hlo,<-hs1];exact⟨Q7 _,by omega,by omega⟩
   rw[hs1]at m1 k1 l1|-;rw[hr1]at m1 l1|-;generalize hL:bf _ _ _ _=L;obtain⟨t5,s5,rfl,z8,va,acc,Si,ni,g,z9,zO,z0,zM,zK,zm,zl,zE,zp,za⟩:=dy hL 0 l.length
    (fun i t s=>ab t 1=.p mr 0/\ab t 8=.m r1/\ab t 21=v/\ab t 22=.i .i64 (l.length:Int)/\ab t 23=.i .i64 (i:Int)/\Cd st s mr tr T S l n lo r1 (ab t 9) i)
    (fun t s=>ab t 8=.m r1/\Cd st s mr tr T S l n lo r1 (ab t 9) l.length) (by omega)
    ⟨by simp,by simp,by simp,by simp,by simp,.sn,[],S,n,none,by simp,by simpa using aW.nil s1 lo 1,fun _=>rfl,hM.keep k1 (by simp) (by simp) (by simp) (by simp),BG k1,m1,l1,by simp,by omega,rfl⟩
    (by
     rintro i t s hi ⟨i1,i8,i21,i22,i23,va,acc,Si,ni,g,z9,zO,z0,zM,zK,zm,zl,zE,zp,za⟩;clear hL;have e3:(i:Int)<(l.length:Int):=by omega
     have e4:wr .i64 ((i:Int)+1)=((i+1:Nat):Int):=by rw[aZ (by omega) (by omega)];rfl
     obtain⟨a,ix,ld⟩:=(hv.keep zK (fun x hx=>by simpa using hx) (fun x hx=>by simpa using hx)).Ml hi;have hpn:=wJ T ni;have hbn:=oM T (bD T ni);obtain⟨s2,f1,f2,f3⟩:=Hl (c:=c) zM (by omega) (N:=N) (by omega);have zm2:=zm.keep f3 zl (by simp;omega);obtain⟨s3,u1,u2,u3,u4⟩:=zm2.set yw l[i] (.s (dE (bD T ni)));have lk:=u2.get yw l[i];rw[HG]at lk;have O3:=(zO.keep f3 (by simp;omega) (fun x hx=>.inl (by simp at hx;omega))).keep u3 (by simp;omega) (by simp);have bo:=fun(t:Tr AV) (h:ai t (.tmp 34)=.s (dE (bD T ni)))=>gT (S:=Tw c N) (t:=t) (st:=s3) fM (x:=.tmp 34) (cs:=[.s (dE (bD T ni))]) (by rw[h];simp) rfl
     have n3:lo<=s3.next:=by have:=zK.next;have:=f3.next;omega
     obtain⟨v',g',s4,w1,w2,w3,w4⟩:=O3.mc fM (new:=[.s (dE (bD T ni))]) rfl rfl (by omega) n3;have hgl:=zO.fJ;have M4:Mk s4 mr tr T (bD T ni):=by refine(f2.keep u3 (by simp;omega) (by simp;omega) (by simp) (by simp;omega)).keep w3 (by simp) (by simp) (fun hh=>?_) (by simp);have:=hgl mr (by simpa using hh);omega
     have mm4:=u2.keep w3 (by rw[u4];have:=f3.next;omega) (by simp);simp[i1,i8,i21,i22,i23,z9,e3,e4,ix,ld,f1,u1,lk,bo,w1];refine⟨_,_,⟨rfl,rfl⟩,by simp[i1],by simp[i8],by simp[i21],by simp[i22],by simp,v',acc++[dE (bD T ni)],sT Si l[i] (dE (bD T ni)),bD T ni,g',by simp,by simpa using w2,fun h=>by omega,M4,?_,?_,?_,?_,by omega,by simp[za]⟩
     ·have k13:Kp [mr,tr,r1] [mr] s s3:=(Kp.qN f3 (by simp) (by simp)).trans (Kp.qN u3 (by simp) (by simp));have k14:Kp [mr,tr] [mr] st s3:=⟨Q2 zK.next k13.next,fun r h1 h2=>(k13.get r (Q0 h1 zK.next) (by simp at h2|-;omega)).trans (zK.get r h1 h2),fun g h1 h2=>(k13.live g (Q0 h1 zK.next) h2).trans (zK.live g h1 h2)⟩;exact dz k14 w3 (by simp) (fun x hx=>by have:=hgl x (by simpa using hx);omega)
     ·refine Bg mm4 fun x=>?_
      unfold upd sT;split<;>rfl
     ·have:=w3.next;have:=f3.next;omega
     ·rw[zE,Q6 hi];simp[aU])
    (by rintro t s ⟨i1,i8,i21,i22,i23,iA⟩;clear hL;simp[i22,i23];exact⟨_,_,⟨rfl,rfl⟩,by simp[i8],by simpa using iA⟩)
   clear hL;simp[aU]at zE;have hw:∃ w,Fz st.next s5 va w/\de w (acc.map .s):=by
    obtain⟨w,h3,h4⟩:=zO.fz (show st.next<=lo by omega) (Q7 1) (fB.pure (jD acc));refine⟨w,h3,?_⟩;rcases h4 with ⟨rfl,h5,h6⟩|rfl
    ·exact .inl ⟨rfl,h6⟩
    ·right;rw[Z4,za]
   obtain⟨w,hw1,hw2⟩:=hw;have hacc:acc≠[]:=by rintro rfl;rw[hl0]at za;simp at za
   have zE1:(aU T S l n).1=Si:=by rw[zE]
   have zE2:(aU T S l n).2.1=acc:=by rw[zE]
   have zE3:(aU T S l n).2.2=ni:=by rw[zE]
   have hwe:=Nh hw2 (fun h=>absurd h hacc);subst hwe;refine⟨s5,.m r1,va,?_,?_,.inr ⟨r1,rfl,?_,zl,by omega,by omega,by omega⟩,?_,zK⟩
   ·simp[z8,z9,aG,aF]
   ·rw[zE2];rw[<-hr1];exact .tu (.cons (.map _) (.cons hw1 .nil))
   ·rw[zE1];exact zm
   ·rw[zE3];exact zM
theorem yF:fu prog 35=true:=by kernel_rfl
theorem aaa:fu prog 37=true:=by kernel_rfl
theorem YE:fu prog 93=true:=by kernel_rfl
def iQ:List AV:=[.i .i64 0,.s [],.i .i64 0,.sn,.sn,.sn,.sn]
theorem sQ:bm prog 35=some iQ:=by kernel_rfl
def gL:List AV:=[.s [],.i .i64 0,.s [],.i .i64 0,.sn,.sn,.sn,.sn]
theorem sy:bm prog 37=some gL:=by kernel_rfl
def yI:List AV:=[.i .i64 0,.s [],.i .i64 0,.sn,.i .i64 0,.s [],.i .i64 0,.sn,.sn,.sn,.sn]
theorem FE:bm prog 93=some yI:=by kernel_rfl
theorem Ah:∃ fs,prog.underlying 35=some (.struct fs)/\gM prog fs 0=some (0,1)/\gM prog fs 1=some (1,1)/\gM prog fs 2=some (2,1)/\gM prog fs 4=some (4,1)/\gM prog fs 5=some (5,1):=
 ⟨_,underlying35,by kernel_rfl,by kernel_rfl,by kernel_rfl,by kernel_rfl,by kernel_rfl⟩
theorem ab5:∃ fs,prog.underlying 37=some (.struct fs)/\gM prog fs 0=some (0,1)/\gM prog fs 1=some (1,7):=⟨_,underlying37,by kernel_rfl,by kernel_rfl⟩
theorem ZY:∃ fs,prog.underlying 93=some (.struct fs)/\gM prog fs 0=some (0,1)/\gM prog fs 1=some (1,1)/\gM prog fs 2=some (2,1)/\gM prog fs 3=some (3,1)/\gM prog fs 4=some (4,7):=
 ⟨_,underlying93,by kernel_rfl,by kernel_rfl,by kernel_rfl,by kernel_rfl,by kernel_rfl⟩
section
variable {S : Self}{t : Tr AV}
theorem aa0{z:Operand}{num:Int}(hx:ai t x=.i .i64 k)(hy:ai t y=.s nm)(hz:ai t z=.i .i64 num):bH (.build 35 #[(0,x),(1,y),(2,z)]) prog S t st=some (.ag [.i .i64 k,.s nm,.i .i64 num,.sn,.sn,.sn,.sn],st):=by
 obtain⟨fs,h1,h2,h3,h4,-⟩:=Ah;show @Bool.rec (fun _=>aR) none (df prog 35 [(0,ai t x),(1,ai t y),(2,ai t z)] st) (fu prog 35)=_
 rw[yF,hx,hy,hz];show df prog 35 _ st=_
 unfold df;rw[h1];simp only[sQ,iQ,jg,fill,h2,h3,h4,yk,EV];rfl
theorem Ir(hx:ai t x=.i .i64 k)(hy:ai t y=.s nm):bH (.build 35 #[(0,x),(1,y)]) prog S t st=some (.ag [.i .i64 k,.s nm,.i .i64 0,.sn,.sn,.sn,.sn],st):=by
 obtain⟨fs,h1,h2,h3,-⟩:=Ah;show @Bool.rec (fun _=>aR) none (df prog 35 [(0,ai t x),(1,ai t y)] st) (fu prog 35)=_
 rw[yF,hx,hy];show df prog 35 _ st=_
 unfold df;rw[h1];simp only[sQ,iQ,jg,fill,h2,h3,yk,EV];rfl
theorem Oa{z:Operand}{b a:AV}(hx:ai t x=.i .i64 k)(hy:ai t y=b)(hz:ai t z=a)(hb:b.cells=some [b])(ha:a.cells=some [a]):bH (.build 35 #[(0,x),(4,y),(5,z)]) prog S t st=some (.ag [.i .i64 k,.s [],.i .i64 0,.sn,b,a,.sn],st):=by
 obtain⟨fs,h1,h2,h3,h4,h5,h6⟩:=Ah;show @Bool.rec (fun _=>aR) none (df prog 35 [(0,ai t x),(4,ai t y),(5,ai t z)] st) (fu prog 35)=_
 rw[yF,hx,hy,hz];show df prog 35 _ st=_
 unfold df;rw[h1];simp only[sQ,iQ,jg,fill,h2,h5,h6,yk,hb,ha];rfl
theorem Ps(h:cl.length=7):∃ a b c d e f g,cl=[a,b,c,d,e,f,g]:=by
 match cl,h with
 |[a,b,c,d,e,f,g],_=>grind
theorem yD(hx:ai t x=.s nm)(hy:ai t y=.ag cl)(hl:cl.length=7):bH (.build 37 #[(0,x),(1,y)]) prog S t st=some (.ag (.s nm::cl),st):=by
 obtain⟨fs,h1,h2,h3⟩:=ab5;show @Bool.rec (fun _=>aR) none (df prog 37 [(0,ai t x),(1,ai t y)] st) (fu prog 37)=_
 rw[aaa,hx,hy];show df prog 37 _ st=_
 unfold df;rw[h1];obtain⟨a,b,c,d,e,f,g,rfl⟩:=Ps hl;simp only[sy,gL,jg,fill,h2,h3,EV,j9];rfl
theorem Uu{z v w:Operand}{m:Int}{vs:AV}(hx:ai t x=.i .i64 k)(hy:ai t y=.s nm)(hz:ai t z=.i .i64 m)(hv:ai t v=vs)(hw:ai t w=.ag cl)(hl:cl.length=7)(hvs:vs.cells=some [vs]):
  bH (.build 93 #[(0,x),(1,y),(2,z),(3,v),(4,w)]) prog S t st=some (.ag (.i .i64 k::.s nm::.i .i64 m::vs::cl),st):=by
 obtain⟨fs,h1,h2,h3,h4,h5,h6⟩:=ZY;show @Bool.rec (fun _=>aR) none (df prog 93 [(0,ai t x),(1,ai t y),(2,ai t z),(3,ai t v),(4,ai t w)] st) (fu prog 93)=_
 rw[YE,hx,hy,hz,hv,hw];show df prog 93 _ st=_
 unfold df;rw[h1];obtain⟨a,b,c,d,e,f,g,rfl⟩:=Ps hl;simp only[FE,yI,jg,fill,h2,h3,h4,h5,h6,yk,EV,j9,hvs];rfl
end
def cH(st:St)(X:List Nat)(v:AV)(z:Nat)(l:ae):Prop :=
 v=l.slice z\/(l.len≠0/\∃ r g al q,v=.sl r 0 l.len z q/\st.ce r=some (l.flat,g,al)/\r<st.next/\g<st.next/\r∉X/\g∉X)
section
variable {X B : List Nat}{l : ae}
theorem cH.pure(st:St)(X:List Nat)(z:Nat)(l:ae):cH st X (l.slice z) z l:=.inl rfl
theorem cH.keep(h:cH st X v z l)(k:Kp A B st st')(hA:∀ x,x∈A->x∈X)(hB:∀ x,x∈B->x∈X):cH st' X v z l:=by
 rcases h with h|⟨h0,r,g,al,q,h1,h2,h3,h4,h5,h6⟩
 ·exact .inl h
 ·exact .inr ⟨h0,r,g,al,q,h1,k.ce h2 h3 h4 (fun hh=>h5 (hA _ hh)) (fun hh=>h6 (hB _ hh)),Q0 h3 k.next,Q0 h4 k.next,h5,h6⟩
theorem cH.sub(h:cH st X v z l)(hs:∀ x,x∈Y->x∈X):cH st Y v z l:=by
 rcases h with h|⟨h0,r,g,al,q,h1,h2,h3,h4,h5,h6⟩
 ·exact .inl h
 ·exact .inr ⟨h0,r,g,al,q,h1,h2,h3,h4,fun hh=>h5 (hs _ hh),fun hh=>h6 (hs _ hh)⟩
theorem cH.len{ty e:TypeId}(T:jv prog ty e z)(h:cH st X v z l)(s:St):ft prog s [ty] [v]=some (.i .i64 (l.len:Int),s):=by
 rcases h with rfl|⟨h0,r,g,al,q,rfl,-⟩
 ·exact aY T.und (l.bK z) (l.bJ z)
 ·exact aY T.und rfl rfl
theorem cH.cells(h:cH st X v z l):v.cells=some [v]:=by
 rcases h with rfl|⟨h0,r,g,al,q,rfl,-⟩
 ·exact l.Mw z
 ·simp
theorem cH.sc(h:cH st X v z l):bS v=true:=by
 rcases h with rfl|⟨h0,r,g,al,q,rfl,-⟩
 ·exact l.yu z
 ·rfl
theorem py(hp:l.pre m)(hz:m+7=z):l.flat.length=l.len*z:=by
 rw[ae.sU,ae.aC];have:∀ L:List (List AV× Ex),(∀ p∈L,p.1.length=m)->((L.map fun p=>p.1++p.2.cells).flatten).length=L.length*z:=by
  intro L;induction L with
  |nil=>grind
  |cons p L ih =>
   intro h;have h1:=h p (Z5 ..);have h2:=ih fun q hq=>h q (J8 _ hq)
   simp only[Z6,List.flatten_cons,Q3,Z7,h2,h1,p.2.aO];grind
 exact this _ hp
theorem cH.at(T:jv prog ty e z)(ha:et prog e=true)(hp:l.pre m)(hz:m+7=z)(h:cH st X v z l)(hi:i<l.list.length):
  ∃ a,indexAddr prog ty v (.i .i64 (i:Int))=some a/\∀ (A B:List Nat) (s:St),Kp A B st s->(∀ x,x∈A->x∈X)->(∀ x,x∈B->x∈X)->loadAt prog e s a=some (.ag (l.list[i].1++l.list[i].2.cells)):=by
 have hil:i<l.len:=by rw[ae.aC];grind
 obtain⟨r1,r2,r3⟩:=eR hp hz hi;have hl:(l.list[i].1++l.list[i].2.cells).length=z:=by grind[Ex.aO]
 rcases h with rfl|⟨h0,r,g,al,q,rfl,h2,h3,h4,h5,h6⟩
 ·refine⟨.rp (l.flat.drop (i*z)),?_,fun A B s _ _ _=>?_⟩
  ·rw[ae.cZ hil];exact dV T.und T.inf T.sz l.flat l.len i hil
  ·rw[r2,<-J4];exact kO T.inf ha T.sz hl
 ·refine⟨.p r (0+i*z),kQ T.und T.inf T.sz r 0 l.len i q hil,fun A B s k hA hB=>?_⟩;have hc:=k.ce h2 h3 h4 (fun hh=>h5 (hA _ hh)) (fun hh=>h6 (hB _ hh));have hf:=py hp hz;rw[lS T.inf ha,T.sz,au hc,Q8];have h7:i*z+z<=l.flat.length:=by
   have:=Nat.mul_le_mul_right z (show i+1<=l.len from hil);grind
  rw[lJ _ _ _ h7,r2,<-J4,<-hl,List.take_left];rfl
theorem cH.jP(hT:l.Ty m)(hz:eD m+7=z)(h:cH st X v z l):gF X st v (l.slice z):=by
 rcases h with rfl|⟨h0,r,g,al,q,rfl,h2,h3,h4,h5,h6⟩
 ·exact .pure (ae.mg hT z)
 ·rw[ae.cZ (i:=0) (by omega)];exact .slice h2 (py hT.pre hz).symm h3 h4 h5 h6 (.pure (ae.oF hT)) h0
end
def Bx(st:St)(X:List Nat)(v:AV):Ex->Prop
 |.mk k nm num ps b a l=>∃ bv av lv,v=.ag [.i .i64 k,.s nm,.i .i64 num,ps,bv,av,lv]/\cH st X bv 8 b/\cH st X av 7 a/\cH st X lv 11 l
theorem Bx.pure(st:St)(X:List Nat):∀ x:Ex,Bx st X (.ag x.cells) x
 |.mk k nm num ps b a l=>⟨_,_,_,rfl,.inl rfl,.inl rfl,.inl rfl⟩
theorem Bx.keep{X A B:List Nat}{v:AV}{st':St}(k:Kp A B st st')(hA:∀ x,x∈A->x∈X)(hB:∀ x,x∈B->x∈X):∀ {x:Ex},Bx st X v x->Bx st' X v x
 |.mk ..,⟨bv,av,lv,h1,h2,h3,h4⟩=>⟨bv,av,lv,h1,h2.keep k hA hB,h3.keep k hA hB,h4.keep k hA hB⟩
theorem Bx.sub{X Y:List Nat}{v:AV}(hs:∀ x,x∈Y->x∈X):∀ {x:Ex},Bx st X v x->Bx st Y v x
 |.mk ..,⟨bv,av,lv,h1,h2,h3,h4⟩=>⟨bv,av,lv,h1,h2.sub hs,h3.sub hs,h4.sub hs⟩
theorem Bx.jP{X:List Nat}{v:AV}:∀ {x:Ex},x.Ty->Bx st X v x->gF X st v (.ag x.cells)
 |.mk k nm num ps b a l,hT,⟨bv,av,lv,h1,h2,h3,h4⟩=>by subst h1;exact .ag (.cons (.pure rfl) (.cons (.pure rfl) (.cons (.pure rfl) (.cons (.pure hT.2.1.pure) (.cons (h2.jP hT.2.2.1 rfl) (.cons (h3.jP hT.2.2.2.1 rfl) (.cons (h4.jP hT.2.2.2.2 rfl) .nil)))))))
mutual
def cP:Ex->List Ex
 |.mk k nm num ps b a l=>.mk k nm num ps b a l::(nV b++(nV a++nV l))
def nV:ae->List Ex
 |.nil _=>[]
 |.cons _ x l=>cP x++nV l
end
theorem AE:∀ l:ae,nV l=(l.list.map fun p=>cP p.2).flatten
 |.nil _=>rfl
 |.cons p x l=>by simp[nV,ae.list,AE l]
def qg(l:ae)(i:Nat):List Ex:=((l.list.take i).map fun p=>cP p.2).flatten
theorem Dc(l:ae):qg l 0=[]:=by simp[qg]
theorem De{l:ae}(h:i<l.list.length):qg l (i+1)=qg l i++cP l.list[i].2:=by grind[qg,J5]
mutual
theorem CK:∀ x:Ex,(cP x).length=x.size
 |.mk k nm num ps b a l=>by simp only[cP,Z7,Q3,Fo,Ex.size];omega
theorem Fo:∀ l:ae,(nV l).length=l.size
 |.nil _=>rfl
 |.cons p x l=>by simp only[nV,Q3,CK,Fo,ae.size]
end
theorem CY(l:ae):∀ i,i<=l.list.length->(qg l i).length=eu l.list i
 |0,_=>by simp[Dc,mB]
 |i+1,h=>by rw[De (by omega:i<l.list.length),fY (by omega:i<l.list.length),Q3,CY l i (by omega),CK]
theorem IY(l:ae):qg l l.list.length=nV l:=by simp[qg,AE]
def Kw(W W':List Nat)(a b:St):Prop:=Kp W W a b/\∀ y∈W',y∈W\/a.next<=y
section
variable {W'' : List Nat}{d : St}
theorem Kw.refl(W:List Nat)(a:St):Kw W W a a:=⟨.refl _ _ _,fun _ h=>.inl h⟩
theorem Kw.of(k:Kp [] [] a b):Kw W W a b:=⟨k.sub (by simp) (by simp),fun _ h=>.inl h⟩
theorem Kw.out(h:Kw W W' a b)(hr:r<a.next)(h1:r∉W):r∉W':=fun hh=>by
 rcases h.2 r hh with h|h
 ·exact h1 h
 ·omega
theorem Kw.trans(h:Kw W W' a b)(k:Kw W' W'' b d):Kw W W'' a d :=
 ⟨⟨Q2 h.1.next k.1.next,fun r h1 h2=>(k.1.get r (Q0 h1 h.1.next) (h.out h1 h2)).trans (h.1.get r h1 h2),fun g h1 h2=>(k.1.live g (Q0 h1 h.1.next) (h.out h1 h2)).trans (h.1.live g h1 h2)⟩,fun y hy=>by
  rcases k.2 y hy with h1|h1
  ·exact h.2 y h1
  ·exact .inr (Q2 h.1.next h1)⟩
theorem Kw.ce(h:Kw W W' a b){r g:Nat}{l:List AV}{al:List Nat}(hc:a.ce r=some (l,g,al))(h1:r<a.next)(h2:g<a.next)(h3:r∉W)(h4:g∉W):b.ce r=some (l,g,al):=h.1.ce hc h1 h2 h3 h4
theorem cH.kw{l:ae}(h:cH a W v z l)(k:Kw W W' a b):cH b W' v z l:=by
 rcases h with h|⟨h0,r,g,al,q,h1,h2,h3,h4,h5,h6⟩
 ·exact .inl h
 ·exact .inr ⟨h0,r,g,al,q,h1,k.ce h2 h3 h4 h5 h6,Q0 h3 k.1.next,Q0 h4 k.1.next,k.out h3 h5,k.out h4 h6⟩
theorem Bx.kw{v:AV}(k:Kw W W' a b):∀ {x:Ex},Bx a W v x->Bx b W' v x
 |.mk ..,⟨bv,av,lv,h1,h2,h3,h4⟩=>⟨bv,av,lv,h1,h2.kw k,h3.kw k,h4.kw k⟩
end
def GS(c:Option Self)(g:Nat)(caps:List AV)(M0 L:Nat)(I:List Ex->List Nat->St->Prop)(root:Ex):Prop :=
 (∀ done W s,I done W s->∀ y∈W,y<s.next)/\(∀ done W s s',I done W s->Kp [] [] s s'->I done W s')/\
 ∀ (M:Nat),M0<=M->∀ (done:List Ex) (W:List Nat) (x:Ex) (v:AV) (s:St),x.Ty->done.length<L->I done W s->Bx s W v x->(v=.ag x.cells\/x=root)->∃ s' W',nj prog (Tw c M) g (v::caps) s=some (.tu [],s')/\I (done++[x]) W' s'/\Kw W W' s s'
def WN(c:Option Self)(x:Ex):Prop:=x.Ty->x.size<=1000000->∀ (g:Nat) (caps:List AV) (M0 L:Nat) (I:List Ex->List Nat->St->Prop) (root:Ex),GS c g caps M0 L I root->∀ (done:List Ex) (W:List Nat) (v:AV) (st:St) (N:Nat),done.length+x.size<=L->I done W st->Bx st W v x->(v=.ag x.cells\/x=root)->
 M0+x.size+10000000<=N->∃ st' W',(Tw c N).call 120 [v,.f (.func g) [] caps] st=some (.tu [],st')/\I (done++cP x) W' st'/\Kw W W' st st'
def Jh(I:List Ex->List Nat->St->Prop)(W:List Nat)(st s:St)(t:Tr AV)(rx:Nat)(fv pv:AV)(i n ks kl ki:Nat)(done:List Ex):Prop :=
 ab t 1=fv/\ab t 2=.p rx 0/\ab t ks=pv/\ab t kl=.i .i64 (n:Int)/\ab t ki=.i .i64 (i:Int)/\∃ W',I done W' s/\Kw W W' st s
def HN(I:List Ex->List Nat->St->Prop)(W:List Nat)(st s:St)(t:Tr AV)(rx:Nat)(fv:AV)(done:List Ex):Prop :=
 ab t 1=fv/\ab t 2=.p rx 0/\∃ W',I done W' s/\Kw W W' st s
theorem HH(hp:eO m p.1)(hT:p.2.Ty)(hz:eD m+7=z)(hzs:zs.length=z)(s:St):
  ∃ s',wt (s.aw zs) s.next 0 (p.1++p.2.cells)=some s'/\rd s' s.next (eD m) 7=some p.2.cells/\Kp [] [] s s'/\s.next<s'.next/\(p.1++p.2.cells).length=z:=by
 have h1:=hp.len;have hl:(p.1++p.2.cells).length=z:=by rw[Q3,h1,Ex.aO];exact hz
 obtain⟨s',w1,w2,w3,w4⟩:=cO (z:=zs) (by omega) (gX hp.sc (Ex.dH hT.wf));refine⟨s',w1,?_,w3,w4,hl⟩;rw[au w2,lJ _ _ _ (by omega),<-h1,Z9,<-p.2.aO,J6]
theorem PF:∀ x,WN c x:=by
 refine Ex.ind fun k nm num ps b a l hb ha hl=>?_
 intro hT hs g caps M0 L0 I root hS done W v st N hL0 hI hB hv hN;obtain⟨hSn,hSi,hSc⟩:=id hS;obtain⟨N,rfl⟩:∃ N',N=N'+1:=⟨N-1,by omega⟩;rw[dt rfl func120 rfl (Q1 rfl)];unfold aV;have hT':=hT;simp only[Ex.Ty]at hT;obtain⟨-,hps,hTb,hTa,hTl⟩:=hT;have hsz:(Ex.mk k nm num ps b a l).size=1+b.size+a.size+l.size:=by simp only[Ex.size]
 have hbl:=b.bZ;have hal:=a.bZ;have hll:=l.bZ;obtain⟨bv,av,lv,rfl,h2,h3,h4⟩:=id hB;have c0:=cz (st:=st) [.i .i64 k,.s nm,.i .i64 num,ps,bv,av,lv];have n0:st.next<(st.aw [.i .i64 k,.s nm,.i .i64 num,ps,bv,av,lv]).next:=Q4 _;have k0:Kp [] [] st (st.aw [.i .i64 k,.s nm,.i .i64 num,ps,bv,av,lv]):=.aw _ _ _;obtain⟨rx,hrx⟩:∃ r,st.next=r:=⟨_,rfl⟩;have hrX:rx∉W:=fun hh=>by have:=hSn _ _ _ hI _ hh;omega
 obtain⟨s0,hs0⟩:∃ s,st.aw [.i .i64 k,.s nm,.i .i64 num,ps,bv,av,lv]=s:=⟨_,rfl⟩;rw[hrx]at c0 n0;rw[hs0]at c0 n0 k0;have ld:loadAt prog 35 s0 (.p rx 0)=some (.ag [.i .i64 k,.s nm,.i .i64 num,ps,bv,av,lv]):=by rw[lS cI qQ,aH,au c0];rfl
 obtain⟨s1,W1,f1,f2,f3⟩:=hSc N (by omega) done W _ _ s0 hT' (by omega) (hSi _ _ _ _ hI k0) (hB.keep k0 (by simp) (by simp)) hv;have K1:=(Kw.of k0).trans f3;have c1:=f3.ce c0 n0 n0 hrX hrX;have n1:=Q0 n0 f3.1.next;have hr1:=f3.out n0 hrX;have b4:=h2.kw K1;have b5:=h3.kw K1;have b6:=h4.kw K1;have rb:rd s1 rx 4 1=some [bv]:=by rw[au c1];rfl
 obtain⟨A1,hA1⟩:∃ A,done++[Ex.mk k nm num ps b a l]=A:=⟨_,rfl⟩;rw[hA1]at f2;have lA:A1.length=done.length+1:=by rw[<-hA1];simp
 obtain⟨B1,hB1⟩:∃ B,A1++nV b=B:=⟨_,rfl⟩;have lB:B1.length=done.length+1+b.size:=by rw[<-hB1,Q3,Fo];omega
 obtain⟨C1,hC1⟩:∃ C,B1++nV a=C:=⟨_,rfl⟩;have lC:C1.length=done.length+1+b.size+a.size:=by rw[<-hC1,Q3,Fo];omega
 simp[f120,hrx,hs0,ld,f1,rb,b4.len fG,bw];generalize hL:bf _ _ _ _=L;obtain⟨t3,s3,rfl,z1,z2,W3,zI,zK⟩:=dy hL 0 b.list.length
  (fun i t s=>Jh I W1 s1 s t rx (.f (.func g) [] caps) bv i b.len 14 15 16 (A1++qg b i))
  (fun t s=>HN I W1 s1 s t rx (.f (.func g) [] caps) (B1)) (by rw[<-ae.aC];omega)
  ⟨by simp,by simp,by simp,by simp,by simp,W1,by rw[Dc,Q9];exact f2,.refl _ _⟩
  (by
   rintro i t s hi ⟨i1,i2,i4,il,ii,W',iI,iK⟩;clear hL;have hil:i<b.len:=by rw[ae.aC];exact hi
   have e5:(i:Int)<(b.len:Int):=by omega
   have e7:wr .i64 ((i:Int)+1)=((i+1:Nat):Int):=by rw[aZ (by omega) (by omega)];rfl
   have hmem:=J1 hi;have hTi:=ae.cU hTb _ hmem;have hsz':=ae.dU hmem;obtain⟨a0,ix,ldx⟩:=(b4.kw iK).at fG kI hTb.pre rfl hi;have ldi:=ldx [] [] s (.refl _ _ _) (by simp) (by simp);obtain⟨s4,w1,w2,w3,w4,w5⟩:=HH (m:=1) (z:=8) (zs:=jr) hTi.1 hTi.2 rfl rfl s;have w2:rd s4 s.next 1 7=some b.list[i].2.cells:=w2;have sto:=aI dn cV (s.aw jr) s.next 0 _ w5;obtain⟨s5,W'',x1,x2,x3⟩:=hb _ hmem hTi.2 (by omega) g caps M0 L0 I root hS _ _ _ s4 N (by rw[Q3,CY b i (by omega)];have:=fY hi;have:=AX b (i:=i+1) (by omega);omega) (hSi _ _ _ _ iI w3) (.pure _ _ _) (.inl rfl) (by omega);simp[i1,i4,il,ii,e5,e7,ix,ldi,aJ,qj,sto,w1,aH,w2,x1];exact⟨_,_,⟨rfl,rfl⟩,by simp[i1],by simp[i2],by simp[i4],by simp[il],by simp,W'',by rw[De hi,<-J4];exact x2,iK.trans ((Kw.of w3).trans x3)⟩)
  (by rintro t s ⟨i1,i2,i4,il,ii,W',iI,iK⟩;clear hL;simp[il,ii,ae.aC];exact⟨_,_,⟨rfl,rfl⟩,by simp[i1],by simp[i2],W',by rw[IY]at iI;first|exact iI|(rw[hB1]at iI;exact iI)|(rw[hC1]at iI;exact iI),iK⟩)
 clear hL;have c3:=zK.ce c1 n1 n1 hr1 hr1;have n3:=Q0 n1 zK.1.next;have hr3:=zK.out n1 hr1;have b5:=b5.kw zK;have b6:=b6.kw zK;have ra:rd s3 rx 5 1=some [av]:=by rw[au c3];rfl
 simp[z2,ra,b5.len jk,bw];generalize hL:bf _ _ _ _=L;obtain⟨t4,s4,rfl,u1,u2,W4,uI,uK⟩:=dy hL 2 a.list.length
  (fun i t s=>Jh I W3 s3 s t rx (.f (.func g) [] caps) av i a.len 26 27 28 (B1++qg a i))
  (fun t s=>HN I W3 s3 s t rx (.f (.func g) [] caps) (C1)) (by rw[<-ae.aC];omega)
  ⟨by simp[z1],by simp[z2],by simp,by simp,by simp,W3,by rw[Dc,Q9];exact zI,.refl _ _⟩
  (by
   rintro i t s hi ⟨i1,i2,i4,il,ii,W',iI,iK⟩;clear hL;have hil:i<a.len:=by rw[ae.aC];exact hi
   have e5:(i:Int)<(a.len:Int):=by omega
   have e7:wr .i64 ((i:Int)+1)=((i+1:Nat):Int):=by rw[aZ (by omega) (by omega)];rfl
   have hmem:=J1 hi;have hTi:=ae.cU hTa _ hmem;have hsz':=ae.dU hmem;obtain⟨a0,ix,ldx⟩:=(b5.kw iK).at jk qQ hTa.pre rfl hi;have ldi:=ldx [] [] s (.refl _ _ _) (by simp) (by simp);obtain⟨s4,w1,w2,w3,w4,w5⟩:=HH (p:=a.list[i]) (m:=0) (z:=7) (zs:=eM) hTi.1 hTi.2 rfl rfl s;have w2:rd s4 s.next 0 7=some a.list[i].2.cells:=w2;have sto:=aI cI aH (s.aw eM) s.next 0 _ w5;obtain⟨s5,W'',x1,x2,x3⟩:=ha _ hmem hTi.2 (by omega) g caps M0 L0 I root hS _ _ _ s4 N (by rw[Q3,CY a i (by omega)];have:=fY hi;have:=AX a (i:=i+1) (by omega);omega) (hSi _ _ _ _ iI w3) (.pure _ _ _) (.inl rfl) (by omega);simp[i1,i4,il,ii,e5,e7,ix,ldi,aJ,qH,sto,w1,aH,w2,x1];exact⟨_,_,⟨rfl,rfl⟩,by simp[i1],by simp[i2],by simp[i4],by simp[il],by simp,W'',by rw[De hi,<-J4];exact x2,iK.trans ((Kw.of w3).trans x3)⟩)
  (by rintro t s ⟨i1,i2,i4,il,ii,W',iI,iK⟩;clear hL;simp[il,ii,ae.aC];exact⟨_,_,⟨rfl,rfl⟩,by simp[i1],by simp[i2],W',by rw[IY]at iI;first|exact iI|(rw[hB1]at iI;exact iI)|(rw[hC1]at iI;exact iI),iK⟩)
 clear hL;have c4:=uK.ce c3 n3 n3 hr3 hr3;have b6:=b6.kw uK;have rl:rd s4 rx 6 1=some [lv]:=by rw[au c4];rfl
 simp[u2,rl,b6.len nY,bw];generalize hL:bf _ _ _ _=L;obtain⟨t5,s5,rfl,v1,v2,W5,vI,vK⟩:=dy hL 4 l.list.length
  (fun i t s=>Jh I W4 s4 s t rx (.f (.func g) [] caps) lv i l.len 37 38 39 (C1++qg l i))
  (fun t s=>HN I W4 s4 s t rx (.f (.func g) [] caps) (C1++nV l)) (by rw[<-ae.aC];omega)
  ⟨by simp[u1],by simp[u2],by simp,by simp,by simp,W4,by rw[Dc,Q9];exact uI,.refl _ _⟩
  (by
   rintro i t s hi ⟨i1,i2,i4,il,ii,W',iI,iK⟩;clear hL;have hil:i<l.len:=by rw[ae.aC];exact hi
   have e5:(i:Int)<(l.len:Int):=by omega
   have e7:wr .i64 ((i:Int)+1)=((i+1:Nat):Int):=by rw[aZ (by omega) (by omega)];rfl
   have hmem:=J1 hi;have hTi:=ae.cU hTl _ hmem;have hsz':=ae.dU hmem;obtain⟨a0,ix,ldx⟩:=(b6.kw iK).at nY zn hTl.pre rfl hi;have ldi:=ldx [] [] s (.refl _ _ _) (by simp) (by simp);obtain⟨s6,w1,w2,w3,w4,w5⟩:=HH (p:=l.list[i]) (m:=4) (z:=11) (zs:=qp) hTi.1 hTi.2 rfl rfl s;have w2:rd s6 s.next 4 7=some l.list[i].2.cells:=w2;have sto:=aI cy bU (s.aw qp) s.next 0 _ w5;obtain⟨s7,W'',x1,x2,x3⟩:=hl _ hmem hTi.2 (by omega) g caps M0 L0 I root hS _ _ _ s6 N (by rw[Q3,CY l i (by omega)];have:=fY hi;have:=AX l (i:=i+1) (by omega);omega) (hSi _ _ _ _ iI w3) (.pure _ _ _) (.inl rfl) (by omega);simp[i1,i4,il,ii,e5,e7,ix,ldi,aJ,dM,sto,w1,aH,w2,x1];exact⟨_,_,⟨rfl,rfl⟩,by simp[i1],by simp[i2],by simp[i4],by simp[il],by simp,W'',by rw[De hi,<-J4];exact x2,iK.trans ((Kw.of w3).trans x3)⟩)
  (by rintro t s ⟨i1,i2,i4,il,ii,W',iI,iK⟩;clear hL;simp[il,ii,ae.aC];exact⟨_,_,⟨rfl,rfl⟩,by simp[i1],by simp[i2],W',by rw[IY]at iI;first|exact iI|(rw[hB1]at iI;exact iI)|(rw[hC1]at iI;exact iI),iK⟩)
 clear hL;refine⟨s5,by simp[aG,aF],W5,?_,((K1.trans zK).trans uK).trans vK⟩;have:done++cP (Ex.mk k nm num ps b a l)=C1++nV l:=by rw[<-hC1,<-hB1,<-hA1];simp[cP]
 rw[this];exact vI
def jy:List ah->ah->Nat->Int
 |[],_,_=>-1
 |x::l,s,i=>if x=s then(i:Int) else jy l s (i+1)
theorem Jk:∀ (l:List ah) (s:ah) (i:Nat),(jy l s i = -1/\s∉l)\/∃ j,∃ h:j<l.length,jy l s i=((i+j:Nat):Int)/\l[j]=s
 |[],s,i=>.inl ⟨rfl,by simp⟩
 |x::l,s,i=>by
  unfold jy;by_cases h:x=s
  ·rw[if_pos h];exact .inr ⟨0,by simp,by simp,by simpa using h⟩
  ·rw[if_neg h];rcases Jk l s (i+1) with ⟨h1,h2⟩|⟨j,hj,h1,h2⟩
   ·exact .inl ⟨h1,by simp[h2];exact fun e=>h e.symm⟩
   ·exact .inr ⟨j+1,by simpa using hj,by rw[h1];omega,by simpa using h2⟩
theorem Jd(l:List ah)(s:ah):0<=jy l s 0↔s∈l:=by
 rcases Jk l s 0 with ⟨h1,h2⟩|⟨j,hj,h1,h2⟩
 ·rw[h1];simp[h2]
 ·rw[h1];constructor
  ·intro _;rw[<-h2];exact J1 hj
  ·intro _;omega
theorem Pl{s:ah}(h:s∈l):∃ j,∃ hj:j<l.length,jy l s 0=(j:Int)/\l[j]=s:=by
 rcases Jk l s 0 with ⟨h1,h2⟩|⟨j,hj,h1,h2⟩
 ·exact absurd h h2
 ·exact⟨j,hj,by rw[h1];simp,h2⟩
theorem aaf{s:ah}{y:Ex}(hc:st.ce rs=some ([.s s],g,al))(h1:rs<st.next)(h2:g<st.next)(n:Nat):
  (Tw c (n+1)).call 128 [.ag (.s nm::y.cells),.p rs 0] st=some (.b (decide (nm=s)),st.aw (.s nm::y.cells)):=by
 rw[dt rfl func128 rfl (Q1 rfl)];unfold aV;have c0:=cz (st:=st) (.s nm::y.cells);have k0:Kp [] [] st (st.aw (.s nm::y.cells)):=.aw _ _ _;have c1:=k0.ce hc h1 h2 (by simp) (by simp);have r0:rd (st.aw (.s nm::y.cells)) st.next 0 1=some [.s nm]:=by rw[au c0];rfl
 have r1:rd (st.aw (.s nm::y.cells)) rs 0 1=some [.s s]:=by rw[au c1];rfl
 simp[f128,r0,r1,cM,aG,aF]
theorem UB{s:ah}{b:ae}(hb:b.Ty 1)(hl:b.len<=1000000)(hc:st.ce rs=some ([.s s],g,al))(h1:rs<st.next)(h2:g<st.next)(hN:2000000<=N):
  ∃ st',(Tw c N).call 127 [b.slice 8,.f (.func 128) [] [.p rs 0]] st=some (.i .i64 (jy b.names s 0),st')/\Kp [] [] st st':=by
 obtain⟨N,rfl⟩:∃ N',N=N'+1:=⟨N-1,by omega⟩;rw[dt rfl func127 rfl (Q1 rfl)];unfold aV;have lb:=fun st:St=>aY (st:=st) underlying23 (b.bK 8) (b.bJ 8)
 simp[f127,lb,bw];generalize hL:bf _ _ _ _=L;have lr:=fW hL 0 b.list.length
  (fun i t s1=>ab t 0=b.slice 8/\ab t 1=.f (.func 128) [] [.p rs 0]/\ab t 7=.i .i64 (b.len:Int)/\ab t 8=.i .i64 (i:Int)/\jy b.names s 0=jy (b.names.drop i) s i/\Kp [] [] st s1)
  (fun t s1=>jy b.names s 0 = -1/\Kp [] [] st s1) (fun t s1=>ab t 4=.i .i64 (jy b.names s 0)/\Kp [] [] st s1) (by rw[<-ae.aC];omega)
  ⟨by simp,by simp,by simp,by simp,by simp,.refl _ _ _⟩
  (by
   rintro i t s1 hi ⟨i0,i1,il,ii,iP,iK⟩;clear hL;have hil:i<b.len:=by rw[ae.aC];exact hi
   have e5:(i:Int)<(b.len:Int):=by omega
   have e7:wr .i64 ((i:Int)+1)=((i+1:Nat):Int):=by rw[aZ (by omega) (by omega)];rfl
   have hmem:=J1 hi;have hTi:=ae.cU hb _ hmem;obtain⟨a0,ix,ldx⟩:=(cH.pure s1 [] 8 b).at fG kI hb.pre rfl hi;have ldi:=ldx [] [] s1 (.refl _ _ _) (by simp) (by simp);obtain⟨nm,hnm⟩:=hTi.1;rw[hnm]at ldi;have hn1:b.names.length=b.list.length:=by simp[ae.names]
   have hn2:b.names.drop i=nm::b.names.drop (i+1):=by rw[Q6 (by omega:i<b.names.length)];congr 1;simp[ae.names,gn,hnm,fD]
   have cl:=aaf (c:=c) (nm:=nm) (y:=b.list[i].2) (iK.ce hc h1 h2 (by simp) (by simp)) (Q0 h1 iK.next) (Q0 h2 iK.next) (N-1);rw[show N-1+1=N by omega]at cl;have cl':nj prog (Tw c N) 128 [.ag (.s nm::b.list[i].2.cells),.p rs 0] s1=_:=(mV func128 rfl).trans cl;have kk:=iK.trans (Kp.aw [] [] (.s nm::b.list[i].2.cells));have iP:jy b.names s 0=if nm=s then(i:Int) else jy (b.names.drop (i+1)) s (i+1):=by rw[iP,hn2];rfl
   by_cases hh:nm=s
   ·right;rw[if_pos hh]at iP;subst hh;simp[i0,i1,il,ii,e5,ix,ldi,cl'];exact⟨_,_,⟨rfl,rfl⟩,by simp[iP],kk⟩
   ·left;rw[if_neg hh]at iP;simp[i0,i1,il,ii,e5,e7,ix,ldi,cl',hh];exact⟨_,_,⟨rfl,rfl⟩,by simp[i0],by simp[i1],by simp[il],by simp,iP,kk⟩)
  (by
   rintro t s1 ⟨i0,i1,il,ii,iP,iK⟩;clear hL;have hn1:b.names.length=b.list.length:=by simp[ae.names]
   rw[<-hn1,V0]at iP;simp[il,ii,ae.aC];exact⟨_,_,⟨rfl,rfl⟩,iP,iK⟩)
 clear hL;rcases lr with ⟨t1,s1,rfl,hP,hK⟩|⟨t1,s1,rfl,hT,hK⟩
 ·exact⟨s1,by rw[hP];simp[aG,aF],hK⟩
 ·exact⟨s1,by simp[hT,aG,aF],hK⟩
def aN:Ex->ae
 |.mk _ _ _ _ b _ _=>b
def kD:Ex->ae
 |.mk _ _ _ _ _ a _=>a
theorem DU{X:List Nat}{x:Ex}(hT:x.Ty)(hs:x.size<=1000000)(hB:Bx st X v x)(s:ah)(hN:3000000<=N):
  (Tw c N).call 83 [v,.s s] st=some (.i .i64 (jy (aN x).names s 0),st):=by
 obtain⟨N,rfl⟩:∃ N',N=N'+1:=⟨N-1,by omega⟩;obtain⟨k,nm,num,ps,b,a,l⟩:=x;have hb:=hB.jP hT;refine jc rfl rfl (.inr (by decide)) (.cons hb (.cons (.pure rfl) .nil)) func83 rfl (Q1 rfl) rfl ?_;unfold aV;have hsz:(Ex.mk k nm num ps b a l).size=1+b.size+a.size+l.size:=by simp only[Ex.size]
 have hbl:=b.bZ;simp only[Ex.Ty]at hT;have c0:=cz (st:=aK) (Ex.mk k nm num ps b a l).cells;have n0:aK.next<(aK.aw (Ex.mk k nm num ps b a l).cells).next:=Q4 _;obtain⟨s0,hs0⟩:∃ s,aK.aw (Ex.mk k nm num ps b a l).cells=s:=⟨_,rfl⟩;obtain⟨r0,hr0⟩:∃ r,aK.next=r:=⟨_,rfl⟩;rw[hs0,hr0]at c0 n0;have c1:=cz (st:=s0) [.s s];have k1:Kp [] [] s0 (s0.aw [.s s]):=.aw _ _ _;have n1:s0.next<(s0.aw [.s s]).next:=Q4 _;have c01:=k1.ce c0 n0 n0 (by simp) (by simp);obtain⟨s1,hs1⟩:∃ t,s0.aw [.s s]=t:=⟨_,rfl⟩;obtain⟨r1,hr1⟩:∃ r,s0.next=r:=⟨_,rfl⟩;rw[hs1,hr1]at c1 n1;rw[hs1]at c01;have rb:rd s1 r0 4 1=some [b.slice 8]:=by rw[au c01];rfl
 obtain⟨s2,h1,h2⟩:=UB (c:=c) hT.2.2.1 (by omega) c1 n1 n1 (N:=N) (by omega);simp[f83,hr0,hs0,hr1,hs1,rb,h1,aG,aF,aN]
def eV(st:St)(X:List Nat)(w:AV)(l:List ah):Prop:=((lenOf w=some 0/\lH w=false/\bS w=true/\w.cells=some [w])/\l=[])\/∃ r f al q rest,w=.sl r 0 l.length 1 q/\st.ce r=some (l.map .s++rest,f,al)/\r<st.next/\f<st.next/\r∉X/\f∉X
theorem eV.keep{X B:List Nat}(h:eV st X w l)(k:Kp A B st st')(hA:∀ x,x∈A->x∈X)(hB:∀ x,x∈B->x∈X):eV st' X w l:=by
 rcases h with h|⟨r,f,al,q,rest,h1,h2,h3,h4,h5,h6⟩
 ·exact .inl h
 ·exact .inr ⟨r,f,al,q,rest,h1,k.ce h2 h3 h4 (fun hh=>h5 (hA _ hh)) (fun hh=>h6 (hB _ hh)),Q0 h3 k.next,Q0 h4 k.next,h5,h6⟩
theorem eV.len{X:List Nat}(h:eV st X w l)(s:St):ft prog s [31] [w]=some (.i .i64 (l.length:Int),s):=by
 rcases h with ⟨hw,rfl⟩|⟨r,f,al,q,rest,rfl,-⟩
 ·grind[aY,underlying31]
 ·exact aY underlying31 rfl rfl
theorem eV.at{X:List Nat}(h:eV st X w l)(hi:i<l.length):∃ a,indexAddr prog 31 w (.i .i64 (i:Int))=some a/\∀ (A B:List Nat) (s:St),Kp A B st s->(∀ x,x∈A->x∈X)->(∀ x,x∈B->x∈X)->loadAt prog 9 s a=some (.s l[i]):=by
 rcases h with ⟨-,rfl⟩|⟨r,f,al,q,rest,rfl,h2,h3,h4,h5,h6⟩
 ·grind
 ·refine⟨.p r (0+i*1),kQ underlying31 jT oO r 0 l.length i q hi,fun A B s k hA hB=>?_⟩;have hc:=k.ce h2 h3 h4 (fun hh=>h5 (hA _ hh)) (fun hh=>h6 (hB _ hh));rw[oE jT nU,au hc,Q8,Z3,lJ _ _ _ (by grind),List.drop_append_of_le_length (by grind),Q6 (by grind)];simp
theorem eV.sc{X:List Nat}(h:eV st X w l):bS w=true/\w.cells=some [w]:=by
 rcases h with ⟨hw,-⟩|⟨r,f,al,q,rest,rfl,-⟩
 ·exact hw.2.2
 ·exact⟨rfl,by simp⟩
def Cf(c:Option Self)(g:Nat)(caps:List AV)(M0:Nat)(J:St->Prop)(del:ah->Bool):Prop:=∀ (M:Nat),M0<=M->∀ (s:St) (x:ah),J s->∃ s',nj prog (Tw c M) g (.s x::caps) s=some (.b (del x),s')/\J s'/\Kp [] [] s s'
def Rl(del:ah->Bool)(l:List ah)(v:AV):Prop:=∃ i,∃ h:i<l.length,v=.i .i64 (i:Int)/\del l[i]=true/\∀ x∈l.take i,del x=false
theorem Lq(hD:Cf c g caps M0 J del){X:List Nat}(hv:eV st X v l)(hl:l.length<=1000000)(hJ:J st)(hN:M0+2000000<=N):
  ∃ st' n,(Tw c N).call 160 [v,.f (.func g) [] caps] st=some (n,st')/\J st'/\Kp [] [] st st'/\((n=.i .i64 (-1)/\∀ x∈l,del x=false)\/Rl del l n):=by
 obtain⟨N,rfl⟩:∃ N',N=N'+1:=⟨N-1,by omega⟩;rw[dt rfl func160 rfl (Q1 rfl)];unfold aV;simp[f160,hv.len,bw];generalize hL:bf _ _ _ _=L;have lr:=fW hL 0 l.length
  (fun i t s1=>ab t 0=v/\ab t 1=.f (.func g) [] caps/\ab t 7=.i .i64 (l.length:Int)/\ab t 8=.i .i64 (i:Int)/\(∀ x∈l.take i,del x=false)/\J s1/\Kp [] [] st s1)
  (fun t s1=>(∀ x∈l,del x=false)/\J s1/\Kp [] [] st s1) (fun t s1=>Rl del l (ab t 4)/\J s1/\Kp [] [] st s1) (by omega)
  ⟨by simp,by simp,by simp,by simp,by simp,hJ,.refl _ _ _⟩
  (by
   rintro i t s1 hi ⟨i0,i1,il,ii,iP,iJ,iK⟩;have e5:(i:Int)<(l.length:Int):=by omega
   have e7:wr .i64 ((i:Int)+1)=((i+1:Nat):Int):=by rw[aZ (by omega) (by omega)];rfl
   obtain⟨a0,ix,ldx⟩:=hv.at hi;have ldi:=ldx [] [] s1 iK (by simp) (by simp);obtain⟨s2,d1,d2,d3⟩:=hD N (by omega) s1 l[i] iJ;cases hd:del l[i] with
   |true =>rw[hd]at d1;simp[i0,i1,il,ii,e5,ix,ldi,d1];exact⟨_,_,⟨rfl,rfl⟩,⟨i,hi,by simp,hd,iP⟩,d2,iK.trans d3⟩
   |false =>
    rw[hd]at d1;simp[i0,i1,il,ii,e5,e7,ix,ldi,d1];refine⟨_,_,⟨rfl,rfl⟩,by simp[i0],by simp[i1],by simp[il],by simp,fun x hx=>?_,d2,iK.trans d3⟩;rw[<-J5 hi]at hx;rcases List.mem_append.1 hx with hx|hx
    ·exact iP x hx
    ·rw[List.mem_singleton.1 hx];exact hd)
  (by rintro t s1 ⟨i0,i1,il,ii,iP,iJ,iK⟩;simp[il,ii];exact⟨_,_,⟨rfl,rfl⟩,by rwa [J6]at iP,iJ,iK⟩)
 rcases lr with ⟨t1,s1,rfl,hP,hJ,hK⟩|⟨t1,s1,rfl,⟨i,hi,hT,h1,h2⟩,hJ,hK⟩
 ·exact⟨s1,.i .i64 (-1),by simp[aG,aF],hJ,hK,.inl ⟨rfl,hP⟩⟩
 ·exact⟨s1,.i .i64 (i:Int),by simp[hT,aG,aF],hJ,hK,.inr ⟨i,hi,rfl,h1,h2⟩⟩
def kM(del:ah->Bool)(l:List ah):List ah:=l.filter fun x=>!del x
theorem BC(del:ah->Bool)(l:List ah)(x:ah):kM del (l++[x])=kM del l++(if del x then[] else[x]):=by grind[kM]
theorem ZR(del:ah->Bool)(l:List ah):(kM del l).length<=l.length:=List.length_filter_le _ _
theorem Vo(hi:i<=n):ia prog st 31 (.sl r 0 n 1 none) none (some (.i .i64 (i:Int))) none=some (.sl r 0 i 1 none):=by
 have h1:pY prog 31 1=true:=by kernel_rfl
 have h2:gy n n none (some (.i .i64 (i:Int))) none=some (0,i,n):=by
  show @Bool.rec (fun _=>Option (Nat× Nat× Nat)) none (some (0,i,n)) (J3 0 i&&J3 i n&&J3 n n&&true)=_
  simp_all[V1]
 simp_all[ia,slice]
theorem abx(hi:i<=n):ia prog st 31 (.sl r 0 n 1 none) (some (.i .i64 (i:Int))) none none=some (.sl r i (n-i) 1 none):=by
 have h1:pY prog 31 1=true:=by kernel_rfl
 have h2:gy n n (some (.i .i64 (i:Int))) none none=some (i,n,n):=by
  show @Bool.rec (fun _=>Option (Nat× Nat× Nat)) none (some (i,n,n)) (J3 i n&&J3 n n&&J3 n n&&true)=_
  simp_all[V1]
 simp_all[ia,slice]
structure Hm(del:ah->Bool)(l:List ah)(r f:Nat)(J:St->Prop)(st s:St)(i j:Nat):Prop where
 ce:∃ mid al,s.ce r=some ((kM del (l.take j)).map .s++(mid++(l.drop j).map .s),f,al)/\i+mid.length=j
 len:(kM del (l.take j)).length=i
 lt:i<j
 J:J s
 K:Kp [r] [f] st s
def T8(v fv:AV)(t:Tr AV)(i j:Nat):Prop:=ab t 0=v/\ab t 1=fv/\ab t 5=.i .i64 (i:Int)/\ab t 6=.i .i64 (j:Int)
def acm(del:ah->Bool)(l:List ah)(r f:Nat)(J:St->Prop)(st:St)(t:Tr AV)(s:St):Prop:=∃ i:Nat,ab t 0=.sl r 0 l.length 1 none/\ab t 5=.i .i64 (i:Int)/\Hm del l r f J st s i l.length
theorem No(h:∀ x∈l,del x=false):kM del l=l:=by grind[kM,List.filter_eq_self]
theorem T3(hD:Cf c g caps M0 J del){f:Nat}(hc:st.ce r=some (l.map .s,f,al))(hr:r<st.next)(hf:f<st.next)(h1:1<=l.length)(hl:l.length<=1000000)(hJ:J st)(hJk:∀ s s',J s->Kp [r] [f] s s'->J s')(hN:M0+3000000<=N):
  ∃ st' w,(Tw c N).call 124 [.sl r 0 l.length 1 none,.f (.func g) [] caps] st=some (w,st')/\(∀ X:List Nat,r∉X->f∉X->eV st' X w (kM del l))/\J st'/\Kp [r] [f] st st':=by
 obtain⟨N,rfl⟩:∃ N',N=N'+1:=⟨N-1,by omega⟩;rw[dt rfl func124 rfl (Q1 rfl)];unfold aV;have hv:∀ X:List Nat,r∉X->f∉X->eV st X (.sl r 0 l.length 1 none) l:=fun X x1 x2=>.inr ⟨r,f,al,none,[],rfl,by rw[Q9];exact hc,hr,hf,x1,x2⟩
 obtain⟨s0,n,q1,q2,q3,q4⟩:=Lq hD (hv [] (by simp) (by simp)) hl hJ (N:=N) (by omega);have K0:Kp [r] [f] st s0:=q3.sub (by simp) (by simp);rcases q4 with ⟨rfl,hno⟩|⟨i0,hi0,rfl,hd0,hb0⟩
 ·refine⟨s0,.sl r 0 l.length 1 none,?_,?_,q2,K0⟩
  ·simp[f124,q1,aG,aF]
  ·intro X x1 x2;rw[No hno];exact(hv X x1 x2).keep q3 (by simp) (by simp)
 ·have e1:¬ ((i0:Int) = -1):=by omega
  have e2:wr .i64 ((i0:Int)+1)=((i0+1:Nat):Int):=by rw[aZ (by omega) (by omega)];rfl
  have hc0:=q3.ce hc hr hf (by simp) (by simp);have hk0:kM del (l.take (i0+1))=l.take i0:=by rw[<-J5 hi0,BC,hd0,No hb0];simp
  have D0:Hm del l r f J st s0 i0 (i0+1):=by
   refine⟨⟨[.s l[i0]],al,?_,by simp⟩,by rw[hk0,List.length_take];omega,by omega,q2,K0⟩;rw[hc0,hk0];have e:l.map AV.s=(l.take i0).map AV.s++([AV.s l[i0]]++(l.drop (i0+1)).map AV.s):=by rw[List.singleton_append,<-Z6 (f:=AV.s),<-V2,<-Q6 hi0,List.take_append_drop]
   rw[<-e]
  simp[f124,q1,e1,e2,bw];generalize hL:bf _ _ _ _=L;obtain⟨t3,s3,rfl,⟨i3,z0,z5,zD⟩⟩:=dy hL 0 (l.length-(i0+1))
   (fun p t s=>∃ i,T8 (.sl r 0 l.length 1 none) (.f (.func g) [] caps) t i (i0+1+p)/\Hm del l r f J st s i (i0+1+p))
   (fun t s=>acm del l r f J st t s) (by omega)
   ⟨i0,⟨by simp,by simp,by simp,by simp⟩,D0⟩
   (by
    rintro p t s hp ⟨i,⟨t0,t1,t5,t6⟩,⟨mid,al',hce,hml⟩,hlen,hlt,sJ,sK⟩;clear hL;obtain⟨j,hj⟩:∃ j,i0+1+p=j:=⟨_,rfl⟩;rw[hj]at t6 hce hml hlen hlt;have hjl:j<l.length:=by omega
    have e5:(j:Int)<(l.length:Int):=by omega
    have e7:wr .i64 ((j:Int)+1)=((j+1:Nat):Int):=by rw[aZ (by omega) (by omega)];rfl
    have e8:wr .i64 ((i:Int)+1)=((i+1:Nat):Int):=by rw[aZ (by omega) (by omega)];rfl
    have ln:=aY (P:=prog) (st:=s) (v:=.sl r 0 l.length 1 none) underlying31 (n:=l.length) rfl rfl;have ix:=kQ (P:=prog) underlying31 jT oO r 0 l.length j none hjl;have ix2:=kQ (P:=prog) underlying31 jT oO r 0 l.length i none (by omega);rw[Q8,Z3]at ix ix2;have hrl:r<s.next:=Q0 hr sK.next;have hfl:f<s.next:=Q0 hf sK.next;have ld:rd s r j 1=some [.s l[j]]:=by rw[au hce,lJ _ _ _ (by simp;omega),V3,Z8 (by simp;omega),V4,V3,Z8 (by simp;omega),V4];simp only[Z4,hlen];rw[show j-i-mid.length=0 by omega,List.drop_zero,Q6 hjl];rfl
    obtain⟨s2,d1,d2,d3⟩:=hD N (by omega) s l[j] sJ;have hce2:=d3.ce hce hrl hfl (by simp) (by simp);have hdj:l.drop j=l[j]::l.drop (j+1):=Q6 hjl;have htk:l.take (j+1)=l.take j++[l[j]]:=(J5 hjl).symm;cases hd:del l[j] with
    |true =>
     rw[hd]at d1;simp[t0,t1,t6,ln,e5,e7,ix,ld,d1];refine⟨_,_,⟨rfl,rfl⟩,i,⟨by simp[t0],by simp[t1],by simp[t5],by simp;omega⟩,⟨mid++[.s l[j]],al',?_,by simp;omega⟩,?_,by omega,d2,sK.trans (d3.sub (by simp) (by simp))⟩
     ·rw[show i0+1+(p+1)=j+1 by omega,htk,BC,hd,hce2];simp;rw[Q6 (by simpa using hjl)];simp
     ·rw[show i0+1+(p+1)=j+1 by omega,htk,BC,hd];simpa using hlen
    |false =>
     rw[hd]at d1;obtain⟨m0,mid',rfl⟩:∃ m0 mid',mid=m0::mid':=by
      cases mid with
      |nil=>simp at hml;omega
      |cons m0 mid'=>exact⟨m0,mid',rfl⟩
     have hw:=bP hce2 i [.s l[j]] (by simp;omega) rfl;have hov:bO ((kM del (l.take j)).map AV.s++(m0::mid'++(l.drop j).map AV.s)) i [.s l[j]]=(kM del (l.take j)).map AV.s++(.s l[j]::mid'++(l.drop j).map AV.s):=by rw[Cx,List.set_append_right _ _ (by simp[hlen])];simp[hlen]
     rw[hov]at hw;obtain⟨s4,hs4⟩:∃ s4,s2.ax r ((kM del (l.take j)).map AV.s++(.s l[j]::mid'++(l.drop j).map AV.s)) f=s4:=⟨_,rfl⟩;have hce4:s4.ce r=some ((kM del (l.take j)).map AV.s++(.s l[j]::mid'++(l.drop j).map AV.s),f,[r]):=by rw[<-hs4];exact cj _ _ _
     have k4:Kp [r] [f] s2 s4:=by rw[<-hs4];exact .ax (by simp) (by simp)
     rw[hs4]at hw;simp[t0,t1,t5,t6,ln,e5,e7,e8,ix,ix2,ld,d1,db jT oO,hw];refine⟨_,_,⟨rfl,rfl⟩,i+1,⟨by simp[t0],by simp[t1],by simp,by simp;omega⟩,⟨mid'++[.s l[j]],[r],?_,by simp at hml|-;omega⟩,?_,by omega,hJk _ _ d2 k4,(sK.trans (d3.sub (by simp) (by simp))).trans k4⟩
     ·rw[show i0+1+(p+1)=j+1 by omega,htk,BC,hd,hce4];simp;rw[Q6 (by simpa using hjl)];simp
     ·rw[show i0+1+(p+1)=j+1 by omega,htk,BC,hd];simp[hlen])
   (by rintro t s ⟨i,⟨t0,t1,t5,t6⟩,sD⟩;clear hL;have ln:=aY (P:=prog) (st:=s) (v:=.sl r 0 l.length 1 none) underlying31 (n:=l.length) rfl rfl;rw[show i0+1+(l.length-(i0+1))=l.length by omega]at t6 sD;simp[t0,t6,ln];exact⟨_,_,⟨rfl,rfl⟩,i,by simp[t0],by simp[t5],sD⟩)
  clear hL;obtain⟨⟨mid,al',hce,hml⟩,hlen,hlt,sJ,sK⟩:=zD;rw[J6]at hce hlen;rw[V0]at hce;simp only[List.map_nil,Q9]at hce;have hz:bm prog 9=some [.s []]:=LN;have hrep:∀ m:Nat,(rep m [AV.s []]).length=m/\bq (rep m [AV.s []])=true:=by
   intro m;induction m with
   |zero=>exact⟨rfl,rfl⟩
   |succ m ih=>exact⟨by simp[rep,ih.1],by simp[rep,ih.2]⟩
  have hw:=bP hce i3 (rep (l.length-i3) [AV.s []]) (by rw[(hrep _).1];simp;omega) (hrep _).2;obtain⟨s4,hs4⟩:∃ s4,s3.ax r (bO ((kM del l).map AV.s++mid) i3 (rep (l.length-i3) [AV.s []])) f=s4:=⟨_,rfl⟩;have hce4:s4.ce r=some (bO ((kM del l).map AV.s++mid) i3 (rep (l.length-i3) [AV.s []]),f,[r]):=by rw[<-hs4];exact cj _ _ _
  have k4:Kp [r] [f] s3 s4:=by rw[<-hs4];exact .ax (by simp) (by simp)
  rw[hs4]at hw;have hcl:vA prog s3 [31] [.sl r i3 (l.length-i3) 1 none]=some (.tu [],s4):=by
   show(match ez prog 31 with|some e=>Ik prog s3 e (.sl r i3 (l.length-i3) 1 none)|none=>none)=_
   rw[fM.el];show @Bool.rec (fun _=>aR) (yz s3 r i3 (l.length-i3) (bm prog 9)) (some (.tu [],s3)) (Nat.beq (l.length-i3) 0)=_
   rw[show Nat.beq (l.length-i3) 0=false by rw[bu];simp;omega,hz];show DK (wt s3 r i3 (rep (l.length-i3) [.s []]))=_
   rw[hw];rfl
  have hop:∀ t:Tr AV,ai t (.tmp 38)=.sl r i3 (l.length-i3) 1 none->bH (Op.call { callee:=.builtin .clear,args:=#[.tmp 38],argTypes:=#[31] }) prog (Tw c N) t s3=some (.tu [],s4):=fun t h=>by
   show vA prog s3 [31] [ai t (.tmp 38)]=_
   rw[h];exact hcl
  refine⟨s4,.sl r 0 i3 1 none,?_,?_,hJk _ _ sJ k4,sK.trans k4⟩
  ·simp[z0,z5,abx (show i3<=l.length by omega),Vo (show i3<=l.length by omega),hop,aG,aF]
  ·intro X x1 x2;refine .inr ⟨r,f,[r],none,rep (l.length-i3) [AV.s []],by rw[hlen],?_,Q0 hr (sK.trans k4).next,Q0 hf (sK.trans k4).next,x1,x2⟩;rw[hce4,kg _ _ _ (by rw[(hrep _).1];simp;omega),(hrep _).1];congr 2;rw[List.take_append_of_le_length (by simp[hlen]),List.take_of_length_le (by simp[hlen]),Z8 (by simp;omega),Q9]
theorem PR(hD:Cf c g caps M0 J del)(hv:eV st [] w [])(hJ:J st)(hN:M0+3000000<=N):
  ∃ st',(Tw c N).call 124 [w,.f (.func g) [] caps] st=some (w,st')/\J st'/\Kp [] [] st st':=by
 obtain⟨N,rfl⟩:∃ N',N=N'+1:=⟨N-1,by omega⟩;rw[dt rfl func124 rfl (Q1 rfl)];unfold aV;obtain⟨s0,n,q1,q2,q3,q4⟩:=Lq hD hv (by simp) hJ (N:=N) (by omega);rcases q4 with ⟨rfl,-⟩|⟨i0,hi0,-⟩
 ·refine⟨s0,?_,q2,q3⟩;simp[f124,q1,aG,aF]
 grind
@[simp] theorem adr:bp prog 56=true:=by kernel_rfl
@[simp] theorem aeC:et prog 56=false:=by kernel_rfl
@[simp] theorem aeg:ey prog 60 0=some 0:=by kernel_rfl
@[simp] theorem aeq:ey prog 60 1=some 1:=by kernel_rfl
@[simp] theorem aeN:ey prog 60 2=some 2:=by kernel_rfl
@[simp] theorem afA:ey prog 60 3=some 3:=by kernel_rfl
theorem H9:bm prog 31=some [.sn]:=by kernel_rfl
def jL(T:ah->Bool):ah->Option AV:=fun s=>if T s=true then some (.b true) else none
theorem Ju(T:ah->Bool)(s:ah):(jL T s).getD (.b false)=.b (T s):=by unfold jL;cases h:T s<;>simp
theorem GG(T:ah->Bool)(s:ah):upd (jL T) s (.b true)=jL (fun x=>decide (x=s)||T x):=by
 funext x;unfold upd jL;by_cases h:x=s
 ·simp[h]
 ·simp[h]
def At(st:St)(r:Nat)(l:List AV):Prop:=∃ g al,st.ce r=some (l,g,al)/\r<st.next/\g<st.next
def bA(st:St)(X:List Nat)(r:Nat)(l:List AV):Prop:=∃ g al,st.ce r=some (l,g,al)/\r<st.next/\g<st.next/\r∉X/\g∉X
theorem bA.keep{X B:List Nat}{l:List AV}(h:bA st X r l)(k:Kp A B st st')(hA:∀ x,x∈A->x∈X)(hB:∀ x,x∈B->x∈X):bA st' X r l:=by obtain⟨g,al,h1,h2,h3,h4,h5⟩:=h;exact⟨g,al,k.ce h1 h2 h3 (fun hh=>h4 (hA _ hh)) (fun hh=>h5 (hB _ hh)),Q0 h2 k.next,Q0 h3 k.next,h4,h5⟩
theorem bA.kw{l:List AV}(h:bA a W r l)(k:Kw W W' a b):bA b W' r l:=by obtain⟨g,al,h1,h2,h3,h4,h5⟩:=h;exact⟨g,al,k.ce h1 h2 h3 h4 h5,Q0 h2 k.1.next,Q0 h3 k.1.next,k.out h2 h4,k.out h3 h5⟩
theorem bA.rd{X:List Nat}{r o n:Nat}{l:List AV}(h:bA st X r l):Go.Ev.rd st r o n=cut l o n:=by obtain⟨g,al,h1,-⟩:=h;exact au h1
theorem bA.new(st:St)(X:List Nat)(l:List AV)(hX:∀ x∈X,x<st.next):bA (st.aw l) X st.next l :=
 ⟨_,_,cz l,Q4 _,Q4 _,fun hh=>by have:=hX _ hh;omega,fun hh=>by have:=hX _ hh;omega⟩
structure KO(b0:St)(X:List Nat)(rp lr mn re:Nat)(rest cells:List AV)(T:ah->Bool)(x:Ex):Prop where
 rp:bA b0 X rp [.p lr 0]
 lr:bA b0 X lr (.m mn::rest)
 mp:cS b0 mn (jL T)
 mX:mn∉X
 mn:mn<b0.next
 re:bA b0 X re cells
 c7:cells.length=7
 bx:Bx b0 X (.ag cells) x
theorem Ln{X:List Nat}{rp re:Nat}{cells:List AV}{T:ah->Bool}{x:Ex}(hJ:KO b0 X rp lr mn re rest cells T x)(hT:x.Ty)(hs:x.size<=1000000):
  Cf c 125 [.p rp 0,.p re 0] 4000000 (fun s=>Kp X X b0 s) (fun s=>T s||decide (s∈(aN x).names)):=by
 intro M hM s y hK;obtain⟨N,rfl⟩:∃ N',M=N'+1:=⟨M-1,by omega⟩;have h1:=(hJ.rp.keep hK (fun _ h=>h) (fun _ h=>h)).rd (o:=0) (n:=1);have h2:=(hJ.lr.keep hK (fun _ h=>h) (fun _ h=>h)).rd (o:=0) (n:=1);have h3:=(hJ.re.keep hK (fun _ h=>h) (fun _ h=>h)).rd (o:=0) (n:=7);have h4:=(hJ.mp.keep hK hJ.mn hJ.mX).get gW y;rw[Ju]at h4;have hB:=hJ.bx.keep hK (fun _ h=>h) (fun _ h=>h);have hp:=DU (c:=c) hT hs hB y (N:=N) (by omega);have hm:=Jd (aN x).names y;have c1:cut [AV.p lr 0] 0 1=some [.p lr 0]:=rfl;have c2:cut (AV.m mn::rest) 0 1=some [.m mn]:=by simp
 have c3:cut cells 0 7=some cells:=by rw[cQ,<-hJ.c7,dD]
 rw[c1]at h1;rw[c2]at h2;rw[c3]at h3;refine⟨s,?_,hK,.refl _ _ _⟩;rw[mV func125 rfl,dt rfl func125 rfl (Q1 rfl)];unfold aV;cases hT':T y with
 |true =>rw[hT']at h4;simp[f125,h1,h2,h4,hT',aG,aF]
 |false =>rw[hT']at h4;simp[f125,h1,h2,h4,aH,h3,hp,hm,hT',aG,aF]
theorem Yn(s:ah){X:List Nat}(hw:gF X st w v)(hv:de v (l.map .s))(hl:l.length<=9223372036854775807)(hN:10000000000000000001<=N):
  (Tw c N).call 38 [w,.s s] st=some (.b (decide (s∈l)),st):=by
 obtain⟨N,rfl⟩:∃ N',N=N'+1:=⟨N-1,by omega⟩;refine jc rfl rfl (.inr (by decide)) (.cons hw (.cons (.pure rfl) .nil)) func38 rfl (Q1 rfl) rfl ?_;unfold aV;obtain⟨n,h1,h2⟩:=Ng (c:=c) (st:=aK) s hv hl (N:=N) (by omega);simp[f38,h1,aG,aF,h2]
theorem Gx:∀ l:List ah,de (jS l) (l.map .s)
 |[]=>.inl ⟨rfl,rfl⟩
 |s::l=>.inr (by simp[jS])
theorem aW.jP{g:Option Nat}(h:aW st lo 1 v n (l.map .s) g):∃ w,gF [] st v w/\de w (l.map .s):=by
 rcases h with ⟨rfl,rfl,h,-⟩|⟨r,rfl,rfl,h,-⟩|⟨r,f,al,-,rfl,h1,h2,h3,h4,h5,h6,h7⟩
 ·exact⟨.sn,.pure rfl,.inl ⟨rfl,h⟩⟩
 ·exact⟨.rs [] 0 1,.tP,.inr (by rw[h];rfl)⟩
 ·refine⟨.rs (l.map .s) n 1,.slice h1 h2.symm h6 h7 (by simp) (by simp) (.pure (jD l)) (by omega),.inr ?_⟩;have:(l.map AV.s).length=n:=by omega
  rw[this]
def iw:Ex->ah
 |.mk _ nm _ _ _ _ _=>nm
def sf(all:List ah)(out:List ah)(y:Ex):List ah:=if y.kind=1/\iw y∈all/\iw y∉out then out++[iw y] else out
def lT(all:List ah)(out:List ah)(ys:List Ex):List ah:=ys.foldl (sf all) out
theorem Sc(all out:List ah)(y:Ex):(sf all out y).length<=out.length+1:=by unfold sf;split<;>simp
theorem Dv(all out:List ah)(ys:List Ex)(y:Ex):lT all out (ys++[y])=sf all (lT all out ys) y:=by simp[lT]
theorem Js(all:List ah):∀ (ys:List Ex) (out:List ah),(lT all out ys).length<=out.length+ys.length
 |[],out=>by simp[lT]
 |y::ys,out=>by
  have h1:=Js all ys (sf all out y);have h2:=Sc all out y;show(lT all (sf all out y) ys).length<=_
  simp only[Z7];omega
structure Hg(b0:St)(rA rO lo:Nat)(all out0:List ah)(done:List Ex)(W:List Nat)(s:St):Prop where
 h:∃ ov g al,s.ce rO=some ([ov],rO,al)/\aW s lo 1 ov (lT all out0 done).length ((lT all out0 done).map .s) g/\W=rO::g.toList
 o:rO<s.next
 hlo:rO<lo
 hlo2:lo<=s.next
 A:At s rA [jS all]
 AW:rA∉W
 gA:∀ g al l,s.ce rA=some (l,g,al)->g∉W
theorem abd{rA rO:Nat}{all out0:List ah}{root:Ex}{L:Nat}(hL:out0.length+L<=5000000)(hall:all.length<=9223372036854775807):GS c 123 [.p rA 0,.p rO 0] 10000000000000000010 L (Hg b0 rA rO lo all out0) root:=by
 refine⟨fun done W s hI=>?_,fun done W s s' hI hK=>?_,fun M hM done W x v s hT hd hI hB _=>?_⟩
 ·obtain⟨⟨ov,g,al,h1,h2,rfl⟩,h3,-⟩:=hI;intro y hy;rcases J9.1 hy with rfl|hy
  ·exact h3
  ·exact(h2.fJ y (by simpa using hy)).2
 ·obtain⟨⟨ov,g,al,h1,h2,rfl⟩,h3,h4,h5,h6,h7,h8⟩:=hI;obtain⟨ga,ala,a1,a2,a3⟩:=h6;have a4:=hK.ce a1 a2 a3 (by simp) (by simp);refine⟨⟨ov,g,al,hK.ce h1 h3 h3 (by simp) (by simp),h2.keep hK (by simp) (by simp),rfl⟩,Q0 h3 hK.next,h4,Q2 h5 hK.next,⟨ga,ala,a4,Q0 a2 hK.next,Q0 a3 hK.next⟩,h7,fun g' al' l' hh=>?_⟩;rw[a4]at hh;cases hh;exact h8 _ _ _ a1
 ·obtain⟨N,rfl⟩:∃ N',M=N'+1:=⟨M-1,by omega⟩;obtain⟨⟨ov,g,al,h1,h2,rfl⟩,h3,h4,h5,h6,h7,h8⟩:=hI;obtain⟨ga,ala,a1,a2,a3⟩:=h6;have a5:=h8 _ _ _ a1;obtain⟨k,nm,num,ps,b,a,l⟩:=x;obtain⟨bv,av,lv,rfl,-⟩:=hB;have c0:=cz (st:=s) [.i .i64 k,.s nm,.i .i64 num,ps,bv,av,lv];have k0:Kp [] [] s (s.aw [.i .i64 k,.s nm,.i .i64 num,ps,bv,av,lv]):=.aw _ _ _;have n0:s.next<(s.aw [.i .i64 k,.s nm,.i .i64 num,ps,bv,av,lv]).next:=Q4 _;obtain⟨rx,hrx⟩:∃ r,s.next=r:=⟨_,rfl⟩;obtain⟨s0,hs0⟩:∃ t,s.aw [.i .i64 k,.s nm,.i .i64 num,ps,bv,av,lv]=t:=⟨_,rfl⟩;rw[hrx]at c0 n0;rw[hs0]at c0 n0 k0;have h1':=k0.ce h1 h3 h3 (by simp) (by simp);have a1':=k0.ce a1 a2 a3 (by simp) (by simp);have h2':=h2.keep k0 (by simp) (by simp);obtain⟨wo,q1,q2⟩:=aW.jP h2';have hlen:=Js all done out0;obtain⟨out,hout⟩:∃ o,lT all out0 done=o:=⟨_,rfl⟩;rw[hout]at hlen h2' q2;have ca:=fun st:St=>Hp (c:=c) (st:=st) nm (Gx all) hall (N:=N) (by omega)
  have co:=Yn (c:=c) nm q1 q2 (by omega) (N:=N) (by omega);have r0:rd s0 rx 0 1=some [.i .i64 k]:=by rw[au c0];rfl
  have r1:rd s0 rx 1 1=some [.s nm]:=by rw[au c0];rfl
  have rA1:rd s0 rA 0 1=some [jS all]:=by rw[au a1'];rfl
  have rO1:rd s0 rO 0 1=some [ov]:=by rw[au h1'];rfl
  have hA':At s0 rA [jS all]:=⟨ga,ala,a1',Q0 a2 k0.next,Q0 a3 k0.next⟩;have hfin:∀ done',lT all out0 done'=out->Hg b0 rA rO lo all out0 done' (rO::g.toList) s0:=fun done' hd' =>
   ⟨⟨ov,g,al,h1',by rw[hd'];exact h2',rfl⟩,Q0 h3 k0.next,h4,Q2 h5 k0.next,hA',h7,fun g' al' l' hh=>by rw[a1']at hh;cases hh;exact a5⟩
  rw[mV func123 rfl,dt rfl func123 rfl (Q1 rfl)];unfold aV;by_cases hk:k=1
  ·subst hk;by_cases ha:nm∈all
   ·by_cases ho:nm∈out
    ·refine⟨s0,_,?_,hfin _ ?_,Kw.of k0⟩
     ·simp[f123,hrx,hs0,r0,r1,rA1,rO1,ca,co,ha,ho,aG,aF]
     ·rw[Dv,hout];simp[sf,iw,ho]
    ·have bo:=fun(t:Tr AV) (h:ai t (.tmp 22)=.s nm)=>gT (S:=Tw c N) (st:=s0) fM (cs:=[.s nm]) (by rw[h]; simp) rfl
     obtain⟨v',g',s4,w1,w2,w3,w4⟩:=h2'.mc fM (new:=[.s nm]) rfl rfl (by omega) (Q2 h5 k0.next);have hg:=h2'.fJ;have n3:=Q0 h3 k0.next;have h14:=w3.ce h1' n3 n3 (by simp) (fun hh=>by have:=hg _ (by simpa using hh);omega);have hw:=bP h14 0 [v'] (by simp) (by rw[vB,w2.sc];rfl);obtain⟨s5,hs5⟩:∃ t,s4.ax rO [v'] rO=t:=⟨_,rfl⟩;rw[gZ]at hw;have e5:over [ov] [v']=[v']:=rfl;rw[e5,hs5]at hw;have k5:Kp [rO] [rO] s4 s5:=by rw[<-hs5];exact .ax (by simp) (by simp)
     have o5:s5.ce rO=some ([v'],rO,[rO]):=by rw[<-hs5];exact cj _ _ _
     have sto:=db qS vX s4 rO 0 v' w2.cells;have hgo:g'=g\/∃ x,g'=some x/\s0.next<=x:=w4;have W5:aW s5 lo 1 v' (out.length+1) (out.map .s++[.s nm]) g':=w2.keep k5 (by simp;omega) (by simp;exact .inl h4);have k45:Kp (rO::g.toList) (rO::g.toList) s0 s5:=(w3.sub (by simp) (fun x hx=>J8 _ hx)).trans (k5.sub (by simp) (by simp));have a15:s5.ce rA=some ([jS all],ga,ala):=k45.ce a1' (Q0 a2 k0.next) (Q0 a3 k0.next) h7 a5;have out':∀ y,y<s0.next->y∉rO::g.toList->y∉rO::g'.toList:=by
      intro y hy hn hh;rcases J9.1 hh with rfl|hh
      ·exact hn (Z5 ..)
      ·rcases hgo with rfl|⟨z,rfl,hz⟩
       ·exact hn (J8 _ hh)
       ·have:y=z:=by simpa using hh
        omega
     refine⟨s5,rO::g'.toList,?_,⟨⟨v',g',[rO],o5,?_,rfl⟩,Q0 n3 k45.next,h4,Q2 h5 (Q2 k0.next k45.next),⟨ga,ala,a15,Q0 a2 (Q2 k0.next k45.next),Q0 a3 (Q2 k0.next k45.next)⟩,out' _ (Q0 a2 k0.next) h7,fun g1 al1 l1 hh=>by rw[a15]at hh;cases hh;exact out' _ (Q0 a3 k0.next) a5⟩,(Kw.of k0).trans ⟨k45,fun y hy=>?_⟩⟩
     ·simp[f123,hrx,hs0,r0,r1,rA1,rO1,ca,co,ha,ho,bo,w1,sto,hw,aG,aF]
     ·have:lT all out0 (done++[Ex.mk 1 nm num ps b a l])=out++[nm]:=by rw[Dv,hout];simp[sf,iw,ho,ha,Ex.kind]
      rw[this,V2,Q3];exact W5
     ·rcases J9.1 hy with rfl|hy
      ·exact .inl (Z5 ..)
      ·rcases hgo with rfl|⟨z,rfl,hz⟩
       ·exact .inl (J8 _ hy)
       ·right;have:y=z:=by simpa using hy
        omega
   ·refine⟨s0,_,?_,hfin _ ?_,Kw.of k0⟩
    ·simp[f123,hrx,hs0,r0,r1,rA1,ca,ha,aG,aF]
    ·rw[Dv,hout];simp[sf,iw,ha]
  ·refine⟨s0,_,?_,hfin _ ?_,Kw.of k0⟩
   ·simp[f123,hrx,hs0,r0,hk,aG,aF]
   ·rw[Dv,hout];simp[sf,Ex.kind,hk]
open Classical in
def mD(c:Option Self)(n:Nat)(y:Ex):List ah:=if h:∃ l:List ah,l.length<=1000000/\∀ st,(Tw c n).call 122 [.ag y.cells] st=some (jS l,st) then h.choose else[]
open Classical in
theorem UN{y:Ex}(hT:y.Ty)(hs:y.size<=1000000)(hN:10000000000010000000<=N):(mD c N y).length<=1000000/\∀ st,(Tw c N).call 122 [.ag y.cells] st=some (jS (mD c N y),st):=by obtain⟨N,rfl⟩:∃ N',N=N'+1:=⟨N-1,by omega⟩;have h:=acB (c:=c) y hT hs (N:=N) (by omega);unfold mD;rw[dif_pos h];exact h.choose_spec
def mM(fv:Ex->List ah):List (List AV× Ex)->List ah->List ah
 |[],out=>out
 |p::L,out=>mM fv L (lT (fv p.2) out (cP p.2))
theorem Na(fv:Ex->List ah):∀ (L:List (List AV× Ex)) (p:List AV× Ex) (out:List ah),mM fv (L++[p]) out=lT (fv p.2) (mM fv L out) (cP p.2)
 |[],p,_=>rfl
 |q::L,p,_=>Na fv L p _
theorem Fl(fv:Ex->List ah):∀ (L:List (List AV× Ex)) (out:List ah),(mM fv L out).length<=out.length+(L.map fun p=>p.2.size).sum
 |[],out=>by simp[mM]
 |p::L,out=>by
  have h1:=Fl fv L (lT (fv p.2) out (cP p.2));have h2:=Js (fv p.2) (cP p.2) out;rw[CK]at h2;show(mM fv L (lT (fv p.2) out (cP p.2))).length<=_
  simp only[Z6,List.sum_cons];omega
def fZ(c:Option Self)(n:Nat)(T:ah->Bool)(x:Ex):List ah:=kM (fun s=>T s||decide (s∈(aN x).names)) (mM (mD c n) (aN x).list [])
structure KS(s0 s:St)(rO lo:Nat)(out:List ah)(W:List Nat):Prop where
 h:∃ ov g al,s.ce rO=some ([ov],rO,al)/\aW s lo 1 ov out.length (out.map .s) g/\W=rO::g.toList
 o:rO<s.next
 hlo2:lo<=s.next
 K:Kw [rO] W s0 s
def Yp(rp re rO:Nat)(bv:AV)(n i:Nat)(t:Tr AV):Prop:=ab t 2=.p rp 0/\ab t 3=.p re 0/\ab t 5=.p rO 0/\ab t 10=bv/\ab t 11=.i .i64 (n:Int)/\ab t 12=.i .i64 (i:Int)
def FrU(rp re rO:Nat)(t:Tr AV):Prop:=ab t 2=.p rp 0/\ab t 3=.p re 0/\ab t 5=.p rO 0
theorem IC(hp:eO m p.1)(hT:p.2.Ty)(hz:eD m+7=z)(hzs:zs.length=z)(s:St):
  ∃ s',wt (s.aw zs) s.next 0 (p.1++p.2.cells)=some s'/\bA s' [] s.next (p.1++p.2.cells)/\cut (p.1++p.2.cells) (eD m) 7=some p.2.cells/\Kp [] [] s s'/\s.next<s'.next/\(p.1++p.2.cells).length=z:=by
 have h1:=hp.len;have hl:(p.1++p.2.cells).length=z:=by rw[Q3,h1,Ex.aO];exact hz
 obtain⟨s',w1,w2,w3,w4⟩:=cO (z:=zs) (by omega) (gX hp.sc (Ex.dH hT.wf));refine⟨s',w1,⟨_,_,w2,w4,w4,by simp,by simp⟩,?_,w3,w4,hl⟩;rw[lJ _ _ _ (by omega),<-h1,Z9,<-p.2.aO,J6]
theorem Ql{x:Ex}(hT:x.Ty)(hs:x.size<=1000000)(hB:Bx st [] v x){T:ah->Bool}(hlr:bA st [] lr (.m mn::rest))(hmp:cS st mn (jL T))(hmn:mn<st.next)(hN:20000000000000000000<=N):
  ∃ st' w,(Tw c (N+1)).call 80 [.p lr 0,v] st=some (w,st')/\(∀ X:List Nat,(∀ y∈X,y<st.next)->eV st' X w (fZ c N T x))/\Kp [] [] st st':=by
 rw[dt rfl func80 rfl (Q1 rfl)];unfold aV;obtain⟨k,nm,num,ps,b,a,l⟩:=x;have hT':=hT;simp only[Ex.Ty]at hT;have hsz:(Ex.mk k nm num ps b a l).size=1+b.size+a.size+l.size:=by simp only[Ex.size]
 have hbl:=b.bZ;have hTb:=hT.2.2.1;obtain⟨bv,av,lv,rfl,h2,h3,h4⟩:=id hB;obtain⟨rp,hrp⟩:∃ r,st.next=r:=⟨_,rfl⟩;obtain⟨s1,hs1⟩:∃ s,st.aw [.p lr 0]=s:=⟨_,rfl⟩;have k1:Kp [] [] st s1:=by rw[<-hs1];exact .aw _ _ _
 have n1:s1.next=rp+1:=by rw[<-hs1,<-hrp];rfl
 have p1:bA s1 [] rp [.p lr 0]:=by rw[<-hs1,<-hrp];exact bA.new _ _ _ (by simp)
 obtain⟨re,hre⟩:∃ r,s1.next=r:=⟨_,rfl⟩;obtain⟨s2,hs2⟩:∃ s,s1.aw [.i .i64 k,.s nm,.i .i64 num,ps,bv,av,lv]=s:=⟨_,rfl⟩;have k2:Kp [] [] s1 s2:=by rw[<-hs2];exact .aw _ _ _
 have n2:s2.next=re+1:=by rw[<-hs2,<-hre];rfl
 have p2:bA s2 [] re [.i .i64 k,.s nm,.i .i64 num,ps,bv,av,lv]:=by rw[<-hs2,<-hre];exact bA.new _ _ _ (by simp)
 obtain⟨rO,hrO⟩:∃ r,s2.next=r:=⟨_,rfl⟩;obtain⟨s3,hs3⟩:∃ s,s2.aw [.sn]=s:=⟨_,rfl⟩;have k3:Kp [] [] s2 s3:=by rw[<-hs3];exact .aw _ _ _
 have n3:s3.next=rO+1:=by rw[<-hs3,<-hrO];rfl
 have c3:s3.ce rO=some ([.sn],rO,[rO]):=by rw[<-hs3,<-hrO];exact cz _
 have K3:Kp [] [] st s3:=(k1.trans k2).trans k3;have wid:∀ {r:Nat} {l:List AV} {s:St},bA s [] r l->s.next<=rO->Kp [] [] s s3->bA s3 [rO] r l:=by rintro r l s ⟨g,al,q1,q2,q3,-,-⟩ hle kk;exact⟨g,al,kk.ce q1 q2 q3 (by simp) (by simp),Q0 q2 kk.next,Q0 q3 kk.next,by simp;omega,by simp;omega⟩
 have P:=wid p1 (by omega) (k2.trans k3);have Q:=wid p2 (by omega) k3;have R:=wid hlr (by omega) K3;have B3:cH s3 [rO] bv 8 b:=by
  rcases h2 with h|⟨h0,r,g,al,q,e1,e2,e3,e4,-,-⟩
  ·exact .inl h
  ·exact .inr ⟨h0,r,g,al,q,e1,K3.ce e2 e3 e4 (by simp) (by simp),Q0 e3 K3.next,Q0 e4 K3.next,by simp;omega,by simp;omega⟩
 have BX3:Bx s3 [rO] (.ag [.i .i64 k,.s nm,.i .i64 num,ps,bv,av,lv]) (Ex.mk k nm num ps b a l):=by
  have wd:∀ {v:AV} {z:Nat} {q:ae},cH st [] v z q->cH s3 [rO] v z q:=by
   rintro v z q (h|⟨h0,r,g,al,q,e1,e2,e3,e4,-,-⟩)
   ·exact .inl h
   ·exact .inr ⟨h0,r,g,al,q,e1,K3.ce e2 e3 e4 (by simp) (by simp),Q0 e3 K3.next,Q0 e4 K3.next,by simp;omega,by simp;omega⟩
  exact⟨_,_,_,rfl,wd h2,wd h3,wd h4⟩
 have rb:rd s3 re 4 1=some [bv]:=by rw[Q.rd];rfl
 simp[f80,hrp,hs1,hre,hs2,aJ,H9,hrO,hs3,rb,B3.len fG,bw];generalize hL:bf _ _ _ _=L;obtain⟨t4,s4,rfl,⟨z2,z3,z5⟩,W4,zF⟩:=dy hL 0 b.list.length
  (fun i t s=>Yp rp re rO bv b.len i t/\∃ W,KS s3 s rO (rO+1) (mM (mD c N) (b.list.take i) []) W)
  (fun t s=>FrU rp re rO t/\∃ W,KS s3 s rO (rO+1) (mM (mD c N) b.list []) W) (by rw[<-ae.aC];omega)
  ⟨⟨by simp,by simp,by simp,by simp,by simp,by simp⟩,[rO],⟨.sn,none,[rO],c3,by simpa[mM]using aW.nil s3 (rO+1) 1,rfl⟩,by omega,by omega,.refl _ _⟩
  (by
   rintro i t s hi ⟨⟨i2,i3,i5,i10,il,ii⟩,W,⟨ov,g,al,o1,o2,rfl⟩,oo,ol,iK⟩;clear hL;have hil:i<b.len:=by rw[ae.aC];exact hi
   have e5:(i:Int)<(b.len:Int):=by omega
   have e7:wr .i64 ((i:Int)+1)=((i+1:Nat):Int):=by rw[aZ (by omega) (by omega)];rfl
   have hmem:=J1 hi;have hTi:=ae.cU hTb _ hmem;have hsz':=ae.dU hmem;obtain⟨a0,ix,ldx⟩:=(B3.kw iK).at fG kI hTb.pre rfl hi;have ldi:=ldx [] [] s (.refl _ _ _) (by simp) (by simp);obtain⟨s5,w1,w2,w3,w4,w5,w6⟩:=IC (zs:=jr) hTi.1 hTi.2 rfl rfl s;have w3:cut (b.list[i].1++b.list[i].2.cells) 1 7=some b.list[i].2.cells:=w3;have sto:=aI dn cV (s.aw jr) s.next 0 _ w6;obtain⟨fl,fr⟩:=UN (c:=c) (y:=b.list[i].2) hTi.2 (by omega) (N:=N) (by omega);obtain⟨all,hall⟩:∃ a,mD c N b.list[i].2=a:=⟨_,rfl⟩;rw[hall]at fl fr;have hsc:=Ph (Gx all);have hcl:=qD (Gx all);obtain⟨s6,v1,v2,v3,v4⟩:=cO (s:=s5) (z:=[.sn]) (cells:=[jS all]) rfl (by rw[vB,hsc];rfl);have sto2:=db qS vX (s5.aw [.sn]) s5.next 0 (jS all) hcl;have rd6:rd s6 s.next 1 7=some b.list[i].2.cells:=by rw[(w2.keep v3 (by simp) (by simp)).rd];exact w3
   have k6:Kp [] [] s s6:=w4.trans v3;have hgl:=o2.fJ;have hW:∀ y∈rO::g.toList,y<s.next:=fun y hy=>by
    rcases J9.1 hy with rfl|hy
    ·exact oo
    ·exact(hgl y (by simpa using hy)).2
   have nA:s5.next∉rO::g.toList:=fun hh=>by have:=hW _ hh;omega
   have hlen:=Fl (mD c N) (b.list.take i) [];have hst:((b.list.take i).map fun p=>p.2.size).sum=eu b.list i:=rfl;have hsl:=AX b (i:=i+1) (by omega);have hss:=fY hi;obtain⟨out,hout⟩:∃ o,mM (mD c N) (b.list.take i) []=o:=⟨_,rfl⟩;rw[hout]at hlen o2;have I0:Hg s3 s5.next rO (rO+1) all out [] (rO::g.toList) s6 :=
    ⟨⟨ov,g,al,k6.ce o1 oo oo (by simp) (by simp),by simpa[lT]using o2.keep k6 (by simp) (by simp),rfl⟩,Q0 oo k6.next,Q4 _,Q2 ol k6.next,⟨_,_,v2,v4,v4⟩,nA,fun g1 al1 l1 hh=>by rw[v2]at hh;cases hh;exact nA⟩
   simp only[V6,Q8]at hlen;obtain⟨s7,W7,x1,x2,x3⟩:=PF (c:=c) b.list[i].2 hTi.2 (by omega) 123 [.p s5.next 0,.p rO 0] 10000000000000000010 b.list[i].2.size _ b.list[i].2 (abd (c:=c) (b0:=s3) (lo:=rO+1) (by omega) (by omega)) [] _ _ s6 N (by simp) I0 (.pure _ _ _) (.inl rfl) (by omega);simp[i5,i10,il,ii,e5,e7,ix,ldi,aJ,qj,sto,w1,aH,w2.rd,w3,fr,H9,sto2,v1,rd6,x1];obtain⟨y1,y2,-,y4,-,-,-⟩:=x2;refine⟨_,_,⟨rfl,rfl⟩,⟨by simp[i2],by simp[i3],by simp[i5],by simp[i10],by simp[il],by simp⟩,W7,?_,y2,y4,iK.trans ((Kw.of k6).trans x3)⟩;have:mM (mD c N) (b.list.take (i+1)) []=lT all out ([]++cP b.list[i].2):=by rw[<-J5 hi,Na,hall,hout];rfl
   rw[this];exact y1)
  (by rintro t s ⟨⟨i2,i3,i5,i10,il,ii⟩,W,iF⟩;clear hL;rw[J6]at iF;simp[il,ii,ae.aC];exact⟨_,_,⟨rfl,rfl⟩,⟨by simp[i2],by simp[i3],by simp[i5]⟩,W,iF⟩)
 clear hL;obtain⟨⟨ov,g,al,o1,o2,rfl⟩,oo,ol,zK⟩:=zF;have ro:rd s4 rO 0 1=some [ov]:=by rw[au o1];rfl
 have hfl:fZ c N T (Ex.mk k nm num ps b a l)=kM (fun s=>T s||decide (s∈b.names)) (mM (mD c N) b.list []):=rfl;rw[hfl];have hlen:=Fl (mD c N) b.list [];have hst:(b.list.map fun p=>p.2.size).sum=b.size:=(ae.size_eq b).symm;obtain⟨out,hout⟩:∃ o,mM (mD c N) b.list []=o:=⟨_,rfl⟩;rw[hout]at hlen o2|-;simp only[V6,Q8]at hlen;have hKs4:Kp [] [] st s4:=((show Kw [] [rO] st s3 from⟨K3,fun y hy=>.inr (by simp at hy;omega)⟩).trans zK).1;have wid4:∀ (X:List Nat),(∀ x∈X,s3.next<=x)->∀ {r:Nat} {l:List AV},bA s3 [rO] r l->bA s4 X r l:=by rintro X hX r l ⟨g,al,q1,q2,q3,q4,q5⟩;exact⟨g,al,zK.ce q1 q2 q3 q4 q5,Q0 q2 zK.1.next,Q0 q3 zK.1.next,fun hh=>by have:=hX _ hh;omega,fun hh=>by have:=hX _ hh;omega⟩
 have widS:∀ (X:List Nat),(∀ x∈X,s3.next<=x)->∀ {v:AV} {z:Nat} {q:ae},cH s3 [rO] v z q->cH s4 X v z q:=by
  rintro X hX v z q (h|⟨h0,r,g,al,q,e1,e2,e3,e4,e5,e6⟩)
  ·exact .inl h
  ·exact .inr ⟨h0,r,g,al,q,e1,zK.ce e2 e3 e4 e5 e6,Q0 e3 zK.1.next,Q0 e4 zK.1.next,fun hh=>by have:=hX _ hh;omega,fun hh=>by have:=hX _ hh;omega⟩
 have hDJ:∀ (X:List Nat),(∀ x∈X,s3.next<=x)->KO s4 X rp lr mn re rest [.i .i64 k,.s nm,.i .i64 num,ps,bv,av,lv] T (Ex.mk k nm num ps b a l):=by intro X hX;obtain⟨_,_,_,e1,q2,q3,q4⟩:=BX3;cases e1;have hk3:=K3.next;refine⟨wid4 X hX P,wid4 X hX R,(hmp.keep K3 hmn (by simp)).keep zK.1 (by omega) (by simp;omega),fun hh=>by have:=hX _ hh;omega,by have:=zK.1.next;omega,wid4 X hX Q,rfl,_,_,_,rfl,widS X hX q2,widS X hX q3,widS X hX q4⟩
 have hD0:=Ln (c:=c) (hDJ [] (by simp)) hT' hs;rcases o2 with ⟨rfl,hn0,ho0,-⟩|⟨r,rfl,hn0,ho0,-⟩|⟨r,f,al2,rfl,rfl,q1,q2,q3,q4,q5,q6,q7⟩
 ·have:out=[]:=by simpa using ho0
  subst this;have hSn:eV s4 [] .sn []:=.inl ⟨⟨rfl,rfl,rfl,by simp⟩,rfl⟩;obtain⟨s5,d1,d2,d3⟩:=PR hD0 hSn (.refl _ _ _) (N:=N) (by omega);refine⟨s5,.sn,?_,fun X _=>.inl ⟨⟨rfl,rfl,rfl,by simp⟩,rfl⟩,hKs4.trans d3⟩;simp[z2,z3,z5,ro,d1,aG,aF]
 ·have:out=[]:=by simpa using ho0
  subst this;have hSn:eV s4 [] (.sl r 0 0 1 (some 0)) []:=.inl ⟨⟨rfl,rfl,rfl,by simp⟩,rfl⟩;obtain⟨s5,d1,d2,d3⟩:=PR hD0 hSn (.refl _ _ _) (N:=N) (by omega);refine⟨s5,.sl r 0 0 1 (some 0),?_,fun X _=>.inl ⟨⟨rfl,rfl,rfl,by simp⟩,rfl⟩,hKs4.trans d3⟩;simp[z2,z3,z5,ro,d1,aG,aF]
 ·have hD:=Ln (c:=c) (hDJ [r,f] (by simp;omega)) hT' hs;obtain⟨s5,w,d1,d2,d3,d4⟩:=T3 hD q1 q6 q7 q3 (by omega) (.refl _ _ _) (fun s s' hh hk=>hh.trans (hk.sub (by simp) (by simp))) (N:=N) (by omega);refine⟨s5,w,?_,fun X hX=>d2 X (fun hh=>by have:=hX _ hh;omega) (fun hh=>by have:=hX _ hh;omega),((show Kw [] [r,f] st s4 from⟨hKs4,fun y hy=>.inr (by have:=K3.next;simp at hy;omega)⟩).trans (⟨d4.sub (by simp) (by simp),fun _ h=>.inl h⟩:Kw [r,f] [r,f] s4 s5)).1⟩;simp[z2,z3,z5,ro,d1,aG,aF]
