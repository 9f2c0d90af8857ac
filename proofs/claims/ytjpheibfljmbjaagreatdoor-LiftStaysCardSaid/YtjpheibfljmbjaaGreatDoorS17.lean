/- A part of the proof. -/
import Derived.Test.YtjpheibfljmbjaaGreatDoorS16
set_option maxRecDepth 100000
set_option maxHeartbeats 2000000
open Nat renaming lt_of_lt_of_le->Q0, le_trans->Q4, le_refl->Q6, eq_zero_or_pos->J8, le_of_ble_eq_true->J9
open List renaming append_nil->Q1, getElem_mem->Q2, length_append->Q3, append_assoc->Q8, all_cons->Q9, all_nil->J1, eq_nil_of_length_eq_zero->J6
open Go.IntKind renaming i64->Q7
open Bool renaming and_true->J3, and_eq_true->J4
open Option.some renaming inj->J5
open Go.Proofs.Tryz
noncomputable section
open Go.Ev
namespace Go.Proofs.YtjpheibfljmbjaaGreatDoor
variable {A al0 : List Nat}{L : List (List AV× Ex)}{N hi i lo m mr n n' n0 r rE rO rR tr z : Nat}{P : Program}{S : bL}{T : List ah}{a b l : ae}{c : Option Self}{c15 c5 cs l0 oc : List AV}{cv o3 o4 o5 o6 ps sv v v15 v5 : AV}{e ty : TypeId}{g g15 g5 : Option Nat}{k num : Int}{nm : ah}{s s' s'' sX st : St}{t t' : Tr AV}{x : Ex}
noncomputable def dc:Nat->Code
 |0=>fg
 |k+1=>aj (dc k)
theorem Bo(l:List ah):(cG l).cells=some [cG l]/\bS (cG l)=true:=by cases l<;>simp[cG]
theorem xF(l:List ah):de (cG l) (l.map .s):=by
 cases l with
 |nil=>exact .inl ⟨rfl,rfl⟩
 |cons s l=>right;simp[cG]
theorem aaS(h:fU st s t mr tr rE rR rO T n sv S x oc)(hi:i<oc.length)(hv:bS v=true):
  ∃ s',wt s rO i [v]=some s'/\(∃ al,s'.ce rO=some (oc.set i v,rO,al))/\Kp [rO] [rO] s s'/\Mk s' mr tr T n/\kP s' mr tr sv S:=by
 obtain⟨l1,l2,l3,l4⟩:=h.lo;obtain⟨m1,m2⟩:=h.ml;obtain⟨al3,co⟩:=h.co;have hw:=bP co i [v] (by simp;omega) (by simp[hv]);rw[Cx]at hw;have k1:Kp [rO] [rO] s (s.ax rO (oc.set i v) rO):=.ax (by simp) (by simp);exact⟨_,hw,⟨_,cj _ _ _⟩,k1,h.M.keep k1 (by simp;omega) (by simp;omega) (by simp;omega) (by simp;omega),h.V.DX (Kp.qN k1 (by simp) (fun x hx=>hx)) co⟩
theorem aaA(hps:jY ps)(hl:(ba ps).length<=1000000)(hp:bG T n+(ba ps).length<1000000)
  (h:fU st s t mr tr rE rR rO T n sv S (.mk k nm num ps b a l) [.i .i64 k,.s nm,.i .i64 num,.sn,.sn,.sn,.sn]) (hN:3000000<=N):
  ∃ t' s' sv',ao (aq (dc 3)) ⟨prog,Tw c N,false,f20.ntmps,N⟩ t s=.nx t' s'/\fU st s' t' mr tr rE rR rO T (aU T S (ba ps) n).2.2 sv' (aU T S (ba ps) n).1 (.mk k nm num ps b a l) [.i .i64 k,.s nm,.i .i64 num,cG (aU T S (ba ps) n).2.1,.sn,.sn,.sn]:=by
 obtain⟨l1,l2,l3,l4⟩:=h.lo;obtain⟨m1,m2⟩:=h.ml;obtain⟨al,ce⟩:=h.ce;have r3:rd s rE 3 1=some [ps]:=by rw[au ce];rfl
 obtain⟨s1,sv1,f1,f2,f3,f4⟩:=HC (c:=c) (.inl (CF hps)) hl h.V h.M hp hN;have h1:fU st s1 (((t.set 2 (some sv1)))) mr tr rE rR rO T (aU T S (ba ps) n).2.2 sv1 (aU T S (ba ps) n).1 (.mk k nm num ps b a l) [.i .i64 k,.s nm,.i .i64 num,.sn,.sn,.sn,.sn]:=by obtain⟨al3,co⟩:=h.co;exact h.keep (Kp.qN f4 (by simp) (by simp)) (by simp[h.t0]) (by simp) (by simp[h.t4]) (by simp[h.t6]) (by simp[h.t7]) ⟨_,f4.ce co (by omega) (by omega) (by simp;omega) (by simp;omega)⟩ f3 f2
 obtain⟨s2,w1,w2,w3,w4,w5⟩:=aaS h1 (i:=3) (v:=cG (aU T S (ba ps) n).2.1) (by simp) (Bo _).2;have sc:=(Bo (aU T S (ba ps) n).2.1).1;have key:∃ t',ao (aq (dc 3)) ⟨prog,Tw c N,false,f20.ntmps,N⟩ t s=.nx t' s2/\ab t' 0=.p mr 0/\ab t' 2=sv1/\ab t' 4=.p rE 0/\ab t' 6=.p rR 0/\ab t' 7=.p rO 0:=by simp[dc,fg,aq,aj,f20,h.t0,h.t2,h.t4,h.t6,h.t7,r3,f1,db qS vX,sc,w1]
 obtain⟨t',k1,k2,k3,k4,k5,k6⟩:=key;exact⟨t',s2,sv1,k1,h1.keep (Kp.qN w3 (by simp) (by simp)) k2 k3 k4 k5 k6 (by simpa using w2) w4 w5⟩
theorem UR(h:fU st s t mr tr rE rR rO T n sv S x oc):
  ∃ t',ao (aq (dc 4)) ⟨prog,Tw c N,false,f20.ntmps,N⟩ t s=.nx t' s/\ab t' 10=.sn/\fU st s t' mr tr rE rR rO T n sv S x oc:=by
 have key:∃ t',ao (aq (dc 4)) ⟨prog,Tw c N,false,f20.ntmps,N⟩ t s=.nx t' s/\ab t' 10=.sn/\ab t' 0=.p mr 0/\ab t' 2=sv/\ab t' 4=.p rE 0/\ab t' 6=.p rR 0/\ab t' 7=.p rO 0:=by simp[dc,fg,aq,aj,f20,h.t0,h.t2,h.t4,h.t6,h.t7]
 obtain⟨t',k1,k0,k2,k3,k4,k5,k6⟩:=key;exact⟨t',k1,k0,k2,k3,k4,k5,k6,h.ce,h.cr,h.co,h.lo,h.M,h.V,h.K,h.ml⟩
theorem Vj(h:fU st s t mr tr rE rR rO T n sv S x oc):
  ∃ t',ao (aq (dc 8)) ⟨prog,Tw c N,false,f20.ntmps,N⟩ t s=.nx t' s/\ab t' 15=.sn/\fU st s t' mr tr rE rR rO T n sv S x oc:=by
 have key:∃ t',ao (aq (dc 8)) ⟨prog,Tw c N,false,f20.ntmps,N⟩ t s=.nx t' s/\ab t' 15=.sn/\ab t' 0=.p mr 0/\ab t' 2=sv/\ab t' 4=.p rE 0/\ab t' 6=.p rR 0/\ab t' 7=.p rO 0:=by simp[dc,fg,aq,aj,f20,h.t0,h.t2,h.t4,h.t6,h.t7]
 obtain⟨t',k1,k0,k2,k3,k4,k5,k6⟩:=key;exact⟨t',k1,k0,k2,k3,k4,k5,k6,h.ce,h.cr,h.co,h.lo,h.M,h.V,h.K,h.ml⟩
def ew(s:St)(lo z:Nat)(v:AV)(n:Nat)(cs:List AV):Prop:=∃ g,(n=0->v=.sn)/\aW s lo z v n cs g
theorem aaP{l:List ah}(h0:n=0->v=.sn)(h:aW s lo 1 v n (l.map .s) g)(hn:n=l.length:=by rfl)(h1:mr<lo/\tr<lo:=by omega):qd s mr tr v l:=by
 subst hn;rcases h with ⟨rfl,h2,h3,-⟩|⟨r,rfl,h2,h3,-⟩|⟨r,f,al,-,rfl,h2,h3,h4,h5,h6,h7,h8⟩
 ·exact .inl (.inl ⟨rfl,h3⟩)
 ·exact absurd (h0 h2) (by simp)
 ·exact .inr ⟨r,f,al,rfl,h2,h7,h8,by omega,by omega,by omega⟩
theorem aav(hb:b.Ty 1)(hl:b.len<=1000000)
  (h:fU st s t mr tr rE rR rO T n sv S (.mk k nm num ps b a l) oc) (h10:ab t 10=.sn) (hN:3000000<=N):
  ∃ t' s',ao (aq (dc 5)) ⟨prog,Tw c N,false,f20.ntmps,N⟩ t s=.nx t' s'/\fU st s' t' mr tr rE rR rO T n sv S (.mk k nm num ps b a l) oc/\qd s' mr tr (ab t' 10) b.names:=by
 obtain⟨l1,l2,l3,l4⟩:=h.lo;obtain⟨m1,m2⟩:=h.ml;obtain⟨al,ce⟩:=h.ce;have rb:=(iv ce).b;have ln:=fun st:St=>aY (st:=st) underlying23 (b.bK 8) (b.bJ 8)
 suffices hh:∃ t' s',ao (aq (dc 5)) ⟨prog,Tw c N,false,f20.ntmps,N⟩ t s=.nx t' s'/\(ab t' 0=.p mr 0/\ab t' 2=sv/\ab t' 4=.p rE 0/\ab t' 6=.p rR 0/\ab t' 7=.p rO 0)/\ew s' s.next 1 (ab t' 10) b.names.length (b.names.map .s)/\Kp [] [] s s' by obtain⟨t',s',q1,⟨q2,q3,q4,q5,q6⟩,⟨g,q9,q7⟩,q8⟩:=hh;obtain⟨al3,co⟩:=h.co;refine⟨t',s',q1,h.keep (BG q8) q2 q3 q4 q5 q6 ⟨_,q8.ce co (by omega) (by omega) (by simp) (by simp)⟩ (h.M.keep q8 (by simp) (by simp) (by simp) (by simp)) (h.V.keep q8 (by simp)),aaP q9 q7 rfl (by omega)⟩
 simp[dc,fg,aq,aj,f20,h.t4,rb,ln,bw];generalize hL:bf _ _ _ _=L;obtain⟨t1,s1,rfl,p0,p2,p4,p6,p7,pO,pK⟩:=dy hL 0 b.list.length
  (fun i t' s'=>ab t' 0=.p mr 0/\ab t' 2=sv/\ab t' 4=.p rE 0/\ab t' 6=.p rR 0/\ab t' 7=.p rO 0/\ab t' 55=b.slice 8/\ab t' 56=.i .i64 (b.len:Int)/\ab t' 57=.i .i64 (i:Int)/\ew s' s.next 1 (ab t' 10) i ((b.names.take i).map .s)/\Kp [] [] s s')
  (fun t' s'=>ab t' 0=.p mr 0/\ab t' 2=sv/\ab t' 4=.p rE 0/\ab t' 6=.p rR 0/\ab t' 7=.p rO 0/\ew s' s.next 1 (ab t' 10) b.names.length (b.names.map .s)/\Kp [] [] s s') (by rw[<-ae.aC];omega)
  ⟨by simp[h.t0],by simp[h.t2],by simp[h.t4],by simp[h.t6],by simp[h.t7],by simp,by simp,by simp,⟨none,fun _=>by simp[h10],by simpa[h10]using aW.nil s s.next 1⟩,.refl _ _ _⟩
  (by
   rintro i t' s' hi ⟨i0,i2,i4,i6,i7,i55,i56,i57,⟨g,iZ,iO⟩,iK⟩;clear hL;obtain⟨va,i10⟩:∃ va,ab t' 10=va:=⟨_,rfl⟩;rw[i10]at iO;have hil:i<b.len:=by rw[ae.aC];exact hi
   have hin:i<b.names.length:=by rw[eW];exact hil
   have e3:(i:Int)<(b.len:Int):=by omega
   have e4:wr .i64 ((i:Int)+1)=((i+1:Nat):Int):=by rw[aZ (by omega) (by omega)];rfl
   obtain⟨r,r1,r2⟩:=eR hb.pre (show eD 1+7=8 from rfl) hi;have ix:=dV underlying23 dn cV b.flat b.len i hil;rw[<-ae.cZ hil,r1,<-Q8]at ix;have hT:=ae.cU hb _ (Q2 hi);have hpr:=ir hT.1;have hnm:b.names[i]=fD (b.list[i].1.headD .un):=by simp[ae.names,gn]
   rw[<-hnm]at hpr;have hce:(b.list[i].1++b.list[i].2.cells).length=8:=by rw[Q3,r2,Ex.aO];rfl
   have hsc:bq (b.list[i].1++b.list[i].2.cells)=true:=gX hT.1.sc (Ex.dH hT.2.wf);have ld:=fun st:St=>kO (st:=st) (r:=r) dn kI cV hce
   have hhd:cut (b.list[i].1++b.list[i].2.cells) 0 1=some [.s b.names[i]]:=by rw[hpr];rfl
   generalize b.list[i].1++b.list[i].2.cells=cl at *;obtain⟨s2,u1,u2,u3,u4⟩:=cO (z:=jr) hce hsc;have iO2:=iO.keep u3 (by simp) (by simp);have bo:=fun(t:Tr AV) (h:ai t (.tmp 63)=.s b.names[i])=>gT (S:=Tw c N) (t:=t) (st:=s2) fM (x:=.tmp 63) (cs:=[.s b.names[i]]) (by rw[h];simp) rfl
   obtain⟨v',g',s3,w1,w2,w3,w4⟩:=iO2.mc fM (new:=[.s b.names[i]]) rfl rfl (by omega) (by have:=iK.next;have:=u3.next;omega);simp[i10,i55,i56,i57,e3,e4,ix,ld,aJ,qj,aI dn cV,hce,u1,au u2,hhd,bo,w1];have hgl:=iO.fJ;refine⟨_,_,⟨rfl,rfl⟩,by simp[i0],by simp[i2],by simp[i4],by simp[i6],by simp[i7],by simp[i55],by simp[i56],by simp,⟨g',fun hh=>by omega,?_⟩,dz (iK.trans u3) w3 (by simp) (fun x hx=>(hgl x (by simpa using hx)).1)⟩;have w5:aW s3 s.next 1 v' (i+1) ((b.names.take (i+1)).map .s) g':=by rw[<-List.take_append_getElem hin,List.map_append];exact w2
   simpa using w5)
  (by rintro t' s' ⟨i0,i2,i4,i6,i7,i55,i56,i57,iG,iK⟩;clear hL;simp[i56,i57,ae.aC];refine⟨_,_,⟨rfl,rfl⟩,by simp[i0],by simp[i2],by simp[i4],by simp[i6],by simp[i7],?_,iK⟩;rw[<-ae.aC,<-eW,List.take_length]at iG;simpa using iG)
 clear hL;exact⟨t1,s1,by simp,⟨p0,p2,p4,p6,p7⟩,pO,pK⟩
theorem TK{l:List ah}(hl:l.length<=1000000)(hp:bG T n+l.length<1000000)(h:fU st s t mr tr rE rR rO T n sv S x oc)(h10:qd s mr tr (ab t 10) l)(hN:3000000<=N):
  ∃ t' s' sv',ao (aq (dc 6)) ⟨prog,Tw c N,false,f20.ntmps,N⟩ t s=.nx t' s'/\fU st s' t' mr tr rE rR rO T (aU T S l n).2.2 sv' (aU T S l n).1 x oc/\ab t' 10=cG (aU T S l n).2.1:=by
 obtain⟨l1,l2,l3,l4⟩:=h.lo;obtain⟨m1,m2⟩:=h.ml;obtain⟨s1,sv1,f1,f2,f3,f4⟩:=HC (c:=c) h10 hl h.V h.M hp hN;have key:∃ t',ao (aq (dc 6)) ⟨prog,Tw c N,false,f20.ntmps,N⟩ t s=.nx t' s1/\ab t' 0=.p mr 0/\ab t' 2=sv1/\ab t' 4=.p rE 0/\ab t' 6=.p rR 0/\ab t' 7=.p rO 0/\ab t' 10=cG (aU T S l n).2.1:=by simp[dc,fg,aq,aj,f20,h.t0,h.t2,h.t4,h.t6,h.t7,f1]
 obtain⟨t',k1,k2,k3,k4,k5,k6,k7⟩:=key;obtain⟨al3,co⟩:=h.co;exact⟨t',s1,sv1,k1,h.keep (Kp.qN f4 (by simp) (by simp)) k2 k3 k4 k5 k6 ⟨_,f4.ce co (by omega) (by omega) (by simp;omega) (by simp;omega)⟩ f3 f2,k7⟩
theorem HU{l:List ah}(h:l.length<=9223372036854775807):jY (cG l):=⟨l,xF l,h⟩
theorem zN(l:List ah):ba (cG l)=l:=Je (xF l)
theorem Gl(h:jY v):(ba v).length<=9223372036854775807:=h.sl.2
theorem Jt{p:List AV× Ex}(h:eO 4 p.1):∃ vs,p.1=[.i .i64 (cD p).k,.s (cD p).n,.i .i64 (cD p).m,vs]/\jY vs/\(cD p).vs=ba vs:=by
 obtain⟨k,n,m,vs,h,hv⟩:=h;refine⟨vs,?_,hv,?_⟩
 ·unfold cD;rw[h];rfl
 ·unfold cD;grind
variable(T : List ah)
mutual
theorem xd:∀ (x:Ex) (S:bL) (n:Nat),x.Ty->(bB T x S n).1.Ty
 |.mk k nm num ps b a l,S,n,h=>by
  obtain⟨hk,hps,hb,ha,hl⟩:=h;unfold bB;by_cases h1:k=1
  ·rw[if_pos h1];exact⟨⟨by decide,by decide⟩,⟨[],.inl ⟨rfl,rfl⟩,by decide⟩,trivial,trivial,trivial⟩
  ·rw[if_neg h1];simp only;have h2:=AC b (aU T (aU T S (ba ps) n).1 b.names (aU T S (ba ps) n).2.2).1 (aU T (aU T S (ba ps) n).1 b.names (aU T S (ba ps) n).2.2).2.1 (aU T (aU T S (ba ps) n).1 b.names (aU T S (ba ps) n).2.2).2.2 hb;generalize c8 T b _ _ _=rb at *;have h3:=BU a (aU T (aU T S (ba ps) n).1 b.names (aU T S (ba ps) n).2.2).1 (fP strF k nm a.len) 0 rb.2 ha;generalize cg T a _ _ _ _=ra at *;have h4:=Ha l (aU T (aU T S (ba ps) n).1 b.names (aU T S (ba ps) n).2.2).1 ra.2.2 hl;generalize dP T l _ _=rl at *;have ho:(Ex.mk k nm num (cG (aU T S (ba ps) n).2.1) rb.1 ra.1 rl.1).Ty:=by
    grind[Ex.Ty,HU,AO,Gl]
   obtain⟨h5,h6⟩:=h3;unfold kN;split
   ·grind
   ·rename_i p x l he;rw[he]at h6;exact⟨⟨by decide,by decide⟩,⟨[],.inl ⟨rfl,rfl⟩,by decide⟩,h6,⟨rfl,ho,trivial⟩,trivial⟩
theorem AC:∀ (l:ae) (S:bL) (ns:List ah) (n:Nat),l.Ty 1->(c8 T l S ns n).1.Ty 1
 |.nil _,_,_,_,_=>by simp only[c8,ae.Ty]
 |.cons p x l,S,ns,n,h=>by simp only[ae.Ty]at h;simp only[c8,ae.Ty];exact⟨⟨_,rfl⟩,xd x S n h.2.1,AC l S ns.tail _ h.2.2⟩
theorem BU:∀ (l:ae) (S:bL) (k:Int) (i n:Nat),l.Ty 0->(cg T l S k i n).1.Ty 0/\(cg T l S k i n).2.1.Ty 1
 |.nil _,_,_,_,_,_=>by simp only[cg,ae.Ty];exact⟨trivial,trivial⟩
 |.cons p x l,S,k,i,n,h=>by
  simp only[ae.Ty]at h;have h1:=xd x S n h.2.1;unfold cg;simp only;split
  ·have h2:=BU l S k (i+1) (bD T (bB T x S n).2) h.2.2;simp only[ae.Ty];refine⟨⟨rfl,?_,h2.1⟩,⟨_,rfl⟩,h1,h2.2⟩;simp only[cf,Ex.Ty,ae.Ty];exact⟨⟨by decide,by decide⟩,⟨[],.inl ⟨rfl,rfl⟩,by decide⟩,trivial,trivial,trivial⟩
  ·have h2:=BU l S k (i+1) (bB T x S n).2 h.2.2;simp only[ae.Ty];exact⟨⟨rfl,h1,h2.1⟩,h2.2⟩
theorem Ha:∀ (l:ae) (S:bL) (n:Nat),l.Ty 4->(dP T l S n).1.Ty 4
 |.nil _,_,_,_=>by simp only[dP,ae.Ty]
 |.cons p x l,S,n,h=>by simp only[ae.Ty]at h;simp only[dP,ae.Ty];obtain⟨vs,h1,h2,h3⟩:=Jt (p:=(p,x)) h.1;refine⟨⟨_,_,_,_,rfl,HU ?_⟩,xd x _ _ h.2.1,Ha l S _ h.2.2⟩;rw[AO,h3];exact Gl h2
end
mutual
theorem qY:∀ (x:Ex) (S:bL) (n:Nat),bG T (bB T x S n).2<=bG T n+x.wt
 |.mk k nm num ps b a l,S,n=>by
  unfold bB;by_cases h1:k=1
  ·grind
  ·simp only[Ex.wt];have h2:=(qT T (ba ps) S n).1;generalize aU T S (ba ps) n=w1 at *;have h3:=(qT T b.names w1.1 w1.2.2).1;rw[eW]at h3;generalize aU T w1.1 b.names w1.2.2=w2 at *;have h4:=Ac b w2.1 w2.2.1 w2.2.2;generalize c8 T b w2.1 w2.2.1 w2.2.2=rb at *;have h5:=AM a w2.1 (fP strF k nm a.len) 0 rb.2;generalize cg T a w2.1 (fP strF k nm a.len) 0 rb.2=ra at *;have h6:=BV l w2.1 ra.2.2;grind
theorem Ac:∀ (l:ae) (S:bL) (ns:List ah) (n:Nat),bG T (c8 T l S ns n).2<=bG T n+l.wt
 |.nil _,_,_,_=>by simp only[c8,ae.wt];omega
 |.cons p x l,S,ns,n=>by simp only[c8,ae.wt];have h1:=qY x S n;have h2:=Ac l S ns.tail (bB T x S n).2;omega
theorem AM:∀ (l:ae) (S:bL) (k:Int) (i n:Nat),bG T (cg T l S k i n).2.2<=bG T n+(l.len+l.wt)
 |.nil _,_,_,_,_=>by simp only[cg,ae.wt];omega
 |.cons p x l,S,k,i,n=>by
  unfold cg;simp only[ae.wt,ae.len];have h1:=qY x S n;split
  ·have h2:=AM l S k (i+1) (bD T (bB T x S n).2);have h3:=wJ T (bB T x S n).2;simp only;omega
  ·have h2:=AM l S k (i+1) (bB T x S n).2;simp only;omega
theorem BV:∀ (l:ae) (S:bL) (n:Nat),bG T (dP T l S n).2<=bG T n+l.kX
 |.nil _,_,_=>by simp only[dP,ae.kX];omega
 |.cons p x l,S,n=>by simp only[dP,ae.kX];have h0:=(qT T (cD (p,x)).vs S n).1;have h1:=qY x (aU T S (cD (p,x)).vs n).1 (aU T S (cD (p,x)).vs n).2.2;have h2:=BV l S (bB T x (aU T S (cD (p,x)).vs n).1 (aU T S (cD (p,x)).vs n).2.2).2;omega
end
theorem Hz:∀ (l:ae) (S:bL) (ns:List ah) (n:Nat),(c8 T l S ns n).1.len=l.len
 |.nil _,_,_,_=>by simp only[c8,ae.len]
 |.cons p x l,S,ns,n=>by simp only[c8,ae.len];rw[Hz l]
theorem Fu:∀ (l:ae) (S:bL) (k:Int) (i n:Nat),(cg T l S k i n).1.len=l.len
 |.nil _,_,_,_,_=>by simp only[cg,ae.len]
 |.cons p x l,S,k,i,n=>by unfold cg;simp only;split<;>simp only[ae.len]<;>rw[Fu l]
theorem GR:∀ (l:ae) (S:bL) (n:Nat),(dP T l S n).1.len=l.len
 |.nil _,_,_=>by simp only[dP,ae.len]
 |.cons p x l,S,n=>by simp only[dP,ae.len];rw[GR l]
theorem wm(L:List (List AV× Ex))(p:List AV× Ex):(aX (L++[p])).flat=(aX L).flat++(p.1++p.2.cells):=by grind[ae.sU,fC]
theorem kh(L:List (List AV× Ex)):(aX L).len=L.length:=by rw[ae.aC,fC]
theorem P4(h0:L.length=0->v=.sn)(h:Grown v z L.length (aX L).flat):v=(aX L).slice z:=by
 cases L with
 |nil=>rw[h0 rfl];rfl
 |cons p L =>
  rcases h with ⟨-,h,-⟩|h
  ·cases h
  ·rw[h];simp[aX,ae.slice,ae.flat,kh]
def ZK(o:Option (AV× St))(st:St)(mr tr:Nat)(T:List ah)(R:Ex× Nat):Prop:=∃ st',o=some (.ag R.1.cells,st')/\Mk st' mr tr T R.2/\Kp [mr,tr] [mr] st st'
def Do(c:Option Self)(x:Ex):Prop:=x.Ty->x.size<=1000000->∀ (st:St) (mr tr n:Nat) (T:List ah) (sv:AV) (S:bL) (N:Nat),Mk st mr tr T n->kP st mr tr sv S->bG T n+x.wt<1000000->x.size+4000000<=N->
 ZK ((Tw c N).call 20 [.p mr 0,.ag x.cells,sv] st) st mr tr T (bB T x S n)
theorem ig{B A0 B0:List Nat}{a b d:St}(h:Kp A0 B0 a b)(k:Kp A B b d)(hA:∀ x,x∈A->x∈A0\/a.next<=x)(hB:∀ x,x∈B->x∈B0\/a.next<=x):Kp A0 B0 a d :=
 ⟨Q4 h.next k.next,fun r h1 h2=>(k.get r (Q0 h1 h.next) fun hh=>by
   rcases hA _ hh with h|h
   ·exact h2 h
   ·omega).trans (h.get r h1 h2),fun g h1 h2=>(k.live g (Q0 h1 h.next) fun hh=>by
   rcases hB _ hh with h|h
   ·exact h2 h
   ·omega).trans (h.live g h1 h2)⟩
structure tj(s s':St)(t':Tr AV)(mr tr rE rR rO:Nat)(T:List ah)(n:Nat)(sv:AV)(S:bL)(oc:List AV):Prop where
 t0:ab t' 0=.p mr 0
 t2:ab t' 2=sv
 t4:ab t' 4=.p rE 0
 t6:ab t' 6=.p rR 0
 t7:ab t' 7=.p rO 0
 co:∃ al,s'.ce rO=some (oc,rO,al)
 M:Mk s' mr tr T n
 V:kP s' mr tr sv S
 K:Kp [mr,tr,rO] [mr,rO] s s'
theorem tj.fr{T:List ah}{sv':AV}{S':bL}{oc':List AV}(h:fU st s t mr tr rE rR rO T n sv S x oc)(k:tj s s' t' mr tr rE rR rO T n' sv' S' oc'):fU st s' t' mr tr rE rR rO T n' sv' S' x oc' :=
 h.keep k.K k.t0 k.t2 k.t4 k.t6 k.t7 k.co k.M k.V
theorem fU.lp{T:List ah}(h:fU st s t mr tr rE rR rO T n sv S x oc)(h0:ab t' 0=ab t 0)(h2:ab t' 2=ab t 2)(h4:ab t' 4=ab t 4)(h6:ab t' 6=ab t 6)(h7:ab t' 7=ab t 7):tj s s t' mr tr rE rR rO T n sv S oc :=
 ⟨h0.trans h.t0,h2.trans h.t2,h4.trans h.t4,h6.trans h.t6,h7.trans h.t7,h.co,h.M,h.V,.refl _ _ _⟩
def Qf(s:St)(lo:Nat)(T:List ah)(S:bL)(b:ae)(ns:List ah)(n0:Nat)(v:AV)(i ni:Nat):Prop :=
 ∃ (acc:List (List AV× Ex)),acc.length=i/\ew s lo 8 v i (aX acc).flat/\
  c8 T b S ns n0=(mR acc (c8 T (dm b i) S (ns.drop i) ni).1,(c8 T (dm b i) S (ns.drop i) ni).2)/\bG T ni+(dm b i).wt<=bG T n0+b.wt
def Fx(s:St)(mr tr rE rR rO:Nat)(T:List ah)(n:Nat)(sv:AV)(S:bL)(k:Int)(nm:ah)(num:Int)(o3 o5 o6:AV)(b:ae)(ns:List ah)(i:Nat)(t':Tr AV)(s':St):Prop :=
 ∃ v4 ni,tj s s' t' mr tr rE rR rO T ni sv S [.i .i64 k,.s nm,.i .i64 num,o3,v4,o5,o6]/\Qf s' s.next T S b ns n v4 i ni
theorem aaK{T:List ah}{ns:List ah}(hb:b.Ty 1)(hs:b.size<=1000000)(hIH:∀ p∈b.list,Do c p.2)(hns:ns.length=b.len)
  (h:fU st s t mr tr rE rR rO T n sv S (.mk k nm num ps b a l) [.i .i64 k,.s nm,.i .i64 num,o3,.sn,o5,o6]) (h10:ab t 10=cG ns) (hp:bG T n+b.wt<1000000) (hN:b.size+4000000<=N):
  ∃ t' s' v4,ao (aq (dc 7)) ⟨prog,Tw c N,false,f20.ntmps,N⟩ t s=.nx t' s'/\fU st s' t' mr tr rE rR rO T (c8 T b S ns n).2 sv S (.mk k nm num ps b a l) [.i .i64 k,.s nm,.i .i64 num,o3,v4,o5,o6]/\ew s' s.next 8 v4 b.len (c8 T b S ns n).1.flat/\Kp [mr,tr,rO] [mr,rO] s s'/\(∃ L,(c8 T b S ns n).1=aX L):=by
 obtain⟨l1,l2,l3,l4⟩:=h.lo;obtain⟨m1,m2⟩:=h.ml;obtain⟨al,ce⟩:=h.ce;have hbl:=b.bZ;have rb:=(iv ce).b;have ln:=fun st:St=>aY (st:=st) underlying23 (b.bK 8) (b.bJ 8)
 have key:∃ t' s',ao (aq (dc 7)) ⟨prog,Tw c N,false,f20.ntmps,N⟩ t s=.nx t' s'/\Fx s mr tr rE rR rO T n sv S k nm num o3 o5 o6 b ns b.list.length t' s':=by
  simp[dc,fg,aq,aj,f20,h.t4,rb,ln,bw];generalize hL:bf _ _ _ _=L;obtain⟨t1,s1,rfl,p0⟩:=dy hL 2 b.list.length
   (fun i t' s'=>ab t' 10=cG ns/\ab t' 75=b.slice 8/\ab t' 76=.i .i64 (b.len:Int)/\ab t' 77=.i .i64 (i:Int)/\Fx s mr tr rE rR rO T n sv S k nm num o3 o5 o6 b ns i t' s')
   (fun t' s'=>Fx s mr tr rE rR rO T n sv S k nm num o3 o5 o6 b ns b.list.length t' s') (by rw[<-ae.aC];omega)
   ⟨by simp[h10],by simp,by simp,by simp,.sn,n,h.lp (by simp) (by simp) (by simp) (by simp) (by simp),[],rfl,⟨none,fun _=>rfl,.nil _ _ _⟩,by simp[mR,dm],by simp[dm]⟩
   (by
    rintro i t' s' hi ⟨i10,i75,i76,i77,v4,ni,iL,acc,q1,⟨g,q0,qO⟩,q3,q4⟩;clear hL;have hil:i<b.len:=by rw[ae.aC];exact hi
    have hin:i<ns.length:=by rw[hns];exact hil
    have e3:(i:Int)<(b.len:Int):=by omega
    have e4:wr .i64 ((i:Int)+1)=((i+1:Nat):Int):=by rw[aZ (by omega) (by omega)];rfl
    obtain⟨r,r1,r2⟩:=eR hb.pre (show eD 1+7=8 from rfl) hi;have ix:=dV underlying23 dn cV b.flat b.len i hil;rw[<-ae.cZ hil,r1,<-Q8]at ix;have hmem:=Q2 hi;have hT:=ae.cU hb _ hmem;have hsz':=ae.dU hmem;have hce:(b.list[i].1++b.list[i].2.cells).length=8:=by rw[Q3,r2,Ex.aO];rfl
    have hsc:bq (b.list[i].1++b.list[i].2.cells)=true:=gX hT.1.sc (Ex.dH hT.2.wf);have ld:=fun st:St=>kO (st:=st) (r:=r) dn kI cV hce
    have hcut:cut (b.list[i].1++b.list[i].2.cells) 1 7=some b.list[i].2.cells:=by rw[ir hT.1];have:=nP b.list[i].2.cells [];rw[Ex.aO,Q1]at this;simpa using this
    generalize b.list[i].1++b.list[i].2.cells=cl at *;obtain⟨s2,u1,u2,u3,u4⟩:=cO (s:=s') (z:=jr) hce hsc;obtain⟨al3,co⟩:=iL.co;have n1:=iL.K.next;have co2:=u3.ce co (by omega) (by omega) (by simp) (by simp);have rO2:rd s2 rO 4 1=some [v4]:=by rw[au co2];rfl
    have rx:rd s2 s'.next 1 7=some b.list[i].2.cells:=by rw[au u2,hcut]
    obtain⟨ad,jx,jl⟩:=(xF ns).sat gz nU hin;rw[vV b i hi]at q3 q4;simp only[c8,ae.wt]at q3 q4;have qpot:=qY T b.list[i].2 S ni;obtain⟨s3,f1,f2,f3⟩:=hIH _ hmem hT.2 (by omega) s2 mr tr ni T sv S N (iL.M.keep u3 (by simp) (by simp) (by simp) (by simp)) (iL.V.keep u3 (by simp)) (by omega) (by omega);obtain⟨R,hR⟩:∃ R,bB T b.list[i].2 S ni=R:=⟨_,rfl⟩;have tR:=xd T b.list[i].2 S ni hT.2;rw[hR]at f1 f2 q3 qpot tR;have cR:=R.1.aO;have co3:=f3.ce co2 (by have:=u3.next;omega) (by have:=u3.next;omega) (by simp;omega) (by simp;omega);have rO3:rd s3 rO 4 1=some [v4]:=by rw[au co3];rfl
    have bo:=fun(t:Tr AV) (h1:ai t (.tmp 87)=.s ns[i]) (h2:ai t (.tmp 92)=.ag R.1.cells)=>yD (S:=Tw c N) (st:=s3) (t:=t) h1 h2 cR
    have bo2:=fun(t:Tr AV) (h:ai t (.tmp 93)=.ag (.s ns[i]::R.1.cells))=>gT (S:=Tw c N) (t:=t) (st:=s3) mJ (x:=.tmp 93) (cs:=.s ns[i]::R.1.cells) (by rw[h];exact j9 _) (by simp[cR])
    have sR:bq (.s ns[i]::R.1.cells)=true:=by simp[Ex.dH tR.wf]
    have O3:=(qO.keep u3 (by simp) (by simp)).keep f3 (by simp;omega) (fun x hx=>.inl (by simp at hx;omega));obtain⟨v',g',s4,w1,w2,w3,w4⟩:=O3.mc mJ (new:=.s ns[i]::R.1.cells) sR (by simp[cR]) (by omega) (by have:=u3.next;have:=f3.next;omega);have hgl:=qO.fJ;have hB4:∀ x,x∈g.toList->s.next<=x:=fun x hx=>(hgl x (by simpa using hx)).1
    have co4:=w3.ce co3 (by have:=u3.next;have:=f3.next;omega) (by have:=u3.next;have:=f3.next;omega) (by simp) (fun hh=>by have:=hB4 _ hh;omega);have hw:=bP co4 4 [v'] (by simp) (by simp[w2.sc]);simp at hw;have k5:Kp [rO] [rO] s4 (s4.ax rO [.i .i64 k,.s nm,.i .i64 num,o3,v',o5,o6] rO):=.ax (by simp) (by simp);have c5:(s4.ax rO [.i .i64 k,.s nm,.i .i64 num,o3,v',o5,o6] rO).ce rO=some ([.i .i64 k,.s nm,.i .i64 num,o3,v',o5,o6],rO,[rO]):=cj _ _ _;obtain⟨s5,hs5⟩:∃ x,s4.ax rO [.i .i64 k,.s nm,.i .i64 num,o3,v',o5,o6] rO=x:=⟨_,rfl⟩;rw[hs5]at hw k5 c5;have M5:=((f2.keep w3 (by simp) (by simp) (fun hh=>by have:=hB4 _ hh;omega) (by simp)).keep k5 (by simp;omega) (by simp;omega) (by simp;omega) (by simp;omega));have V5:=((((iL.V.keep u3 (by simp)).keep f3 (by simp)).keep w3 (by simp)).DX (Kp.qN k5 (by simp) (fun x hx=>hx)) co4);have K5:=ig (ig (ig (ig iL.K u3 (by simp) (by simp)) f3 (by simp) (by simp)) w3 (by simp) (fun x hx=>.inr (hB4 x hx))) k5 (by simp) (by simp);have G5:ew s5 s.next 8 v' (i+1) (aX (acc++[([.s ns[i]],R.1)])).flat:=by
     refine⟨g',fun hh=>by omega,?_⟩;rw[wm];have hg':g'≠some rO:=by
      rcases w4 with rfl|⟨x,rfl,hx⟩
      ·exact fun hh=>by have:=hgl rO hh;omega
      ·intro hh;cases hh;have:=u3.next;have:=f3.next;omega
     exact w2.keep k5 (by simp;omega) (fun x hx=>.inr (by simp at hx;subst hx;exact hg'))
    simp[i75,i76,i77,e3,ix,ld,aJ,qj,aI dn cV,hce,u1,br];rw[eJ (fl:=[(1,11),(5,11)])]
    ·simp[iL.t0,iL.t2,iL.t7,i10,i77,rO2,jx,jl,aH,rx,f1,bo,bo2,w1,db nH pI,w2.cells,hw,e4];refine⟨_,_,⟨rfl,rfl⟩,by simp[i10],by simp[i75],by simp[i76],by simp,v',R.2,⟨by simp[iL.t0],by simp[iL.t2],by simp[iL.t4],by simp[iL.t6],by simp[iL.t7],⟨_,c5⟩,M5,V5,K5⟩,acc++[([.s ns[i]],R.1)],by simp[q1],G5,?_,by omega⟩;rw[q3,vF,List.tail_drop];have hh:(ns.drop i).headD []=ns[i]:=by rw[List.drop_eq_getElem_cons hin];rfl
     rw[hh];rfl
    ·kernel_rfl
    ·intro R' hR';simp[iL.t0,iL.t2,iL.t7,i10,rO2,jx,jl,aH,rx,f1,bo,bo2,w1,db nH pI,w2.cells,hw]at hR';subst hR';simp only[Q9,J1,J3,J4];refine⟨bV rfl rfl rfl (s:=s3) ?_,bV rfl rfl rfl (s:=s3) ?_⟩
     ·simp[rO3]
     ·simp[jl])
   (by rintro t' s' ⟨i10,i75,i76,i77,v4,ni,iL,iB⟩;clear hL;simp[i76,i77,ae.aC];refine⟨_,_,⟨rfl,rfl⟩,v4,ni,⟨by simp[iL.t0],by simp[iL.t2],by simp[iL.t4],by simp[iL.t6],by simp[iL.t7],iL.co,iL.M,iL.V,iL.K⟩,iB⟩)
  clear hL;exact⟨t1,s1,by simp,p0⟩
 obtain⟨t',s',q1,v4,ni,q2,acc,a1,a2,a4,a5⟩:=key;obtain⟨f,hf⟩:=tK b;rw[hf]at a4;simp only[c8,BI]at a4;refine⟨t',s',v4,q1,?_,?_,q2.K,acc,by rw[a4]⟩
 ·rw[a4];exact q2.fr h
 ·rw[a4,ae.aC];exact a2
structure nG(s s':St)(mr tr rO:Nat)(T:List ah)(n:Nat)(sv:AV)(S:bL)(oc:List AV):Prop where
 co:∃ al,s'.ce rO=some (oc,rO,al)
 M:Mk s' mr tr T n
 V:kP s' mr tr sv S
 K:Kp [mr,tr,rO] [mr,rO] s s'
 nx:s.next<=s'.next
theorem nG.keep{T:List ah}{B:List Nat}(h:nG s s' mr tr rO T n sv S oc)(k:Kp A B s' s'')(hA:∀ x,x∈A->x=mr\/x=tr\/s.next<=x)(hB:∀ x,x∈B->x=mr\/s.next<=x)(hr:rO<s.next/\mr<rO/\tr<rO)(hM:Mk s'' mr tr T n')(hV:kP s'' mr tr sv S):nG s s'' mr tr rO T n' sv S oc:=by
 obtain⟨al,co⟩:=h.co;have:=h.nx;refine⟨⟨al,k.ce co (by omega) (by omega) (fun hh=>by have:=hA _ hh;omega) (fun hh=>by have:=hB _ hh;omega)⟩,hM,hV,ig h.K k (fun x hx=>?_) (fun x hx=>?_),Q4 h.nx k.next⟩
 ·rcases hA x hx with h|h|h<;>simp[h]
 ·rcases hB x hx with h|h<;>simp[h]
theorem nG.qZ{T:List ah}{B:List Nat}(h:nG s s' mr tr rO T n sv S oc)(k:Kp A B s' s'')(hA:∀ x,x∈A->s'.next<=x\/(s.next<=x/\∃ p,s'.ce x=some p))(hB:∀ x,x∈B->s.next<=x)(hr:rO<s.next/\mr<rO/\tr<rO):nG s s'' mr tr rO T n sv S oc:=by
 have hA':∀ x,x∈A->s.next<=x:=fun x hx=>by have:=h.nx;rcases hA x hx with h|h<;>omega
 have hz:=h.M.z1;refine h.keep k (fun x hx=>.inr (.inr (hA' x hx))) (fun x hx=>.inr (hB x hx)) hr (h.M.keep k (fun hh=>by have:=hA' _ hh;omega) (fun hh=>by have:=hA' _ hh;omega) (fun hh=>by have:=hB _ hh;omega) (fun hh=>by have:=hA' _ hh;omega)) ?_;rcases h.V with h1|⟨r,h1,⟨es,q,h2,h2'⟩,h3,h4,h5,h6⟩
 ·exact .inl h1
 ·refine .inr ⟨r,h1,⟨es,q,?_,h2'⟩,Q0 h3 k.next,h4,h5,h6⟩;rw[k.get r h3 ?_]
  ·exact h2
  ·intro hh;rcases hA r hh with h|⟨-,⟨l,g,al⟩,h⟩
   ·omega
   ·rw[GT h]at h2;cases h2
structure rU(s:St)(lo:Nat)(v5:AV)(i:Nat)(c5:List AV)(v15:AV)(m:Nat)(c15:List AV)(g5 g15:Option Nat):Prop where
 z5:i=0->v5=.sn
 z15:m=0->v15=.sn
 o5:aW s lo 7 v5 i c5 g5
 o15:aW s lo 8 v15 m c15 g15
 ap:∀ x,g5=some x->g15≠some x
theorem rU.keep{s s':St}{lo:Nat}{v5:AV}{i:Nat}{c5:List AV}{v15:AV}{m:Nat}{c15:List AV}{g5 g15:Option Nat}{A B:List Nat}(h:rU s lo v5 i c5 v15 m c15 g5 g15)(k:Kp A B s s')(hA:∀ x,x∈A->x<lo)(hB:∀ x,x∈B->x<lo):rU s' lo v5 i c5 v15 m c15 g5 g15 :=
 ⟨h.z5,h.z15,h.o5.keep k hA (fun x hx=>.inl (hB x hx)),h.o15.keep k hA (fun x hx=>.inl (hB x hx)),h.ap⟩
def abV(s sX:St)(mr tr rO:Nat)(T:List ah)(n:Nat)(sv:AV)(S:bL)(k:Int)(nm:ah)(num:Int)(o3 o4 o6 v5:AV)(i:Nat)(c5:List AV)(v15:AV)(m:Nat)(c15:List AV)(Y:Ex):Prop :=
 ∃ v' g5' g15 sA sB,gS prog (sX.aw Y.cells) [32,32] [v5,.sl sX.next 0 1 7 (some 1)]=some (v',sA)/\v'.cells=some [v']/\wt sA rO 5 [v']=some sB/\nG s sB mr tr rO T n sv S [.i .i64 k,.s nm,.i .i64 num,o3,o4,v',o6]/\rU sB s.next v' (i+1) (c5++Y.cells) v15 m c15 g5' g15
theorem I8{T:List ah}{Y:Ex}
  (h:nG s sX mr tr rO T n sv S [.i .i64 k,.s nm,.i .i64 num,o3,o4,v5,o6]) (hG:rU sX s.next v5 i c5 v15 m c15 g5 g15) (hY:Y.Ty) (hi:i<=1000000) (hr:rO<s.next/\mr<rO/\tr<rO):abV s sX mr tr rO T n sv S k nm num o3 o4 o6 v5 i c5 v15 m c15 Y:=by
 have cY:=Y.aO;obtain⟨v',g',sA,w1,w2,w3,w4⟩:=hG.o5.mc lX (Ex.dH hY.wf) cY (by omega) h.nx;have hgl:=hG.o5.fJ;have hB4:∀ x,x∈g5.toList->s.next<=x:=fun x hx=>(hgl x (by simpa using hx)).1
 have hA:=h.qZ w3 (by simp) hB4 hr;obtain⟨al,co⟩:=hA.co;have hw:=bP co 5 [v'] (by simp) (by simp[w2.sc]);simp at hw;have k5:Kp [rO] [rO] sA (sA.ax rO [.i .i64 k,.s nm,.i .i64 num,o3,o4,v',o6] rO):=.ax (by simp) (by simp);have hz:=h.M.z1;have n1:=h.nx;have hg':g'≠some rO:=by
  rcases w4 with rfl|⟨x,rfl,hx⟩
  ·exact fun hh=>by have:=hgl rO hh;omega
  ·intro hh;cases hh;omega
 refine⟨v',g',g15,sA,_,w1,w2.cells,hw,⟨⟨_,cj _ _ _⟩,hA.M.keep k5 (by simp;omega) (by simp;omega) (by simp;omega) (by simp;omega),hA.V.DX (Kp.qN k5 (by simp) (fun x hx=>hx)) co,ig hA.K k5 (by simp) (by simp),hA.nx⟩,⟨fun hh=>by omega,hG.z15,?_,?_,?_⟩⟩
 ·exact w2.keep k5 (by simp;omega) (fun x hx=>.inr (by simp at hx;subst hx;exact hg'))
 ·have hgl15:=hG.o15.fJ;refine(hG.o15.keep w3 (by simp) (fun x hx=>.inr ?_)).keep k5 (by simp;omega) (fun x hx=>.inl (by simp at hx;omega));exact hG.ap x (by simpa using hx)
 ·have hgl15:=hG.o15.fJ;intro x hx;rcases w4 with rfl|⟨y,rfl,hy⟩
  ·exact hG.ap x hx
  ·have e:=J5 hx;subst e;intro hh;have:=hgl15 y hh;omega
theorem Nj{r0:Nat}(h:aW s lo z v n cs g)(hr:s.ce r0=some (l0,r0,al0))(hg:g≠some r0)(k:Kp [r0] [r0] s s'):aW s' lo z v n cs g:=by
 rcases h with h|h|⟨r,f,al,rfl,rfl,hc,hl,h0,h1,h2,h3,h4⟩
 ·exact .inl h
 ·exact .inr (.inl h)
 ·have hf:f≠r0:=fun e=>hg (by rw[e])
  have hrr:r≠r0:=by rintro rfl;rw[hc]at hr;cases hr;exact hf rfl
  exact .inr (.inr ⟨r,f,al,rfl,rfl,k.ce hc h3 h4 (by simp[hrr]) (by simp[hf]),hl,h0,h1,h2,Q0 h3 k.next,Q0 h4 k.next⟩)
theorem acp{r0:Nat}(h:rU s lo v5 i c5 v15 m c15 g5 g15)(hr:s.ce r0=some (l0,r0,al0))(h5:g5≠some r0)(h15:g15≠some r0)(k:Kp [r0] [r0] s s'):rU s' lo v5 i c5 v15 m c15 g5 g15 :=
 ⟨h.z5,h.z15,Nj h.o5 hr h5 k,Nj h.o15 hr h15 k,h.ap⟩
theorem Sj{T:List ah}{new:List AV}
  (h:nG s sX mr tr rO T n sv S oc) (hG:rU sX s.next v5 i c5 v15 m c15 g5 g15) (h1:bq new=true) (h2:new.length=8) (hm:m<=1000000) (hr:rO<s.next/\mr<rO/\tr<rO):
  ∃ v' g15' sA,gS prog (sX.aw new) [23,23] [v15,.sl sX.next 0 1 8 (some 1)]=some (v',sA)/\nG s sA mr tr rO T n sv S oc/\rU sA s.next v5 i c5 v' (m+1) (c15++new) g5 g15'/\Kp [] g15.toList sX sA/\(g15'=g15\/∃ x,g15'=some x/\sX.next<=x):=by
 obtain⟨v',g',sA,w1,w2,w3,w4⟩:=hG.o15.mc mJ h1 h2 (by omega) h.nx;have hgl:=hG.o15.fJ;have hB4:∀ x,x∈g15.toList->s.next<=x:=fun x hx=>(hgl x (by simpa using hx)).1
 have n1:=h.nx;refine⟨v',g',sA,w1,h.qZ w3 (by simp) hB4 hr,⟨hG.z5,fun hh=>by omega,hG.o5.keep w3 (by simp) (fun x hx=>.inr fun hh=>?_),w2,fun x hx hh=>?_⟩,w3,w4⟩
 ·exact hG.ap x hh (by simpa using hx)
 ·rcases w4 with rfl|⟨y,rfl,hy⟩
  ·exact hG.ap x hx hh
  ·have e:=J5 hh;subst e;have:=hG.o5.fJ y hx;omega
def ev(s:St)(lo:Nat)(T:List ah)(S:bL)(a:ae)(k0:Int)(n0:Nat)(v5 v15:AV)(i ni:Nat):Prop :=
 ∃ (acc accL:List (List AV× Ex)) (g5 g15:Option Nat),acc.length=i/\accL.length<=i/\rU s lo v5 i (aX acc).flat v15 accL.length (aX accL).flat g5 g15/\
  cg T a S k0 0 n0=(mR acc (cg T (dm a i) S k0 i ni).1,mR accL (cg T (dm a i) S k0 i ni).2.1,(cg T (dm a i) S k0 i ni).2.2)/\bG T ni+((dm a i).len+(dm a i).wt)<=bG T n0+(a.len+a.wt)
def Jy(s:St)(mr tr rE rR rO:Nat)(T:List ah)(n:Nat)(sv:AV)(S:bL)(k:Int)(nm:ah)(num:Int)(o3 o4 o6:AV)(a:ae)(k0:Int)(i:Nat)(t':Tr AV)(s':St):Prop :=
 ∃ v5 ni,tj s s' t' mr tr rE rR rO T ni sv S [.i .i64 k,.s nm,.i .i64 num,o3,o4,v5,o6]/\ev s' s.next T S a k0 n v5 (ab t' 15) i ni
theorem tj.tt{T:List ah}(h:tj s s' t' mr tr rE rR rO T n sv S oc):nG s s' mr tr rO T n sv S oc:=⟨h.co,h.M,h.V,h.K,h.K.next⟩
theorem nG.ss{T:List ah}(h:nG s s' mr tr rO T n sv S oc)(h0:ab t' 0=.p mr 0)(h2:ab t' 2=sv)(h4:ab t' 4=.p rE 0)(h6:ab t' 6=.p rR 0)(h7:ab t' 7=.p rO 0):tj s s' t' mr tr rE rR rO T n sv S oc:=⟨h0,h2,h4,h6,h7,h.co,h.M,h.V,h.K⟩
theorem Te{T:List ah}(ha:a.Ty 0)(hs:a.size<=1000000)(hIH:∀ p∈a.list,Do c p.2)
  (h:fU st s t mr tr rE rR rO T n sv S (.mk k nm num ps b a l) [.i .i64 k,.s nm,.i .i64 num,o3,o4,.sn,o6]) (h15:ab t 15=.sn) (hp:bG T n+(a.len+a.wt)<1000000) (hN:a.size+4000000<=N):
  ∃ t' s',ao (aq (dc 9)) ⟨prog,Tw c N,false,f20.ntmps,N⟩ t s=.nx t' s'/\Jy s mr tr rE rR rO T n sv S k nm num o3 o4 o6 a (fP strF k nm a.len) a.list.length t' s':=by
 obtain⟨l1,l2,l3,l4⟩:=h.lo;obtain⟨m1,m2⟩:=h.ml;obtain⟨al,ce⟩:=h.ce;have hal:=a.bZ;have ra:=(iv ce).a;have ln:=fun st:St=>aY (st:=st) underlying32 (a.bK 7) (a.bJ 7)
 have hro:rO<s.next/\mr<rO/\tr<rO:=⟨l4,by omega,by omega⟩;have hst:=fun(s:St) (n:Nat)=>MZ (c:=c) (st:=s) k nm num ps b a l n
 obtain⟨k0,hk0⟩:∃ k0,fP strF k nm a.len=k0:=⟨_,rfl⟩;rw[hk0];simp only[hk0]at hst;simp[dc,fg,aq,aj,f20,h.t4,ra,ln,bw];generalize hL:bf _ _ _ _=L;obtain⟨t1,s1,rfl,p0⟩:=dy hL 4 a.list.length
  (fun i t' s'=>ab t' 99=a.slice 7/\ab t' 100=.i .i64 (a.len:Int)/\ab t' 101=.i .i64 (i:Int)/\Jy s mr tr rE rR rO T n sv S k nm num o3 o4 o6 a k0 i t' s')
  (fun t' s'=>Jy s mr tr rE rR rO T n sv S k nm num o3 o4 o6 a k0 a.list.length t' s') (by rw[<-ae.aC];omega)
  ⟨by simp,by simp,by simp,.sn,n,h.lp (by simp) (by simp) (by simp) (by simp) (by simp),[],[],none,none,rfl,Q6 _,⟨fun _=>rfl,fun _=>by simp[h15],.nil _ _ _,by simpa[h15,aX,ae.flat]using aW.nil s s.next 8,fun _ h=>(by cases h)⟩,by simp[mR,dm],by simp[dm]⟩
  (by
   rintro i t' s' hi ⟨i99,i100,i101,v5,ni,iL,acc,accL,g5,g15,q1,q1',qG,q3,q4⟩;clear hL;obtain⟨v15,i15⟩:∃ v,ab t' 15=v:=⟨_,rfl⟩;rw[i15]at qG;have hil:i<a.len:=by rw[ae.aC];exact hi
   have e3:(i:Int)<(a.len:Int):=by omega
   have e4:wr .i64 ((i:Int)+1)=((i+1:Nat):Int):=by rw[aZ (by omega) (by omega)];rfl
   obtain⟨r,r1,r2⟩:=eR ha.pre (show eD 0+7=7 from rfl) hi;have ix:=dV underlying32 cI aH a.flat a.len i hil;rw[<-ae.cZ hil,r1,J6 r2,List.nil_append]at ix;have hmem:=Q2 hi;have hT:=ae.cU ha _ hmem;have hsz':=ae.dU hmem;have ld:=fun st:St=>kO (st:=st) (r:=r) cI qQ aH (a.list[i].2.aO)
   rw[vV a i hi]at q3 q4;simp only[ae.wt,ae.len]at q4;have cl7:=a.list[i].2.aO;obtain⟨s2,u1,u2,u3,u4⟩:=cO (z:=iQ) (cells:=a.list[i].2.cells) cl7 (Ex.dH hT.2.wf);have L2:=iL.tt.qZ u3 (by simp) (by simp) hro;have rx:rd s2 s'.next 0 7=some a.list[i].2.cells:=by
    rw[au u2,cQ];have:=nP a.list[i].2.cells []
    rwa [Ex.aO,Q1]at this
   have qpot:=qY T a.list[i].2 S ni;obtain⟨s3,f1,f2,f3⟩:=hIH _ hmem hT.2 (by omega) s2 mr tr ni T sv S N L2.M L2.V (by omega) (by omega);have tR:=xd T a.list[i].2 S ni hT.2;obtain⟨R,hR⟩:∃ R,bB T a.list[i].2 S ni=R:=⟨_,rfl⟩;rw[hR]at f1 f2 qpot tR;have cR:=R.1.aO;have L3:=L2.keep f3 (by simp) (by simp) hro f2 (L2.V.keep f3 (by simp));have G3:=(qG.keep u3 (by simp) (by simp)).keep f3 (by simp;omega) (by simp;omega);obtain⟨s4,y1,y2,y3,y4⟩:=cO (s:=s3) (z:=iQ) (cells:=R.1.cells) cR (Ex.dH tR.wf);have L4:=L3.qZ y3 (by simp) (by simp) hro;have G4:=G3.keep y3 (by simp) (by simp);have takeR:takeN 7 R.1.cells=some R.1.cells:=by
    have:=nP R.1.cells []
    rwa [Ex.aO,Q1]at this
   obtain⟨alE,cE⟩:=(iL.fr h).ce;have n1:=iL.K.next;have n2:=f3.next;have cE4:=y3.ce (f3.ce (u3.ce cE (by omega) (by omega) (by simp) (by simp)) (by omega) (by omega) (by simp;omega) (by simp;omega)) (by omega) (by omega) (by simp) (by simp);have rE4:=(iv cE4).all;obtain⟨ec,hec⟩:∃ ec,(Ex.mk k nm num ps b a l).cells=ec:=⟨_,rfl⟩;have st4:=hst s4 (N-2);rw[hec]at rE4 st4;rw[show N-2+2=N by omega]at st4;have k5:=Kp.aw (st:=s4) [] [] ec;obtain⟨s5,hs5⟩:∃ x,s4.aw ec=x:=⟨_,rfl⟩;rw[hs5]at st4 k5;have n5:s5.next=s4.next+1:=by rw[<-hs5];rfl
   have L5:=L4.qZ k5 (by simp) (by simp) hro;have G5:=G4.keep k5 (by simp) (by simp);have y5:=k5.ce y2 (by omega) (by omega) (by simp) (by simp);have r5:rd s5 s3.next 0 7=some R.1.cells:=by rw[au y5,cQ,takeR]
   have at5:=Hw (c:=c) (st:=s5) R.1 (N-1);rw[show N-1+1=N by omega]at at5;have k6:=Kp.aw (st:=s5) [] [] R.1.cells;obtain⟨s6,hs6⟩:∃ x,s5.aw R.1.cells=x:=⟨_,rfl⟩;rw[hs6]at at5 k6;have n6:s6.next=s5.next+1:=by rw[<-hs6];rfl
   have L6:=L5.qZ k6 (by simp) (by simp) hro;have G6:=G5.keep k6 (by simp) (by simp);have y6:=k6.ce y5 (by omega) (by omega) (by simp) (by simp);have r6:rd s6 s3.next 0 7=some R.1.cells:=by rw[au y6,cQ,takeR]
   have zz:bm prog 35=some iQ:=sQ;by_cases hk:k0<=(i:Int)
   ·cases hat:R.1.atom with
    |true =>
     rw[hat]at at5;obtain⟨v',g5',g15',sA,sB,w1,w2,w3,w4,w5⟩:=I8 L6 G6 tR (by omega) hro;obtain⟨al6,co6⟩:=L6.co;have rO6:rd s6 rO 5 1=some [v5]:=by rw[au co6];rfl
     have bo:=fun(t:Tr AV) (h:ai t (.tmp 132)=.ag R.1.cells)=>gT (S:=Tw c N) (t:=t) (st:=s6) lX (x:=.tmp 132) (cs:=R.1.cells) (by rw[h];exact j9 _) cR
     simp[i99,i100,i101,iL.t0,iL.t2,iL.t4,iL.t7,e3,e4,ix,ld,aJ,zz,aI cI aH,cl7,u1,aH,rx,f1,cR,y1,rE4,st4,hk,r5,r6,at5,rO6,bo,w1,db o9 sP,w2,w3];refine⟨_,_,⟨rfl,rfl⟩,by simp[i99],by simp[i100],by simp,v',R.2,w4.ss (by simp[iL.t0]) (by simp[iL.t2]) (by simp[iL.t4]) (by simp[iL.t6]) (by simp[iL.t7]),acc++[([],R.1)],accL,g5',g15',by simp[q1],by omega,?_,?_,by omega⟩
     ·rw[wm];simpa[i15]using w5
     ·rw[q3,cg];simp only[hR,hk,hat,true_and,Bool.true_eq_false,if_false];rw[vF];rfl
    |false =>
     rw[hat]at at5;rw[cg]at q3;simp only[hR,hk,hat,true_and,if_true]at q3;have qn:=wJ T R.2;have qb:=oM T (bD T R.2);obtain⟨s7,e7,M7,k7⟩:=Hl (c:=c) L6.M (by omega) (N:=N) (by omega);obtain⟨pn,hpn⟩:∃ pn,dE (bD T R.2)=pn:=⟨_,rfl⟩;rw[hpn]at e7 q3;have L7:=L6.keep k7 (by simp) (by simp) hro M7 (L6.V.keep k7 (by simp));have G7:=G6.keep k7 (by simp;omega) (by simp;omega);have n7:=k7.next;have y7:=k7.ce y6 (by omega) (by omega) (by simp;omega) (by simp;omega);have r7:rd s7 s3.next 0 7=some R.1.cells:=by rw[au y7,cQ,takeR]
     have bo1:=fun(t:Tr AV) (h1:ai t (.tmp 120)=.s pn) (h2:ai t (.tmp 121)=.ag R.1.cells)=>yD (S:=Tw c N) (st:=s7) (t:=t) h1 h2 cR
     have sR:bq (.s pn::R.1.cells)=true:=by simp[Ex.dH tR.wf]
     have cR8:(AV.s pn::R.1.cells).length=8:=by simp[cR]
     obtain⟨s8,z1,z2,z3,z4⟩:=cO (s:=s7) (z:=gL) (cells:=.s pn::R.1.cells) cR8 sR;have L8:=L7.qZ z3 (by simp) (by simp) hro;have G8:=G7.keep z3 (by simp) (by simp);have y8:=z3.ce y7 (by omega) (by omega) (by simp) (by simp);have r8:rd s8 s7.next 0 8=some (.s pn::R.1.cells):=by
      rw[au z2,cQ];have:=nP (.s pn::R.1.cells) []
      rwa [cR8,Q1]at this
     have bo2:=fun(t:Tr AV) (h:ai t (.tmp 124)=.ag (.s pn::R.1.cells))=>gT (S:=Tw c N) (t:=t) (st:=s8) mJ (x:=.tmp 124) (cs:=.s pn::R.1.cells) (by rw[h];exact j9 _) cR8
     have hacc:=hi;obtain⟨v15',g15',s9,x1,L9,G9,k9,x4⟩:=Sj L8 G8 sR cR8 (by omega) hro;have n9:=k9.next;have hgl:=qG.o15.fJ;have hB9:∀ x,x∈g15.toList->x<s'.next:=fun x hx=>(hgl x (by simpa using hx)).2
     have y9:=k9.ce y8 (by omega) (by omega) (by simp) (fun hh=>by have:=hB9 _ hh;omega);have z9:=k9.ce z2 (by omega) (by omega) (by simp) (fun hh=>by have:=hB9 _ hh;omega);have r9:rd s9 s7.next 0 1=some [.s pn]:=by rw[au z9];simp
     have bo3:=fun(t:Tr AV) (h2:ai t (.tmp 128)=.s pn)=>Ir (S:=Tw c N) (st:=s9) (t:=t) (x:=.const (.int .i64 1)) (QT t .i64 1) h2
     have hw:=bP y9 0 (cf pn).cells (by rw[Ex.aO,cR];omega) (by simp[cf,Ex.cells,ae.slice]);rw[gZ,jG (by rw[Ex.aO,cR])]at hw;have k10:Kp [s3.next] [s3.next] s9 (s9.ax s3.next (cf pn).cells s3.next):=.ax (by simp) (by simp);have c10:(s9.ax s3.next (cf pn).cells s3.next).ce s3.next=some ((cf pn).cells,s3.next,[s3.next]):=cj _ _ _;obtain⟨s10,hs10⟩:∃ x,s9.ax s3.next (cf pn).cells s3.next=x:=⟨_,rfl⟩;rw[hs10]at hw k10 c10;have vc:(cf pn).cells=[.i .i64 1,.s pn,.i .i64 0,.sn,.sn,.sn,.sn]:=by simp[cf,Ex.cells,ae.slice]
     have r10:rd s10 s3.next 0 7=some [.i .i64 1,.s pn,.i .i64 0,.sn,.sn,.sn,.sn]:=by rw[au c10,vc];rfl
     have L10:=L9.qZ k10 (fun x hx=>.inr ⟨by simp at hx;omega,by simp at hx;subst hx;exact⟨_,y9⟩⟩) (fun x hx=>by simp at hx;omega) hro;have G10:=acp G9 y9 (fun hh=>by have:=qG.o5.fJ _ hh;omega) (fun hh=>by
      rcases x4 with e|⟨y,e,hy⟩
      ·rw[e]at hh;have:=hgl _ hh;omega
      ·rw[e]at hh;cases hh;omega) k10
     have tV:(cf pn).Ty:=by simp only[cf,Ex.Ty,ae.Ty];exact⟨⟨by decide,by decide⟩,⟨[],.inl ⟨rfl,rfl⟩,by decide⟩,trivial,trivial,trivial⟩
     obtain⟨v',g5',g15'',sA,sB,w1,w2,w3,w4,w5⟩:=I8 L10 G10 tV (by omega) hro;obtain⟨al6,co6⟩:=L10.co;have rO6:rd s10 rO 5 1=some [v5]:=by rw[au co6];rfl
     rw[vc]at hw w1;have bo:=fun(t:Tr AV) (h:ai t (.tmp 132)=.ag [.i .i64 1,.s pn,.i .i64 0,.sn,.sn,.sn,.sn])=>gT (S:=Tw c N) (t:=t) (st:=s10) lX (x:=.tmp 132) (cs:=[.i .i64 1,.s pn,.i .i64 0,.sn,.sn,.sn,.sn]) (by rw[h];exact j9 _) rfl
     have zz2:bm prog 37=some gL:=sy;simp[i99,i100,i101,iL.t0,iL.t2,iL.t4,e3,ix,ld,aJ,zz,aI cI aH,cl7,u1,aH,rx,f1,cR,y1,rE4,st4,hk,r5,at5,br];rw[eJ (fl:=[(2,0)])]
     ·simp[i101,i15,iL.t0,iL.t7,e4,e7,aH,r7,bo1,aJ,zz2,aI dn cV,cR,z1,cV,r8,bo2,x1,r9,bo3,aI cI aH,hw,r10,rO6,bo,w1,db o9 sP,w2,w3];refine⟨_,_,⟨rfl,rfl⟩,by simp[i99],by simp[i100],by simp,v',bD T R.2,w4.ss (by simp[iL.t0]) (by simp[iL.t2]) (by simp[iL.t4]) (by simp[iL.t6]) (by simp[iL.t7]),acc++[([],cf pn)],accL++[([.s pn],R.1)],g5',g15'',by simp[q1],by simp;omega,?_,?_,by omega⟩
      ·rw[wm,wm,Q3];simpa using w5
      ·rw[q3,vF,vF];rfl
     ·kernel_rfl
     ·intro R' hR';simp[iL.t0,e7,aH,r7,bo1,aJ,zz2,aI dn cV,cR,z1]at hR';subst hR';simp only[Q9,J1,J3];refine bV rfl rfl rfl (s:=s6) ?_;simp[aH,r6]
   ·obtain⟨v',g5',g15',sA,sB,w1,w2,w3,w4,w5⟩:=I8 L5 G5 tR (by omega) hro;obtain⟨al6,co6⟩:=L5.co;have rO6:rd s5 rO 5 1=some [v5]:=by rw[au co6];rfl
    have bo:=fun(t:Tr AV) (h:ai t (.tmp 132)=.ag R.1.cells)=>gT (S:=Tw c N) (t:=t) (st:=s5) lX (x:=.tmp 132) (cs:=R.1.cells) (by rw[h];exact j9 _) cR
    simp[i99,i100,i101,iL.t0,iL.t2,iL.t4,iL.t7,e3,e4,ix,ld,aJ,zz,aI cI aH,cl7,u1,aH,rx,f1,cR,y1,rE4,st4,hk,r5,rO6,bo,w1,db o9 sP,w2,w3];refine⟨_,_,⟨rfl,rfl⟩,by simp[i99],by simp[i100],by simp,v',R.2,w4.ss (by simp[iL.t0]) (by simp[iL.t2]) (by simp[iL.t4]) (by simp[iL.t6]) (by simp[iL.t7]),acc++[([],R.1)],accL,g5',g15',by simp[q1],by omega,?_,?_,by omega⟩
    ·rw[wm];simpa[i15]using w5
    ·rw[q3,cg];simp only[hR,hk,false_and,if_false];rw[vF];rfl)
  (by rintro t' s' ⟨i99,i100,i101,v5,ni,iL,iA⟩;clear hL;simp[i100,i101,ae.aC];exact⟨_,_,⟨rfl,rfl⟩,v5,ni,⟨by simp[iL.t0],by simp[iL.t2],by simp[iL.t4],by simp[iL.t6],by simp[iL.t7],iL.co,iL.M,iL.V,iL.K⟩,by simpa using iA⟩)
 clear hL;exact⟨t1,s1,by simp,p0⟩
def ZF(s:St)(lo:Nat)(T:List ah)(S:bL)(l:ae)(n0:Nat)(v:AV)(i ni:Nat):Prop :=
 ∃ (acc:List (List AV× Ex)),acc.length=i/\ew s lo 11 v i (aX acc).flat/\
  dP T l S n0=(mR acc (dP T (dm l i) S ni).1,(dP T (dm l i) S ni).2)/\bG T ni+(dm l i).kX<=bG T n0+l.kX
def Io(s:St)(mr tr rE rR rO:Nat)(T:List ah)(n:Nat)(sv:AV)(S:bL)(k:Int)(nm:ah)(num:Int)(o3 o4 o5:AV)(l:ae)(i:Nat)(t':Tr AV)(s':St):Prop :=
 ∃ v6 ni,tj s s' t' mr tr rE rR rO T ni sv S [.i .i64 k,.s nm,.i .i64 num,o3,o4,o5,v6]/\ZF s' s.next T S l n v6 i ni
theorem ab6{T:List ah}(hl:l.Ty 4)(hs:l.size<=1000000)(hIH:∀ p∈l.list,Do c p.2)
  (h:fU st s t mr tr rE rR rO T n sv S (.mk k nm num ps b a l) [.i .i64 k,.s nm,.i .i64 num,o3,o4,o5,.sn]) (h15:ab t 15=v15) (hp:bG T n+l.kX<1000000) (hN:l.size+4000000<=N):
  ∃ t' s' v6,ao (aq (dc 10)) ⟨prog,Tw c N,false,f20.ntmps,N⟩ t s=.nx t' s'/\fU st s' t' mr tr rE rR rO T (dP T l S n).2 sv S (.mk k nm num ps b a l) [.i .i64 k,.s nm,.i .i64 num,o3,o4,o5,v6]/\ew s' s.next 11 v6 l.len (dP T l S n).1.flat/\Kp [mr,tr,rO] [mr,rO] s s'/\(∃ L,(dP T l S n).1=aX L)/\ab t' 15=v15:=by
 obtain⟨l1,l2,l3,l4⟩:=h.lo;obtain⟨m1,m2⟩:=h.ml;obtain⟨al,ce⟩:=h.ce;have hll:=l.bZ;have rl:=(iv ce).l;have ln:=fun st:St=>aY (st:=st) underlying33 (l.bK 11) (l.bJ 11)
 have hro:rO<s.next/\mr<rO/\tr<rO:=⟨l4,by omega,by omega⟩;have key:∃ t' s',ao (aq (dc 10)) ⟨prog,Tw c N,false,f20.ntmps,N⟩ t s=.nx t' s'/\Io s mr tr rE rR rO T n sv S k nm num o3 o4 o5 l l.list.length t' s'/\ab t' 15=v15:=by
  simp[dc,fg,aq,aj,f20,h.t4,rl,ln,bw];generalize hL:bf _ _ _ _=L;obtain⟨t1,s1,rfl,p0,p15⟩:=dy hL 6 l.list.length
   (fun i t' s'=>ab t' 15=v15/\ab t' 138=l.slice 11/\ab t' 139=.i .i64 (l.len:Int)/\ab t' 140=.i .i64 (i:Int)/\Io s mr tr rE rR rO T n sv S k nm num o3 o4 o5 l i t' s')
   (fun t' s'=>Io s mr tr rE rR rO T n sv S k nm num o3 o4 o5 l l.list.length t' s'/\ab t' 15=v15) (by rw[<-ae.aC];omega)
   ⟨by simp[h15],by simp,by simp,by simp,.sn,n,h.lp (by simp) (by simp) (by simp) (by simp) (by simp),[],rfl,⟨none,fun _=>rfl,.nil _ _ _⟩,by simp[mR,dm],by simp[dm]⟩
   (by
    rintro i t' s' hi ⟨i15,i138,i139,i140,v6,ni,iL,acc,q1,⟨g,q0,qO⟩,q3,q4⟩;clear hL;have hil:i<l.len:=by rw[ae.aC];exact hi
    have e3:(i:Int)<(l.len:Int):=by omega
    have e4:wr .i64 ((i:Int)+1)=((i+1:Nat):Int):=by rw[aZ (by omega) (by omega)];rfl
    obtain⟨r,r1,r2⟩:=eR hl.pre (show eD 4+7=11 from rfl) hi;have ix:=dV underlying33 cy bU l.flat l.len i hil;rw[<-ae.cZ hil,r1,<-Q8]at ix;have hmem:=Q2 hi;have hT:=ae.cU hl _ hmem;have hsz':=ae.dU hmem;obtain⟨vs,p1,p2,p3⟩:=Jt hT.1;obtain⟨H,hH⟩:∃ H,cD l.list[i]=H:=⟨_,rfl⟩;rw[hH]at p1 p3;have hce:(l.list[i].1++l.list[i].2.cells).length=11:=by rw[Q3,r2,Ex.aO];rfl
    have hsc:bq (l.list[i].1++l.list[i].2.cells)=true:=gX hT.1.sc (Ex.dH hT.2.wf);have ld:=fun st:St=>kO (st:=st) (r:=r) cy zn bU hce
    have c0:cut (l.list[i].1++l.list[i].2.cells) 0 1=some [.i .i64 H.k]:=by rw[p1];rfl
    have c1:cut (l.list[i].1++l.list[i].2.cells) 1 1=some [.s H.n]:=by rw[p1];rfl
    have c2:cut (l.list[i].1++l.list[i].2.cells) 2 1=some [.i .i64 H.m]:=by rw[p1];rfl
    have c3:cut (l.list[i].1++l.list[i].2.cells) 3 1=some [vs]:=by rw[p1];rfl
    have c4:cut (l.list[i].1++l.list[i].2.cells) 4 7=some l.list[i].2.cells:=by rw[p1];have:=nP l.list[i].2.cells [];rw[Ex.aO,Q1]at this;simpa using this
    generalize l.list[i].1++l.list[i].2.cells=cl at *;obtain⟨s2,u1,u2,u3,u4⟩:=cO (z:=yI) hce hsc;have L2:=iL.tt.qZ u3 (by simp) (by simp) hro;have n1:=iL.K.next;have n2:=u3.next;rw[vV l i hi]at q3 q4;have wt1:(ae.cons l.list[i].1 l.list[i].2 (dm l (i+1))).kX=H.vs.length+l.list[i].2.wt+(dm l (i+1)).kX:=by simp only[ae.kX];rw[show((l.list[i].1,l.list[i].2):List AV× Ex)=l.list[i] from rfl,hH]
    rw[wt1]at q4;have pr1:∀ m,dP T (ae.cons l.list[i].1 l.list[i].2 (dm l (i+1))) S m=(.cons [.i .i64 H.k,.s H.n,.i .i64 H.m,cG (aU T S H.vs m).2.1] (bB T l.list[i].2 (aU T S H.vs m).1 (aU T S H.vs m).2.2).1 (dP T (dm l (i+1)) S (bB T l.list[i].2 (aU T S H.vs m).1 (aU T S H.vs m).2.2).2).1,(dP T (dm l (i+1)) S (bB T l.list[i].2 (aU T S H.vs m).1 (aU T S H.vs m).2.2).2).2):=by intro m;simp only[dP];rw[show((l.list[i].1,l.list[i].2):List AV× Ex)=l.list[i] from rfl,hH]
    rw[pr1]at q3;have qw:=(qT T H.vs S ni).1;have qwb:=oM T ni;obtain⟨s3,sv3,f1,f2,f3,f4⟩:=HC (c:=c) (st:=s2) (v:=vs) (l:=H.vs) (.inl (by rw[p3];exact CF p2)) (by omega) L2.V L2.M (by omega) (N:=N) (by omega);obtain⟨W,hW⟩:∃ W,aU T S H.vs ni=W:=⟨_,rfl⟩;rw[hW]at f1 f2 f3 q3 qw;have L3:=L2.keep f4 (by simp) (by simp) hro f3 (L2.V.keep f4 (by simp));have n3:=f4.next;have u2':=f4.ce u2 (by omega) (by omega) (by simp;omega) (by simp;omega);have d0:rd s3 s'.next 0 1=some [.i .i64 H.k]:=by rw[au u2',c0]
    have d1:rd s3 s'.next 1 1=some [.s H.n]:=by rw[au u2',c1]
    have d2:rd s3 s'.next 2 1=some [.i .i64 H.m]:=by rw[au u2',c2]
    have d3:rd s2 s'.next 3 1=some [vs]:=by rw[au u2,c3]
    have d4:rd s3 s'.next 4 7=some l.list[i].2.cells:=by rw[au u2',c4]
    obtain⟨al3,co3⟩:=L3.co;have rO3:rd s3 rO 6 1=some [v6]:=by rw[au co3];rfl
    have qpot:=qY T l.list[i].2 W.1 W.2.2;obtain⟨s4,e5,e6,e7⟩:=hIH _ hmem hT.2 (by omega) s3 mr tr W.2.2 T sv3 W.1 N L3.M f2 (by omega) (by omega);have tR:=xd T l.list[i].2 W.1 W.2.2 hT.2;obtain⟨R,hR⟩:∃ R,bB T l.list[i].2 W.1 W.2.2=R:=⟨_,rfl⟩;rw[hR]at e5 e6 q3 qpot tR;have cR:=R.1.aO;have L4:=L3.keep e7 (by simp) (by simp) hro e6 (L3.V.keep e7 (by simp));have n4:=e7.next;obtain⟨al4,co4⟩:=L4.co;have rO4:rd s4 rO 6 1=some [v6]:=by rw[au co4];rfl
    have u2'':=e7.ce u2' (by omega) (by omega) (by simp;omega) (by simp;omega);have g0:rd s4 s'.next 0 1=some [.i .i64 H.k]:=by rw[au u2'',c0]
    have g1:rd s4 s'.next 1 1=some [.s H.n]:=by rw[au u2'',c1]
    have g2:rd s4 s'.next 2 1=some [.i .i64 H.m]:=by rw[au u2'',c2]
    have bo:=fun(t:Tr AV) (h1:ai t (.tmp 155)=.i .i64 H.k) (h2:ai t (.tmp 157)=.s H.n) (h3:ai t (.tmp 159)=.i .i64 H.m) (h4:ai t (.tmp 160)=cG W.2.1) (h5:ai t (.tmp 165)=.ag R.1.cells)=>Uu (S:=Tw c N) (st:=s4) (t:=t) h1 h2 h3 h4 h5 cR (Bo _).1
    have cN:(AV.i Q7 H.k::AV.s H.n::AV.i Q7 H.m::cG W.2.1::R.1.cells).length=11:=by simp[cR]
    have bo2:=fun(t:Tr AV) (h:ai t (.tmp 166)=.ag (.i .i64 H.k::.s H.n::.i .i64 H.m::cG W.2.1::R.1.cells))=>gT (S:=Tw c N) (t:=t) (st:=s4) yK (x:=.tmp 166) (cs:=.i .i64 H.k::.s H.n::.i .i64 H.m::cG W.2.1::R.1.cells) (by rw[h];exact j9 _) cN
    have sR:bq (AV.i Q7 H.k::AV.s H.n::AV.i Q7 H.m::cG W.2.1::R.1.cells)=true:=by simp[Ex.dH tR.wf,(Bo W.2.1).2]
    have O4:=((qO.keep u3 (by simp) (by simp)).keep f4 (by simp;omega) (fun x hx=>.inl (by simp at hx;omega))).keep e7 (by simp;omega) (fun x hx=>.inl (by simp at hx;omega));obtain⟨v',g',s5,w1,w2,w3,w4⟩:=O4.mc yK sR cN (by omega) L4.nx;have hgl:=qO.fJ;have hB4:∀ x,x∈g.toList->s.next<=x:=fun x hx=>(hgl x (by simpa using hx)).1
    have L5:=L4.qZ w3 (by simp) hB4 hro;obtain⟨al5,co5⟩:=L5.co;have hw:=bP co5 6 [v'] (by simp) (by simp[w2.sc]);simp at hw;have k5:Kp [rO] [rO] s5 (s5.ax rO [.i .i64 k,.s nm,.i .i64 num,o3,o4,o5,v'] rO):=.ax (by simp) (by simp);have c5:(s5.ax rO [.i .i64 k,.s nm,.i .i64 num,o3,o4,o5,v'] rO).ce rO=some ([.i .i64 k,.s nm,.i .i64 num,o3,o4,o5,v'],rO,[rO]):=cj _ _ _;obtain⟨s6,hs6⟩:∃ x,s5.ax rO [.i .i64 k,.s nm,.i .i64 num,o3,o4,o5,v'] rO=x:=⟨_,rfl⟩;rw[hs6]at hw k5 c5;have hz:=iL.M.z1;have L6:nG s s6 mr tr rO T R.2 sv S [.i .i64 k,.s nm,.i .i64 num,o3,o4,o5,v'] :=
     ⟨⟨_,c5⟩,L5.M.keep k5 (by simp;omega) (by simp;omega) (by simp;omega) (by simp;omega),L5.V.DX (Kp.qN k5 (by simp) (fun x hx=>hx)) co5,ig L5.K k5 (by simp) (by simp),Q4 L5.nx k5.next⟩
    have G6:ew s6 s.next 11 v' (i+1) (aX (acc++[([.i .i64 H.k,.s H.n,.i .i64 H.m,cG W.2.1],R.1)])).flat:=by
     refine⟨g',fun hh=>by omega,?_⟩;rw[wm];have hg':g'≠some rO:=by
      rcases w4 with rfl|⟨x,rfl,hx⟩
      ·exact fun hh=>by have:=hgl rO hh;omega
      ·intro hh;cases hh;omega
     exact w2.keep k5 (by simp;omega) (fun x hx=>.inr (by simp at hx;subst hx;exact hg'))
    have zz:bm prog 93=some yI:=FE;simp[i138,i139,i140,iL.t0,iL.t2,e3,ix,ld,aJ,zz,aI cy bU,hce,u1,d3,f1,br];rw[eJ (fl:=[(1,14),(3,14),(5,14),(7,14)])]
    ·simp[iL.t0,iL.t7,i140,rO3,d0,d1,d2,aH,d4,e5,bo,bo2,w1,db uX yx,w2.cells,hw,e4];refine⟨_,_,⟨rfl,rfl⟩,by simp[i15],by simp[i138],by simp[i139],by simp,v',R.2,L6.ss (by simp[iL.t0]) (by simp[iL.t2]) (by simp[iL.t4]) (by simp[iL.t6]) (by simp[iL.t7]),acc++[([.i .i64 H.k,.s H.n,.i .i64 H.m,cG W.2.1],R.1)],by simp[q1],G6,?_,by omega⟩;rw[q3,vF];rfl
    ·kernel_rfl
    ·intro R' hR';simp[iL.t0,iL.t7,rO3,d0,d1,d2,aH,d4,e5,bo,bo2,w1,db uX yx,w2.cells,hw]at hR';subst hR';simp only[Q9,J1,J3,J4];refine⟨bV rfl rfl rfl (s:=s4) ?_,bV rfl rfl rfl (s:=s4) ?_,bV rfl rfl rfl (s:=s4) ?_,bV rfl rfl rfl (s:=s4) ?_⟩
     ·simp[rO4]
     ·simp[g0]
     ·simp[g1]
     ·simp[g2])
   (by rintro t' s' ⟨i15,i138,i139,i140,v6,ni,iL,iB⟩;clear hL;simp[i139,i140,ae.aC];refine⟨_,_,⟨rfl,rfl⟩,⟨v6,ni,⟨by simp[iL.t0],by simp[iL.t2],by simp[iL.t4],by simp[iL.t6],by simp[iL.t7],iL.co,iL.M,iL.V,iL.K⟩,iB⟩,by simp[i15]⟩)
  clear hL;exact⟨t1,s1,by simp,p0,p15⟩
 obtain⟨t',s',q1,⟨v6,ni,q2,acc,a1,a2,a4,a5⟩,a15⟩:=key;obtain⟨f,hf⟩:=tK l;rw[hf]at a4;simp only[dP,BI]at a4;refine⟨t',s',v6,q1,?_,?_,q2.K,⟨acc,by rw[a4]⟩,a15⟩
 ·rw[a4];exact q2.fr h
 ·rw[a4,ae.aC];exact a2
theorem zP(h:ew s lo z v n cs):v.cells=some [v]/\bS v=true:=by obtain⟨g,-,h⟩:=h;exact⟨h.cells,h.sc⟩
theorem ew.pd(h:ew s lo z v n cs)(k:Kp [mr,tr,rO] [mr,rO] s s')(h1:mr<lo/\tr<lo/\rO<lo):ew s' lo z v n cs:=by
 obtain⟨g,h0,h⟩:=h;refine⟨g,h0,h.keep k (fun x hx=>?_) (fun x hx=>.inl ?_)⟩
 ·simp at hx;omega
 ·simp at hx;omega
theorem ew.Bi{B:List Nat}(h:ew s lo z v n cs)(k:Kp A B s s')(hA:∀ x,x∈A->x<lo)(hB:∀ x,x∈B->x<lo):ew s' lo z v n cs:=by obtain⟨g,h0,h⟩:=h;exact⟨g,h0,h.keep k hA (fun x hx=>.inl (hB x hx))⟩
theorem ew.part(h:ew s lo z v l.len l.flat)(hl:l=aX L)(hn:n0<=lo)(hz:1<=z)(hT:l.Ty m):Fz n0 s v (l.slice z):=by
 subst hl;obtain⟨g,h0,h⟩:=h;rw[kh]at h h0;obtain⟨v',h1,h2⟩:=h.fz hn hz (fB.pure (ae.oF hT));rcases J8 L.length with e|e
 ·have e1:=h0 e;subst e1;have:v'=.sn:=h1.uniq (.pure rfl);rw[<-P4 (fun _=>this) h2];exact h1
 ·rw[<-P4 (fun hh=>by omega) h2];exact h1
def Vn(o:Out)(st:St)(mr tr rR:Nat)(T:List ah)(n:Nat)(y:Ex):Prop :=
 ∃ t' s' cs,o=.rt t' s'/\ab t' 6=.p rR 0/\(∃ al,s'.ce rR=some (cs,rR,al))/\cs.length=7/\fB st.next s' cs y.cells/\Kp [mr,tr] [mr] st s'/\Mk s' mr tr T n
theorem abJ{T:List ah}{v4 v6:AV}{pn:List ah}{lb la ll lt:ae}{Lb La Ll Lt:List (List AV× Ex)}{lo4 lo5 lo6:Nat}
  (h:fU st s t mr tr rE rR rO T n sv S x [.i .i64 k,.s nm,.i .i64 num,cG pn,v4,v5,v6]) (h15:ab t 15=v15)
  (g4:ew s lo4 8 v4 lb.len lb.flat) (g5:ew s lo5 7 v5 la.len la.flat) (g6:ew s lo6 11 v6 ll.len ll.flat) (g15:ew s lo5 8 v15 lt.len lt.flat)
  (e4:lb=aX Lb) (e5:la=aX La) (e6:ll=aX Ll) (e15:lt=aX Lt) (t4:lb.Ty 1) (t5:la.Ty 0) (t6:ll.Ty 4) (t15:lt.Ty 1) (_:(Ex.mk k nm num (cG pn) lb la ll).Ty)
  (q4:rO<lo4) (q5:rO<lo5) (q6:rO<lo6) (hm:lt.len<=1000000):
  Vn (ao (dc 11) ⟨prog,Tw c N,false,f20.ntmps,N⟩ t s) st mr tr rR T n (kN lt (.mk k nm num (cG pn) lb la ll)):=by
 obtain⟨l1,l2,l3,l4⟩:=h.lo;obtain⟨m1,m2⟩:=h.ml;obtain⟨al2,cr⟩:=h.cr;obtain⟨al3,co⟩:=h.co;have c4:=zP g4;have c5:=zP g5;have c6:=zP g6;have c15:=zP g15;have cp:=Bo pn;have ro:rd s rO 0 7=some [.i .i64 k,.s nm,.i .i64 num,cG pn,v4,v5,v6]:=by rw[au co];rfl
 have sO:bq [.i .i64 k,.s nm,.i .i64 num,cG pn,v4,v5,v6]=true:=by simp[c4.2,c5.2,c6.2,cp.2]
 have fzO:∀ {s':St} {A B:List Nat},Kp A B s s'->(∀ x,x∈A->x<=rO)->(∀ x,x∈B->x<=rO)->fB st.next s' [.i .i64 k,.s nm,.i .i64 num,cG pn,v4,v5,v6] (Ex.mk k nm num (cG pn) lb la ll).cells:=by
  intro s' A B kk hA hB;unfold Ex.cells;have pp:bg (cG pn)=true:=(xF pn).pure (jD pn);refine .cons (.pure rfl) (.cons (.pure rfl) (.cons (.pure rfl) (.cons (.pure pp) (.cons ?_ (.cons ?_ (.cons ?_ .nil))))))
  ·exact(g4.Bi kk (fun x hx=>by have:=hA x hx;omega) (fun x hx=>by have:=hB x hx;omega)).part e4 (by omega) (by decide) t4
  ·exact(g5.Bi kk (fun x hx=>by have:=hA x hx;omega) (fun x hx=>by have:=hB x hx;omega)).part e5 (by omega) (by decide) t5
  ·exact(g6.Bi kk (fun x hx=>by have:=hA x hx;omega) (fun x hx=>by have:=hB x hx;omega)).part e6 (by omega) (by decide) t6
 have ln:∀ s:St,ft prog s [23] [v15]=some (.i .i64 (lt.len:Int),s):=fun s=>by obtain⟨g,-,hg⟩:=g15;exact aY underlying23 hg.len.1 hg.len.2
 cases hlt:lt with
 |nil f =>
  rw[hlt]at ln;have hw:=bP cr 0 [.i .i64 k,.s nm,.i .i64 num,cG pn,v4,v5,v6] (by simp[iQ]) sO;rw[gZ,jG (by simp[iQ])]at hw;have k2:Kp [rR] [rR] s (s.ax rR [.i .i64 k,.s nm,.i .i64 num,cG pn,v4,v5,v6] rR):=.ax (by simp) (by simp);have key:∃ t',ao (dc 11) ⟨prog,Tw c N,false,f20.ntmps,N⟩ t s=.rt t' (s.ax rR [.i .i64 k,.s nm,.i .i64 num,cG pn,v4,v5,v6] rR)/\ab t' 6=.p rR 0:=by simp[dc,fg,aj,f20,h15,ln,ae.len,h.t6,h.t7,aH,ro,aI cI aH,hw]
  obtain⟨t',k1,k3⟩:=key;exact⟨t',_,_,k1,k3,⟨_,cj _ _ _⟩,rfl,fzO k2 (by simp;omega) (by simp;omega),dz h.K k2 (by simp;omega) (by simp;omega),h.M.keep k2 (by simp;omega) (by simp;omega) (by simp;omega) (by simp;omega)⟩
 |cons p y r =>
  have hpos:0<lt.len:=by rw[hlt];simp[ae.len]
  have hpos':(0:Int)<(lt.len:Int):=by omega
  have bo:=fun(t:Tr AV) (hh:ai t (.tmp 175)=.ag [.i .i64 k,.s nm,.i .i64 num,cG pn,v4,v5,v6])=>gT (S:=Tw c N) (st:=s) lX (cs:=[.i .i64 k,.s nm,.i .i64 num,cG pn,v4,v5,v6]) (by rw[hh];exact j9 _) rfl
  have k1:=Kp.aw (st:=s) [] [] [.i .i64 k,.s nm,.i .i64 num,cG pn,v4,v5,v6];have cn:=cz (st:=s) [.i .i64 k,.s nm,.i .i64 num,cG pn,v4,v5,v6];obtain⟨s1,hs1⟩:∃ x,s.aw [.i .i64 k,.s nm,.i .i64 num,cG pn,v4,v5,v6]=x:=⟨_,rfl⟩;have n1:s1.next=s.next+1:=by rw[<-hs1];rfl
  rw[hs1]at bo k1 cn;have bo2:=fun(t:Tr AV) (h1:ai t (.tmp 174)=v15) (h2:ai t (.tmp 176)=.sl s.next 0 1 7 (some 1))=>Oa (S:=Tw c N) (st:=s1) (t:=t) (x:=.const (.int .i64 7)) (QT t .i64 7) h1 h2 c15.1 (by simp)
  have cr1:=k1.ce cr (by omega) (by omega) (by simp) (by simp);have hw:=bP cr1 0 [.i .i64 7,.s [],.i .i64 0,.sn,v15,.sl s.next 0 1 7 (some 1),.sn] (by simp[iQ]) (by simp[c15.2]);rw[gZ,jG (by simp[iQ])]at hw;have k2:Kp [rR] [rR] s1 (s1.ax rR [.i .i64 7,.s [],.i .i64 0,.sn,v15,.sl s.next 0 1 7 (some 1),.sn] rR):=.ax (by simp) (by simp);obtain⟨s2,hs2⟩:∃ x,s1.ax rR [.i .i64 7,.s [],.i .i64 0,.sn,v15,.sl s.next 0 1 7 (some 1),.sn] rR=x:=⟨_,rfl⟩;have cr2:(s1.ax rR [.i .i64 7,.s [],.i .i64 0,.sn,v15,.sl s.next 0 1 7 (some 1),.sn] rR).ce rR=some ([.i .i64 7,.s [],.i .i64 0,.sn,v15,.sl s.next 0 1 7 (some 1),.sn],rR,[rR]):=cj _ _ _;rw[hs2]at hw k2 cr2;have key:∃ t',ao (dc 11) ⟨prog,Tw c N,false,f20.ntmps,N⟩ t s=.rt t' s2/\ab t' 6=.p rR 0:=by simp[dc,fg,aj,f20,h15,ln,hpos,h.t6,h.t7,aH,ro,bo,bo2,aI cI aH,hw]
  obtain⟨t',q1,q3⟩:=key;have kk:Kp [rR] [rR] s s2:=ig (BG k1) k2 (by simp) (by simp);refine⟨t',s2,_,q1,q3,⟨_,cr2⟩,rfl,?_,dz h.K kk (by simp;omega) (by simp;omega),h.M.keep kk (by simp;omega) (by simp;omega) (by simp;omega) (by simp;omega)⟩;have f15:=(g15.Bi kk (by simp;omega) (by simp;omega)).part (n0:=st.next) e15 (by omega) (by decide) t15;rw[hlt]at f15;have cn2:=k2.ce cn (by omega) (by omega) (by simp;omega) (by simp;omega);have fO:=Fz.slice (c:=some 1) (m:=1) (z:=7) cn2 rfl (by omega) (fzO kk (by simp;omega) (by simp;omega)) (by decide);have hce:(kN (.cons p y r) (.mk k nm num (cG pn) lb la ll)).cells=[.i .i64 7,.s [],.i .i64 0,.sn,(ae.cons p y r).slice 8,.rs (Ex.mk k nm num (cG pn) lb la ll).cells 1 7,.sn]:=by simp[kN,Ex.cells,ae.slice,ae.flat,ae.len]
  rw[hce];exact .cons (.pure rfl) (.cons (.pure rfl) (.cons (.pure rfl) (.cons (.pure rfl) (.cons f15 (.cons fO (.cons (.pure rfl) .nil))))))
theorem Jj{k:Tmp}(h:ab t k=v)(hv:v≠.un):oT P t st (.cell k ty)=loadAt P ty st v:=by
 unfold ab at h;show(match t.get k with|some v=>loadAt P ty st v|none=>none)=_
 cases hk:t.get k with
 |none=>rw[hk]at h;exact absurd h.symm hv
 |some u=>rw[hk]at h;subst h;rfl
theorem SG{al:List Nat}(h6:ab t' 6=.p rR 0)(hc:s'.ce rR=some (cs,rR,al))(hl:cs.length=7):eE prog f20.results.toList (.rt t' s')=some (.ag cs,s'):=by
 have r:rd s' rR 0 7=some cs:=by rw[au hc,cQ,<-hl,dD]
 have r1:oT prog t' s' (.cell 6 35)=some (.ag cs):=by rw[Jj h6 (by simp),lS cI qQ,aH,r];rfl
 simp[f20,aG,aF,r1]
theorem VR:∀ x,Do c x:=by
 refine Ex.ind fun k nm num ps b a l hb ha hl=>?_
 intro hT hs st mr tr n T sv S N hM hS hp hN;obtain⟨N,rfl⟩:∃ N',N=N'+1:=⟨N-1,by omega⟩;have hsz:(Ex.mk k nm num ps b a l).size=1+b.size+a.size+l.size:=by simp only[Ex.size]
 have hTy:=hT;simp only[Ex.Ty]at hT;obtain⟨hkb,hps,hTb,hTa,hTl⟩:=hT;simp only[Ex.wt]at hp;have hbl:=b.bZ;have hal:=a.bZ;have pn:=oM T n
 suffices hh:∃ t' s' rR cs,ao fg ⟨prog,Tw c N,false,f20.ntmps,N⟩ (tmpsOf [.p mr 0,.ag (Ex.mk k nm num ps b a l).cells,sv] 0 .lf) st=.rt t' s'/\ab t' 6=.p rR 0/\(∃ al,s'.ce rR=some (cs,rR,al))/\cs.length=7/\fB st.next s' cs (bB T (.mk k nm num ps b a l) S n).1.cells/\Kp [mr,tr] [mr] st s'/\Mk s' mr tr T (bB T (.mk k nm num ps b a l) S n).2 by
  obtain⟨t',s',rR,cs,h1,h2,⟨al',h3⟩,h4,h5,h6,h7⟩:=hh;have he:aV c N f20 (f20.body.getD .skip) [.p mr 0,.ag (Ex.mk k nm num ps b a l).cells,sv] st=some (.ag cs,s'):=by unfold aV;rw[show(f20.body.getD .skip)=fg from rfl,h1];exact SG h2 h3 h4
  exact⟨s'.shut st.next,vi rfl rfl rfl rfl rfl (by decide) func20 rfl (J9 rfl) he (.ag h5),h7.shut hM.mrl,h6.shut (Q6 _)⟩
 obtain⟨t0,s0,rE,rR,rO,a0,h0⟩:=RY k nm num ps b a l hM hS;rw[a0];by_cases hk:k=1
 ·subst hk;obtain⟨t1,s1,b1,b2,b3,b4,b5⟩:=S6 (c:=c) h0 (N:=N);rw[b1];have e:bB T (.mk 1 nm num ps b a l) S n=(.mk 1 ((S nm).getD nm) num .sn (.nil true) (.nil true) (.nil true),n):=by rw[bB,if_pos rfl]
  rw[e];refine⟨t1,s1,rR,_,rfl,b2,b3,rfl,?_,b4,b5⟩;have:(Ex.mk 1 ((S nm).getD nm) num .sn (.nil true) (.nil true) (.nil true)).cells=[.i .i64 1,.s ((S nm).getD nm),.i .i64 num,.sn,.sn,.sn,.sn]:=by simp[Ex.cells,ae.slice]
  rw[this];exact .pure rfl
 ·obtain⟨t1,b1,h1⟩:=abS (c:=c) hk h0 (N:=N);rw[b1,dK];have w1:=qT T (ba ps) S n;obtain⟨t2,s2,sv2,b2,h2⟩:=aaA (c:=c) hps (by omega) (by omega) h1 (N:=N) (by omega);obtain⟨W1,hW1⟩:∃ W,aU T S (ba ps) n=W:=⟨_,rfl⟩;rw[hW1]at w1 h2;obtain⟨t3,b3,b3',h3⟩:=UR (c:=c) h2 (N:=N);obtain⟨t4,s4,b4,h4,b4'⟩:=aav (c:=c) hTb (by omega) h3 b3' (N:=N) (by omega);have w2:=qT T b.names W1.1 W1.2.2;have w2l:=AO T b.names W1.1 W1.2.2;rw[eW]at w2 w2l;obtain⟨t5,s5,sv5,b5,h5,b5'⟩:=TK (c:=c) (l:=b.names) (by rw[eW];omega) (by rw[eW];omega) h4 b4' (N:=N) (by omega);obtain⟨W2,hW2⟩:∃ W,aU T W1.1 b.names W1.2.2=W:=⟨_,rfl⟩;rw[hW2]at w2 w2l h5 b5';have w3:=Ac T b W2.1 W2.2.1 W2.2.2;have y3:=AC T b W2.1 W2.2.1 W2.2.2 hTb;have z3:=Hz T b W2.1 W2.2.1 W2.2.2;obtain⟨t6,s6,v4,b6,h6,g6,k6,⟨Lb,hLb⟩⟩:=aaK (c:=c) hTb (by omega) hb w2l h5 b5' (by omega) (N:=N) (by omega);obtain⟨RB,hRB⟩:∃ W,c8 T b W2.1 W2.2.1 W2.2.2=W:=⟨_,rfl⟩;rw[hRB]at w3 y3 z3 h6 g6 hLb;obtain⟨t7,b7,b7',h7⟩:=Vj (c:=c) h6 (N:=N);have w4:=AM T a W2.1 (fP strF k nm a.len) 0 RB.2;have y4:=BU T a W2.1 (fP strF k nm a.len) 0 RB.2 hTa;have z4:=Fu T a W2.1 (fP strF k nm a.len) 0 RB.2;obtain⟨t8,s8,b8,v5,n8,L8,La,Lt,g5,g15,q1,q1',qG,q3,q4⟩:=Te (c:=c) hTa (by omega) ha h7 b7' (by omega) (N:=N) (by omega);obtain⟨RA,hRA⟩:∃ W,cg T a W2.1 (fP strF k nm a.len) 0 RB.2=W:=⟨_,rfl⟩;rw[hRA]at w4 y4 z4 q3;obtain⟨fa,hfa⟩:=tK a;rw[hfa]at q3;simp only[cg,BI]at q3;have h8:=L8.fr h7;have hA1:RA.1=aX La:=by rw[q3]
  have hA2:RA.2.1=aX Lt:=by rw[q3]
  have hA3:RA.2.2=n8:=by rw[q3]
  have ga:ew s8 s6.next 7 v5 RA.1.len RA.1.flat:=⟨g5,by rw[hA1,kh,q1];exact qG.z5,by rw[hA1,kh,q1];exact qG.o5⟩;have gt:ew s8 s6.next 8 (ab t8 15) RA.2.1.len RA.2.1.flat:=⟨g15,by rw[hA2,kh];exact qG.z15,by rw[hA2,kh];exact qG.o15⟩;rw[<-hA3]at h8;have w5:=BV T l W2.1 RA.2.2;have y5:=Ha T l W2.1 RA.2.2 hTl;obtain⟨t9,s9,v6,b9,h9,g9,k9,⟨Ll,hLl⟩,b9'⟩:=ab6 (c:=c) hTl (by omega) hl h8 rfl (by omega) (N:=N) (by omega);obtain⟨RL,hRL⟩:∃ W,dP T l W2.1 RA.2.2=W:=⟨_,rfl⟩;rw[hRL]at w5 y5 h9 g9 hLl;have lo5:=h5.lo;have lo6:=h6.lo;have lo8:=h8.lo;have m:=h5.ml;have kk:=L8.K;have g4':=(g6.pd kk ⟨by omega,by omega,by omega⟩).pd k9 ⟨by omega,by omega,by omega⟩;rw[z3.symm]at g4';have ga':=ga.pd k9 ⟨by omega,by omega,by omega⟩;have gt':=gt.pd k9 ⟨by omega,by omega,by omega⟩;have zl:=GR T l W2.1 RA.2.2;rw[hRL]at zl;rw[zl.symm]at g9;have tO:(Ex.mk k nm num (cG W1.2.1) RB.1 RA.1 RL.1).Ty:=by simp only[Ex.Ty];exact⟨hkb,HU (by rw[<-hW1,AO];exact Gl hps),y3,y4.1,y5⟩
  obtain⟨tE,sE,cs,c1,c2,c3,c4,c5,c6,c7⟩:=abJ (c:=c) h9 b9' g4' ga' g9 gt' hLb hA1 hLl hA2 y3 y4.1 y5 y4.2 tO (by omega) (by omega) (by omega) (by rw[hA2,kh,ae.aC]at *;omega) (N:=N);have e:bB T (.mk k nm num ps b a l) S n=(kN RA.2.1 (.mk k nm num (cG W1.2.1) RB.1 RA.1 RL.1),RL.2):=by rw[bB,if_neg hk];simp only[hW1,hW2,hRB,hRA,hRL]
  rw[e];refine⟨tE,sE,rR,cs,?_,c2,c3,c4,c5,c6,c7⟩;rw[show ao (aj (aj (aj fg))) ⟨prog,Tw c N,false,f20.ntmps,N⟩ t1 s0=bT (ao (aq (dc 3)) ⟨prog,Tw c N,false,f20.ntmps,N⟩ t1 s0) (ao (dc 4) ⟨prog,Tw c N,false,f20.ntmps,N⟩) from rfl,b2,dK];rw[show ao (dc 4) ⟨prog,Tw c N,false,f20.ntmps,N⟩ t2 s2=bT (ao (aq (dc 4)) ⟨prog,Tw c N,false,f20.ntmps,N⟩ t2 s2) (ao (dc 5) ⟨prog,Tw c N,false,f20.ntmps,N⟩) from rfl,b3,dK];rw[show ao (dc 5) ⟨prog,Tw c N,false,f20.ntmps,N⟩ t3 s2=bT (ao (aq (dc 5)) ⟨prog,Tw c N,false,f20.ntmps,N⟩ t3 s2) (ao (dc 6) ⟨prog,Tw c N,false,f20.ntmps,N⟩) from rfl,b4,dK];rw[show ao (dc 6) ⟨prog,Tw c N,false,f20.ntmps,N⟩ t4 s4=bT (ao (aq (dc 6)) ⟨prog,Tw c N,false,f20.ntmps,N⟩ t4 s4) (ao (dc 7) ⟨prog,Tw c N,false,f20.ntmps,N⟩) from rfl,b5,dK];rw[show ao (dc 7) ⟨prog,Tw c N,false,f20.ntmps,N⟩ t5 s5=bT (ao (aq (dc 7)) ⟨prog,Tw c N,false,f20.ntmps,N⟩ t5 s5) (ao (dc 8) ⟨prog,Tw c N,false,f20.ntmps,N⟩) from rfl,b6,dK];rw[show ao (dc 8) ⟨prog,Tw c N,false,f20.ntmps,N⟩ t6 s6=bT (ao (aq (dc 8)) ⟨prog,Tw c N,false,f20.ntmps,N⟩ t6 s6) (ao (dc 9) ⟨prog,Tw c N,false,f20.ntmps,N⟩) from rfl,b7,dK];rw[show ao (dc 9) ⟨prog,Tw c N,false,f20.ntmps,N⟩ t7 s6=bT (ao (aq (dc 9)) ⟨prog,Tw c N,false,f20.ntmps,N⟩ t7 s6) (ao (dc 10) ⟨prog,Tw c N,false,f20.ntmps,N⟩) from rfl,b8,dK];rw[show ao (dc 10) ⟨prog,Tw c N,false,f20.ntmps,N⟩ t8 s8=bT (ao (aq (dc 10)) ⟨prog,Tw c N,false,f20.ntmps,N⟩ t8 s8) (ao (dc 11) ⟨prog,Tw c N,false,f20.ntmps,N⟩) from rfl,b9,dK];exact c1
theorem zk{k:Bool}(h:P.underlying ty=some (.slice e)):Go.Ev.binOp P ty k .eql .sn .sn=some (.b true):=by
 show mb P ty k .eql .sn .sn=_
 grind[mb,mG,ik,mQ,AV.yY,orElse]
theorem vn{k:Bool}(h:P.underlying ty=some (.slice e)):Go.Ev.binOp P ty k .eql (.rs cs n z) .sn=some (.b false):=by
 show mb P ty k .eql (.rs cs n z) .sn=_
 grind[mb,mG,ik,mQ,AV.yY,orElse]
def BL(s:St)(lo z:Nat)(cv v:AV):Prop:=(cv=.sn/\v=.sn)\/∃ cs n g,cv=.rs cs n z/\v≠.sn/\aW s lo z v n cs g/\aQ cs=true
theorem BL.cells{s:St}{lo z:Nat}{cv v:AV}(h:BL s lo z cv v):v.cells=some [v]/\bS v=true:=by
 rcases h with ⟨-,rfl⟩|⟨cs,n,g,h1,h2,h3,h4⟩
 ·simp
 ·exact⟨h3.cells,h3.sc⟩
theorem Xc(h:aW s lo z v n cs g)(hv:v≠.sn)(hp:aQ cs=true):gF [] s v (.rs cs n z):=by
 rcases h with ⟨rfl,-⟩|⟨r,rfl,rfl,rfl,-⟩|⟨r,f,al,-,rfl,k1,k2,k3,k4,k5,k6,k7⟩
 ·grind
 ·exact .tP
 ·exact .slice k1 k2.symm k6 k7 (by simp) (by simp) (.pure hp) (by omega)
theorem ew.jP(h:ew s lo z v l.len l.flat)(hl:l=aX L)(hT:l.Ty m):gF [] s v (l.slice z):=by
 subst hl;obtain⟨g,h0,h⟩:=h;rw[kh]at h h0;rcases J8 L.length with e|e
 ·rw[h0 e];have:L=[]:=J6 e;subst this;exact .pure rfl
 ·have hv:v≠.sn:=by
   rintro rfl;rcases h with ⟨-,h,-⟩|⟨r,h,-⟩|⟨r,f,al,-,h,-⟩
   ·omega
   ·cases h
   ·cases h
  grind[Xc,ae.oF,ae.cZ,kh]
def UD(o:Option (AV× St))(st:St)(cv:AV):Prop:=∃ v s',o=some (v,s')/\BL s' st.next 4 cv v/\Kp [] [] st s'
theorem vj{S:Self}{ty e:Nat}(T:gO P ty e z):bH (.buildSlice ty 0 #[]) P S t st=some (.sl st.next 0 0 z (some 0),st.aw []):=by
 obtain⟨zs,hz,hzl⟩:=T.zero;show(match ez P ty with
 |none=>none
 |some e=>match bm P e with
  |none=>none
  |some z=>(@Bool.rec (fun _=>aR) none (uq st 0 (aD P e) (fill (jB (aD P e)) (rep 0 z) (gQ t []))) (Nat.ble (0*aD P e) 16777216)))=_
 rw[T.el];simp only[hz,T.sl.sz,Nat.zero_mul];rfl
theorem XS{ty e:Nat}(T:gO P ty e z):gS P st [ty,ty] [.sl r 0 0 z (some 0),.rs [] 0 z]=some (.sl r 0 0 z (some 0),st):=by
 have e0:(pJ P [ty,ty]&&bp P e&&bq [])=true:=by rw[T.plain,T.sl.inf];rfl
 have eb:gS P st [ty,ty] [.sl r 0 0 z (some 0),.rs [] 0 z]=append P st [ty,ty] (.sl r 0 0 z (some 0)) (.rs [] 0 z):=by rfl
 rw[eb];have h1:lenOf (.rs [] 0 z)=some 0:=rfl;have h2:firstCells st z 0 (.rs [] 0 z)=some []:=by
  show cut [] 0 (0*z)=_
  simp_all
 unfold append;simp only[T.el,h1,T.sl.sz,h2,e0];simp_all
theorem Nv{ds:List cK}(hv:iq cv ds)(hl:ds.length<=1000000)(hN:1<=N):UD ((Tw c N).call 19 [cv] st) st cv:=by
 obtain⟨N,rfl⟩:∃ N',N=N'+1:=⟨N-1,by omega⟩;rw[dt rfl func19 rfl (J9 rfl)];unfold aV;obtain⟨hv,hz⟩:=hv;rcases hv with ⟨rfl,-⟩|rfl
 ·refine⟨.sn,st,?_,.inl ⟨rfl,rfl⟩,.refl _ _ _⟩;simp_all[zk,aG,aF]
 ·have hlen:(ds.map cK.cells).flatten.length=ds.length*4:=by
   clear hz hl;induction ds with
   |nil=>rfl
   |cons d ds ih=>simp_all[cK.cells,Nat.add_mul]
  have hsc:bq (ds.map cK.cells).flatten=true:=by
   induction ds with
   |nil=>rfl
   |cons d ds ih=>grind[gX,AN]
  have hO:aW (st.aw []) st.next 4 (.sl st.next 0 0 4 (some 0)) 0 [] none:=.inr (.inl ⟨_,rfl,rfl,rfl,rfl⟩);cases hds:ds with
  |nil =>
   refine⟨_,_,?_,.inr ⟨[],0,none,by simp,?_,hO,rfl⟩,.aw _ _ _⟩
   ·simp[f19,vn underlying22,vj Cz,XS Cz,aG,aF]
   grind
  |cons d0 ds0 =>
   rw[<-hds];have hc:firstCells (st.aw []) 4 ds.length (.rs (ds.map cK.cells).flatten ds.length 4)=some (ds.map cK.cells).flatten:=by
    show cut _ 0 (ds.length*4)=_
    rw[cQ,<-hlen,dD]
   obtain⟨v',g',s',w1,w2,w3,w4⟩:=hO.app Cz rfl hc rfl hsc hlen (by omega) (Nat.le_succ _);refine⟨v',s',?_,.inr ⟨_,_,g',by grind,?_,w2,pure_cons ds⟩,(Kp.aw _ _ _).trans w3⟩
   ·simp[f19,vn underlying22,vj Cz,w1,aG,aF]
   ·rintro rfl;rcases w2 with ⟨-,e,-⟩|⟨r,e,-⟩|⟨r,f,al,-,e,-⟩
    ·rw[hds]at e;cases e
    ·cases e
    ·cases e
def qm(s:St)(lo hi z:Nat)(cv v:AV):Prop:=(cv=.sn/\v=.sn)\/(∃ r,v=.sl r 0 0 z (some 0)/\cv=.rs [] 0 z)\/∃ r f al cs n,v=.sl r 0 n z none/\cv=.rs cs n z/\s.ce r=some (cs,f,al)/\cs.length=n*z/\1<=n/\lo<=r/\lo<=f/\r<hi/\f<hi/\hi<=s.next/\aQ cs=true
theorem BL.w(h:BL s lo z cv v):qm s lo s.next z cv v:=by
 rcases h with h|⟨cs,n,g,rfl,h2,h3,h4⟩
 ·exact .inl h
 ·rcases h3 with ⟨rfl,-⟩|⟨r,rfl,rfl,rfl,-⟩|⟨r,f,al,-,rfl,k1,k2,k3,k4,k5,k6,k7⟩
  ·exact absurd rfl h2
  ·exact .inr (.inl ⟨r,rfl,rfl⟩)
  ·exact .inr (.inr ⟨r,f,al,cs,n,rfl,rfl,k1,k2,k3,k4,k5,k6,k7,Q6 _,h4⟩)
theorem qm.keep{B:List Nat}(h:qm s lo hi z cv v)(k:Kp A B s s')(hA:∀ x,x∈A->x<lo\/hi<=x)(hB:∀ x,x∈B->x<lo\/hi<=x):qm s' lo hi z cv v:=by
 rcases h with h|h|⟨r,f,al,cs,n,h1,h2,h3,h4,h5,h6,h7,h8,h9,h10,h11⟩
 ·exact .inl h
 ·exact .inr (.inl h)
 ·exact .inr (.inr ⟨r,f,al,cs,n,h1,h2,k.ce h3 (by omega) (by omega) (fun hh=>by have:=hA _ hh;omega) (fun hh=>by have:=hB _ hh;omega),h4,h5,h6,h7,h8,h9,Q4 h10 k.next,h11⟩)
theorem qm.cells{s:St}{lo hi z:Nat}{cv v:AV}(h:qm s lo hi z cv v):v.cells=some [v]/\bS v=true:=by rcases h with ⟨-,rfl⟩|⟨r,rfl,-⟩|⟨r,f,al,cs,n,rfl,-⟩<;>simp
theorem qm.fz(h:qm s lo hi z cv v)(hn:n0<=lo):Fz n0 s v cv:=by
 rcases h with ⟨rfl,rfl⟩|⟨r,rfl,rfl⟩|⟨r,f,al,cs,n,rfl,rfl,h3,h4,h5,h6,h7,h8,h9,h10,h11⟩
 ·exact .pure rfl
 ·exact .tP
 ·exact .slice h3 h4.symm (by omega) (.pure h11) (by omega)
theorem qm.jP(h:qm s lo hi z cv v):gF [] s v cv:=by
 rcases h with ⟨rfl,rfl⟩|⟨r,rfl,rfl⟩|⟨r,f,al,cs,n,rfl,rfl,h3,h4,h5,h6,h7,h8,h9,h10,h11⟩
 ·exact .pure rfl
 ·exact .tP
 ·exact .slice h3 h4.symm (by omega) (by omega) (by simp) (by simp) (.pure h11) (by omega)
def oz(c:Option Self)(cv:AV)(l:ae)(e:Int):Prop:=∀ (st:St) (x:AV) (N:Nat),1<=N->gF [] st x (.ag [cv,l.slice 8])->(Tw c N).call 9 [x] st=some (.i .i64 e,st)
theorem PC:fu prog 25=true:=by kernel_rfl
theorem yf:bm prog 25=some [.sn,.sn]:=by kernel_rfl
theorem NZ:∃ fs,prog.underlying 25=some (.struct fs)/\gM prog fs 0=some (0,1)/\gM prog fs 1=some (1,1):=⟨_,underlying25,by kernel_rfl,by kernel_rfl⟩
theorem LQ{S:Self}{x:Operand}(hx:ai t x=v)(hv:v.cells=some [v]):bH (.build 25 #[(0,x)]) prog S t st=some (.ag [v,.sn],st):=by
 obtain⟨fs,h1,h2,h3⟩:=NZ;show @Bool.rec (fun _=>aR) none (df prog 25 [(0,ai t x)] st) (fu prog 25)=_
 rw[PC,hx];show df prog 25 _ st=_
 unfold df;rw[h1];simp only[yf,jg,fill,h2,hv];rfl
theorem JE{S:Self}:bH (.build 25 #[]) prog S t st=some (.ag [.sn,.sn],st):=by
 obtain⟨fs,h1,h2,h3⟩:=NZ;show @Bool.rec (fun _=>aR) none (df prog 25 [] st) (fu prog 25)=_
 rw[PC];show df prog 25 _ st=_
 unfold df;rw[h1];simp only[yf,jg,fill];rfl
theorem Yq:fu prog 51=true:=by kernel_rfl
theorem Wb:bm prog 51=some [.mn,.i .i64 0]:=by kernel_rfl
theorem abv:∃ fs,prog.underlying 51=some (.struct fs)/\gM prog fs 0=some (0,1):=⟨_,underlying51,by kernel_rfl⟩
theorem aaB{S:Self}{x:Operand}(hx:ai t x=.m r):bH (.build 51 #[(0,x)]) prog S t st=some (.ag [.m r,.i .i64 0],st):=by
 obtain⟨fs,h1,h2⟩:=abv;show @Bool.rec (fun _=>aR) none (df prog 51 [(0,ai t x)] st) (fu prog 51)=_
 rw[Yq,hx];show df prog 51 _ st=_
 unfold df;rw[h1];simp only[Wb,jg,fill,h2,QF];rfl
noncomputable def dQ:Nat->Code
 |0=>f6.body.getD .skip
 |k+1=>aj (dQ k)
structure F6(st s:St)(t:Tr AV)(r1 r2:Nat)(cv bv:AV):Prop where
 t1:ab t 1=.p r1 0
 t2:ab t 2=.p r2 0
 c1:∃ al,s.ce r1=some ([cv,bv],r1,al)
 c2:∃ al,s.ce r2=some ([.sn,.sn],r2,al)
 lo:st.next<=r1/\r1<r2/\r2<s.next
 K:Kp [] [] st s
theorem F6.keep{r1 r2:Nat}{bv:AV}{B:List Nat}(h:F6 st s t r1 r2 cv bv)(k:Kp A B s s')(hA:∀ x,x∈A->r2<x)(hB:∀ x,x∈B->r2<x)(h1:ab t' 1=.p r1 0)(h2:ab t' 2=.p r2 0):F6 st s' t' r1 r2 cv bv:=by obtain⟨l1,l2,l3⟩:=h.lo;obtain⟨a1,c1⟩:=h.c1;obtain⟨a2,c2⟩:=h.c2;have:=k.next;exact⟨h1,h2,⟨a1,k.ce c1 (by omega) (by omega) (fun hh=>by have:=hA _ hh;omega) (fun hh=>by have:=hB _ hh;omega)⟩,⟨a2,k.ce c2 (by omega) (by omega) (fun hh=>by have:=hA _ hh;omega) (fun hh=>by have:=hB _ hh;omega)⟩,⟨l1,l2,by omega⟩,dz h.K k (fun x hx=>by have:=hA _ hx;omega) (fun x hx=>by have:=hB _ hx;omega)⟩
theorem Su{e:Int}(hcs:cv.cells=some [cv]/\bS cv=true/\bg cv=true)(hb:b.Ty 1)(hC:oz c cv b e)(hN:1<=N):
  (e≠0->∃ t s r2,ao (dQ 0) ⟨prog,Tw c N,false,f6.ntmps,N⟩ (tmpsOf [.ag [cv,b.slice 8]] 0 .lf) st=.rt t s/\ab t 2=.p r2 0/\(∃ al,s.ce r2=some ([.sn,.sn],r2,al))/\ab t 3=.i .i64 e/\Kp [] [] st s)/\
  (e=0->∃ t s r1 r2,ao (dQ 0) ⟨prog,Tw c N,false,f6.ntmps,N⟩ (tmpsOf [.ag [cv,b.slice 8]] 0 .lf) st=ao (dQ 2) ⟨prog,Tw c N,false,f6.ntmps,N⟩ t s/\F6 st s t r1 r2 cv (b.slice 8)):=by
 have c1:=cz (st:=st) [cv,b.slice 8];have k1:=Kp.aw (st:=st) [] [] [cv,b.slice 8];obtain⟨s1,hs1⟩:∃ s,st.aw [cv,b.slice 8]=s:=⟨_,rfl⟩;have n1:s1.next=st.next+1:=by rw[<-hs1];rfl
 rw[hs1]at c1 k1;have c2:=cz (st:=s1) [.sn,.sn];have k2:=Kp.aw (st:=s1) [] [] [.sn,.sn];obtain⟨s2,hs2⟩:∃ s,s1.aw [.sn,.sn]=s:=⟨_,rfl⟩;have n2:s2.next=s1.next+1:=by rw[<-hs2];rfl
 rw[hs2]at c2 k2;have c1':=k2.ce c1 (by omega) (by omega) (by simp) (by simp);have ra:rd s2 st.next 0 2=some [cv,b.slice 8]:=by rw[au c1'];rfl
 have ck:=hC s2 (.ag [cv,b.slice 8]) N hN (.pure (by simp[bg,aQ,hcs.2.2,ae.mg hb 8]));have a0:∃ t,ao (aq (dQ 0)) ⟨prog,Tw c N,false,f6.ntmps,N⟩ (tmpsOf [.ag [cv,b.slice 8]] 0 .lf) st=.nx t s2/\ab t 1=.p st.next 0/\ab t 2=.p s1.next 0:=by simp[dQ,aq,f6,aJ,yf,hs1,hs2]
 obtain⟨t1,a0,b1,b2⟩:=a0;rw[show ao (dQ 0) ⟨prog,Tw c N,false,f6.ntmps,N⟩ (tmpsOf [.ag [cv,b.slice 8]] 0 .lf) st=bT (ao (aq (dQ 0)) ⟨prog,Tw c N,false,f6.ntmps,N⟩ (tmpsOf [.ag [cv,b.slice 8]] 0 .lf) st) (fun t s=>bT (ao (aq (dQ 1)) ⟨prog,Tw c N,false,f6.ntmps,N⟩ t s) (ao (dQ 2) ⟨prog,Tw c N,false,f6.ntmps,N⟩)) from rfl,a0,dK];constructor
 ·intro he;have hw:=bP c2 0 [.sn,.sn] (by simp) (by simp);simp at hw;have k3:Kp [s1.next] [s1.next] s2 (s2.ax s1.next [.sn,.sn] s1.next):=.ax (by simp) (by simp);have a1:∃ t,ao (aq (dQ 1)) ⟨prog,Tw c N,false,f6.ntmps,N⟩ t1 s2=.rt t (s2.ax s1.next [.sn,.sn] s1.next)/\ab t 2=.p s1.next 0/\ab t 3=.i .i64 e:=by
   simp[dQ,aq,aj,f6,b1,b2,eP,ra,ck,he,JE,aI lI eP,hw]
  obtain⟨t2,a1,d2,d3⟩:=a1;rw[a1,SX];exact⟨t2,_,s1.next,rfl,d2,⟨_,cj _ _ _⟩,d3,dz (k1.trans k2) k3 (by simp;omega) (by simp;omega)⟩
 ·intro he;subst he;have a1:∃ t,ao (aq (dQ 1)) ⟨prog,Tw c N,false,f6.ntmps,N⟩ t1 s2=.nx t s2/\ab t 1=.p st.next 0/\ab t 2=.p s1.next 0:=by
   simp[dQ,aq,aj,f6,b1,b2,eP,ra,ck]
  obtain⟨t2,a1,d1,d2⟩:=a1;rw[a1,dK];exact⟨t2,s2,st.next,s1.next,rfl,d1,d2,⟨_,c1'⟩,⟨_,c2⟩,⟨Q6 _,by omega,by omega⟩,k1.trans k2⟩
