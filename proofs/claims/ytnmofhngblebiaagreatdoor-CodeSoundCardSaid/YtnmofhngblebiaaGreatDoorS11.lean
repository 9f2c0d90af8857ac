/- A part of the proof. -/
import Derived.Test.YtnmofhngblebiaaGreatDoorS10
import Derived.Lib.ItoaLen
set_option maxRecDepth 100000
open Option renaming some->So,none->No
open Bool renaming true->Tt,false->Ff
open Nat renaming lt_of_lt_of_le->Q0,le_refl->Q1,le_of_ble_eq_true->Q2,lt_succ_self->Q3,le_trans->Q8,add_assoc->Q9,zero_add->J9
open List renaming getElem_mem->Q4,mem_cons->Q5,length_map->Q6,drop_eq_getElem_cons->Q7,not_mem_nil->J3,nodup_append->J4,mem_singleton->J5,mem_append->J6,map_append->J8,take_append_getElem->Z0,all_cons->Z3,all_nil->Z4,drop_append->Z6,drop_eq_nil_of_le->Z7,nodup_nil->Z8,nodup_iff_count->Z9,count_pos_iff->K8,count_eq_zero->V0,append_nil->V1,append_assoc->V2,length_append->V3
open Iff renaming rfl->J1
open Bool renaming and_true->Z5
open Go.Proofs.Tryz
open Go.Proofs.Tryz renaming prog->π
noncomputable section
open Go.Ev
namespace Go.Proofs.YtnmofhngblebiaaGreatDoor
variable {A al:List Nat}{L:List (List AV×Ex)}{N cr g i m mr n n' q r rE rO rR tr:Nat}{P:Program}{T l:List ae}{a b:aa}{c:Option Self}{cl oc oc':List AV}{cv ps sv sv' v:AV}{ds:List bG}{e ty:TypeId}{f:List AV×Ex->List ae}{k num:Int}{nm:ae}{s s' st st':St}{sc:List (List ae)}{t t':Tr AV}{x:Ex}{y z:Operand}
section
set_option maxHeartbeats 8000000
variable {P:ae->Prop}
def fL(P:ae->Prop)(st:St)(r n:Nat):Prop:=r<st.next/\∃es k,st.get r=So (.mp es k)/\(strKeys es/\(∀s,s∈eE es↔P s)/\(eE es).Nodup)/\(∀e∈es,e.2.2<k)/\(es.map (·.2.2)).Nodup/\es.length<=n
theorem Pb:∀{es:List eO}{s:ae},Go.Ev.look es s=No->s∉eE es
 |[],s,_,h=>J3 h
 |(k,v,c)::es,s,h,hm=>by
  have h:(if fo k=s then So v else Go.Ev.look es s)=none:=h;split at h
  ·grind
  ·rcases Q5.1 hm with e|hm
   ·grind
   ·exact Pb h hm
theorem Pe:∀{es:List eO}{s:ae}{w:AV},Go.Ev.look es s=So w->s∈eE es
 |[],s,w,h=>by cases h
 |(k,v,c)::es,s,w,h=>by
  have h:(if fo k=s then So v else Go.Ev.look es s)=So w:=h;split at h
  ·rename_i hk;rw[<-hk];exact List.mem_cons_self ..
  ·exact List.mem_cons_of_mem _ (Pe h)
theorem JN:∀(es:List eO) (i:Nat) (v:AV),eE (mo es i v)=eE es
 |[],_,_=>rfl
 |(_,_,_)::_,0,_=>rfl
 |e::es,i+1,v=>by
  show eE (e::mo es i v)=eE (e::es)
  simp only[eE,List.map_cons];congr 1;exact JN es i v
theorem Fp:∀(es:List eO) (i:Nat) (v:AV),(mo es i v).map (·.2.2)=es.map (·.2.2)
 |[],_,_=>rfl
 |(_,_,_)::_,0,_=>rfl
 |e::es,i+1,v=>by simp[mo,Fp es i v]
theorem fL.keep{B:List Nat}(h:fL P st r n)(k:Kp A B st st')(hr:r∉A):fL P st' r n:=by have⟨h0,es,q,h1,h2⟩:=h;exact⟨Q0 h0 k.next,es,q,by rw[k.get _ h0 hr];grind,h2⟩
theorem fL.congr{Q:ae->Prop}(h:fL P st r n)(hq:∀s,P s↔Q s):fL Q st r n:=by have⟨h0,es,k,h1,⟨h2,h3,h4⟩,h5⟩:=h;exact⟨h0,es,k,h1,⟨h2,λs=>(h3 s).trans (hq s),h4⟩,h5⟩
theorem fL.le(h:fL P st r n)(hm:n<=m):fL P st r m:=by have⟨h0,es,k,h1,h2,h3,h4,h5⟩:=h;exact⟨h0,es,k,h1,h2,h3,h4,by omega⟩
theorem fL.set(h:fL P st r n)(s:ae)(v:AV):∃st',mapUpdate π 58 st (.m r) (.s s) v=So st'/\fL (λx=>P x\/x=s) st' r (n+1)/\Kp [r] [] st st':=by
 have⟨h0,es,k,h1,h2,h3,h4,h5⟩:=h;unfold mapUpdate;simp only[mb.fits s,h1];have⟨h2,hP,hD⟩:=h2;rcases Ao (n:=0) h2 s with ⟨h6,h7⟩|⟨i,w,h6,h7,h8⟩
 ·rw[h6];have hk:eE (es++[(.s s,v,k)])=eE es++[s]:=by simp[eE,fo]
  refine⟨_,rfl,⟨h0,_,_,yO _ _,⟨JX h2,λx=>?_,?_⟩,λe he=>?_,?_,by grind⟩,.put (by simp)⟩
  ·grind
  ·rw[hk,J4];refine⟨hD,by simp,λa ha b hb=>?_⟩;rw[J5.1 hb];rintro rfl;exact Pb h7 ha
  ·rcases J6.1 he with he|he
   ·have:=h3 e he;omega
   ·rw[J5.1 he];exact Q3 _
  ·rw[J8,J4];refine⟨h4,by simp,λa ha b hb=>?_⟩;obtain⟨e,he,rfl⟩:=List.mem_map.1 ha;have:=h3 e he;have:b=k:=by simpa using hb
   omega
 ·rw[h6,J9];refine⟨_,rfl,⟨h0,_,_,yO _ _,⟨(h8 v).1,λx=>by
   rw[JN,hP x];exact⟨.inl,λh=>h.elim id λe=>by rw[e];exact(hP s).1 (Pe h7)⟩,by rw[JN];grind⟩,λe he=>?_,by rw[Fp];grind,?_⟩,.put (by simp)⟩
  ·have:e.2.2∈es.map (·.2.2):=by rw[<-Fp es i v];grind
   grind
  ·have:=congrArg List.length (Fp es i v);grind
def lY(k:Int)(nm:ae)(sc:List (List ae)):List ae:=if k=1/\hasB sc nm=Ff then[nm] else[]
theorem XA(h:hasB sc nm=Tt):lY 1 nm sc=[]:=by simp[lY,h]
theorem XC(h:hasB sc nm=Ff):lY 1 nm sc=[nm]:=by simp[lY,h]
theorem XB(h:¬k=1):lY k nm sc=[]:=by simp[lY,h]
mutual
def jP:Ex->List (List ae)->List ae
 |.mk k nm _ ps b a l,sc=>lY k nm (aL ps::b.names::sc)++(lG a (aL ps::b.names::sc)++(lG b (aL ps::b.names::sc)++vg l (aL ps::b.names::sc)))
def lG:aa->List (List ae)->List ae
 |.nil _,_=>[]
 |.cons _ x l,sc=>jP x sc++lG l sc
def vg:aa->List (List ae)->List ae
 |.nil _,_=>[]
 |.cons p x l,sc=>jP x ((aM (p,x)).vs::sc)++vg l sc
end
theorem wE(sc:List (List ae)):∀l:aa,lG l sc=l.list.flatMap λp=>jP p.2 sc
 |.nil _=>rfl
 |.cons q x l=>by simp[lG,aa.list,wE sc l]
theorem DE(sc:List (List ae)):∀l:aa,vg l sc=l.list.flatMap λp=>jP p.2 ((aM p).vs::sc)
 |.nil _=>rfl
 |.cons q x l=>by simp[vg,aa.list,DE sc l]
def vh(f:List AV×Ex->List ae)(L:List (List AV×Ex))(i:Nat):List ae:=(L.take i).flatMap f
theorem HW(h:i<L.length):vh f L (i+1)=vh f L i++f L[i]:=by unfold vh;rw[<-Z0 h,List.flatMap_append];simp
theorem HV:vh f L L.length=L.flatMap f:=by simp[vh]
def orM(P:ae->Prop)(A:List ae):ae->Prop:=λs=>P s\/s∈A
theorem fL.IX{A B:List ae}(h:fL (orM (orM P A) B) st r n):fL (orM P (A++B)) st r n:=h.congr λs=>by simp[orM,or_assoc]
theorem fL.Bh(h:fL P st r n):fL (orM P []) st r n:=h.congr λs=>by simp[orM]
def TF(c:Option Self)(x:Ex):Prop:=x.Ty->x.size<=1000000->∀(P:ae->Prop) (st:St) (m q:Nat) (sc:List (List ae)) (fr:AV) (r:List AV) (N:Nat),fL P st m q->iT st m fr sc->aA r=Tt->
 4*x.size+sc.length+10000000000000000030<=N->∃st',(Tw c N).call 199 [.rp (x.cells++r),fr,.m m] st=So (.tu [],st')/\fL (orM P (jP x sc)) st' m (q+x.size)/\Kp [m] [] st st'
def Ga(P:ae->Prop)(st s:St)(t:Tr AV)(m q:Nat)(e fi:AV):Prop:=ab t 0=e/\ab t 2=.m m/\ab t 6=fi/\fL P s m q/\Kp [m] [] st s
theorem iT.oN{fr:AV}(h:iT st cr fr sc)(k:Kp [cr] [] st st'):iT st' cr fr sc:=by have⟨h1,w,h2,h3⟩:=h;exact⟨h1,w,h2.keep k (by simp) (by simp),h3⟩
noncomputable def qY:Code:=f199.body.getD .skip
theorem XU{fr:AV}(k:Int)(nm:ae)(num:Int)(ps:AV)(b a l:aa)(r:List AV)(hTb:b.Ty 1)(hps:nh ps)(hbl:b.len<=1000000)(hm:fL P st m q)(hf:iT st m fr sc)(hN:10000000000000000000<=N):
  ∃t s,ao (au qY) ⟨π,Tw c N,Ff,f199.ntmps,N⟩ (tmpsOf [.rp (.i .i64 k::.s nm::.i .i64 num::ps::b.slice 8::a.slice 7::l.slice 11::r),fr,.m m] 0 .lf) st=.nx t s/\
   ab t 0=.rp (.i .i64 k::.s nm::.i .i64 num::ps::b.slice 8::a.slice 7::l.slice 11::r)/\ab t 2=.m m/\iT s m (ab t 6) (aL ps::b.names::sc)/\fL P s m q/\Kp [m] [] st s:=by
 have⟨hp,hpl⟩:=hps.sl;have⟨wb,hw1,hw2⟩:=GJ (c:=c) (st:=st) hTb hbl (N:=N) hN;have bo1:=λ(t:Tr AV) (q1:ah t (.tmp 18)=wb) (q2:ah t (.tmp 19)=fr)=>wz (st:=st) (S:=Tw c N) (t:=t) q1 q2 (wK hw2) hf.1.1
 have f1:=hf.new hw2 (by rw[aa.names,Q6,<-aa.aF];omega) hm.1;have kn1:=Kp.aj (st:=st) [] [] [wb,fr];have bo2:=λ(t:Tr AV) (q1:ah t (.tmp 13)=ps) (q2:ah t (.tmp 21)=.p st.next 0)=>wz (st:=st.aj [wb,fr]) (S:=Tw c N) (t:=t) q1 q2 (wK hp) (by simp)
 have f2:=f1.new hp hpl (Q0 hm.1 kn1.next);have kn2:=Kp.aj (st:=st.aj [wb,fr]) [] [] [ps,.p st.next 0];have hm2:=(hm.keep kn1 (by simp)).keep kn2 (by simp);have e2:(st.aj [wb,fr]).next=st.next+1:=rfl;rw[e2]at f2;simp only[qY,au,f199];simp[aY];rw[ft (fl:=[(3,9)])]
 rotate_left
 ·kernel_rfl
 ·intro R hR;simp[hw1,bo1,bo2]at hR;subst hR;simp only[Z3,Z4,Z5]
  first|rfl|exact cZ rfl rfl rfl (s:=st) (by simp)
 simp[hw1,bo1,bo2,e2];exact⟨_,_,⟨rfl,rfl⟩,by simp,by simp,by simpa using f2,hm2,(Kp.aj [m] [] _).trans (Kp.aj [m] [] _)⟩
theorem XT(k:Int)(nm:ae)(num:Int)(ps:AV)(b a l:aa)(r:List AV)(h0:ab t 0=.rp (.i .i64 k::.s nm::.i .i64 num::ps::b.slice 8::a.slice 7::l.slice 11::r))(h2:ab t 2=.m m)(hm:fL P st m q)(hf:iT st m (ab t 6) sc)(hN:sc.length+10000000000000000002<=N):
  ∃t' s,ao (au (aw qY)) ⟨π,Tw c N,Ff,f199.ntmps,N⟩ t st=.nx t' s/\
   ab t' 0=ab t 0/\ab t' 2=.m m/\ab t' 6=ab t 6/\fL (orM P (lY k nm sc)) s m (q+1)/\Kp [m] [] st s:=by
 obtain⟨-,fw,f2,f3⟩:=id hf;have hh:=N8 (c:=c) nm f2 f3 hN;by_cases hk:k=1
 ·subst hk;cases hb:hasB sc nm with
  |true=>rw[hb]at hh;simp[qY,au,aw,f199,h0,hh];exact⟨_,_,⟨rfl,rfl⟩,by simp_all,by simp_all,by simp,(by rw[XA hb];exact(hm.le (by omega)).Bh),.refl _ _ _⟩
  |false=>rw[hb]at hh;have⟨s',u1,u2,u3⟩:=hm.set nm (.b Tt);simp[qY,au,aw,f199,h0,h2,hh,u1];exact⟨_,_,⟨rfl,rfl⟩,by simp_all,by simp_all,by simp,(by rw[XC hb];exact u2.congr λs=>by simp[orM]),u3⟩
 ·simp[qY,au,aw,f199,h0,hk];exact⟨_,_,⟨rfl,rfl⟩,by simp_all,by simp_all,by simp,(by rw[XB hk];exact(hm.le (by omega)).Bh),.refl _ _ _⟩
def Gb(P:ae->Prop)(st s:St)(t:Tr AV)(m q:Nat)(e fi:AV)(i n kl ki:Nat):Prop :=
 ab t 0=e/\ab t 2=.m m/\ab t 6=fi/\ab t kl=.i .i64 (n:Int)/\ab t ki=.i .i64 (i:Int)/\fL P s m q/\Kp [m] [] st s
theorem XS:∀x,TF c x:=by
 refine Ex.ind λk nm num ps b a l hb ha hl=>?_
 intro hT hs P st m q sc fr r N hm hf hr hN;cases N
 ·omega
 rename_i N;rw[dV rfl func199 rfl (Q2 rfl)];unfold aJ;have hT':=hT;simp only[Ex.Ty]at hT;obtain⟨-,hps,hTb,hTa,hTl⟩:=hT;have hsz:(Ex.mk k nm num ps b a l).size=1+b.size+a.size+l.size:=by simp only[Ex.size]
 have hbl:=b.cq;have hal:=a.cq;have hll:=l.cq;have lb:=λst:St=>bg (st:=st) underlying23 (b.bU 8) (b.bV 8)
 have la:=λst:St=>bg (st:=st) underlying44 (a.bU 7) (a.bV 7)
 have ll:=λst:St=>bg (st:=st) underlying45 (l.bU 11) (l.bV 11)
 have hcl:(Ex.mk k nm num ps b a l).cells++r=.i .i64 k::.s nm::.i .i64 num::ps::b.slice 8::a.slice 7::l.slice 11::r:=by simp[Ex.cells]
 rw[hcl];have⟨t0,s0,h0,p0,p2,pF,pM,pK⟩:=XU (c:=c) (N:=N) (fr:=fr) k nm num ps b a l r hTb hps (by omega) hm hf (by omega);have⟨t1,s1,h1,q0,q2,q6,qM,qK⟩:=XT (c:=c) (N:=N) (t:=t0) k nm num ps b a l r p0 p2 pM pF (by simp;omega);rw[p0]at q0;obtain⟨fi,hfi⟩:∃fi,ab t1 6=fi:=⟨_,rfl⟩;rw[<-q6,hfi]at pF;have pF:=pF.oN qK;have K1:=pK.trans qK;show ∃st',fN π f199.results.toList (bW (ao (au qY) ⟨π,Tw c N,Ff,f199.ntmps,N⟩ (tmpsOf [.rp (.i .i64 k::.s nm::.i .i64 num::ps::b.slice 8::a.slice 7::l.slice 11::r),fr,.m m] 0 .lf) st) (λt s=>bW (ao (au (aw qY)) ⟨π,Tw c N,Ff,f199.ntmps,N⟩ t s) (ao (aw (aw qY)) ⟨π,Tw c N,Ff,f199.ntmps,N⟩)))=So (.tu [],st')/\fL (orM P (jP (Ex.mk k nm num ps b a l) sc)) st' m (q+(Ex.mk k nm num ps b a l).size)/\Kp [m] [] st st'
 rw[h0,dN,h1,dN];obtain⟨sc2,hsc2⟩:∃s,aL ps::b.names::sc=s:=⟨_,rfl⟩;rw[hsc2]at pF qM;have hl2:sc2.length=sc.length+2:=by rw[<-hsc2];rfl
 clear h0 h1 p0 p2 q6;simp[qY,aw,f199,q0,la,ba];generalize hL:aQ _ _ _ _=L;obtain⟨t3,s3,rfl,z0,z2,z6,zM,zK⟩:=cD hL 0 a.list.length
  (λi t s=>Gb (orM (orM P (lY k nm sc2)) (vh (λp=>jP p.2 sc2) a.list i)) s1 s t m (q+1+dM a.list i) (.rp (.i .i64 k::.s nm::.i .i64 num::ps::b.slice 8::a.slice 7::l.slice 11::r)) fi i a.len 47 48)
  (λt s=>Ga (orM (orM P (lY k nm sc2)) (lG a sc2)) s1 s t m (q+1+a.size) (.rp (.i .i64 k::.s nm::.i .i64 num::ps::b.slice 8::a.slice 7::l.slice 11::r)) fi) (by rw[<-aa.aF];omega)
  ⟨by simp[q0],by simp[q2],by simp[hfi],by simp,by simp,by rw[mv];exact qM.Bh,.refl _ _ _⟩
  (by
   rintro i t s hi ⟨i0,i2,i6,il,ii,iM,iK⟩;have hil:i<a.len:=by rw[aa.aF];exact hi
   have e5:(i:Int)<(a.len:Int):=by omega
   have e7:wr .i64 ((i:Int)+1)=((i+1:Nat):Int):=by rw[aP (by omega) (by omega)];rfl
   have⟨r1,r2,r3⟩:=eK hTa.pre (show fH 0+7=7 from rfl) hi;have ix:=dP (P:=π) underlying44 cM aX a.flat a.len i hil;rw[<-aa.dR hil,r2,List.eq_nil_of_length_eq_zero r3,List.nil_append]at ix;have hmem:=Q4 hi;have hTi:=aa.dC hTa _ hmem;have hsz':=aa.dX hmem;have hpr1:aA r1=true:=wY hTa hi r2 r3;have⟨s4,x1,x2,x3⟩:=ha _ hmem hTi.2 (by omega) _ s m _ _ fi r1 N iM (pF.oN iK) hpr1 (by first|omega|(simp;omega));simp[i0,i2,i6,il,ii,e5,e7,ix,x1];exact⟨_,_,⟨rfl,rfl⟩,by simp[i0],by simp[i2],by simp[i6],by simp[il],by simp,by rw[gX hi,<-Q9,HW hi];exact x2.IX,iK.trans x3⟩)
  (by rintro t s ⟨i0,i2,i6,il,ii,iM,iK⟩;simp[il,ii,aa.aF];exact⟨_,_,⟨rfl,rfl⟩,by simp[i0],by simp[i2],by simp[i6],by rw[mq,HV]at iM;first|(rw[wE sc2 a];exact iM)|(rw[wE sc2 b];exact iM)|(rw[DE sc2 l];exact iM),iK⟩)
 clear hL;simp[z0,lb,ba];generalize hL:aQ _ _ _ _=L;obtain⟨t4,s4,rfl,u0,u2,u6,uM,uK⟩:=cD hL 2 b.list.length
  (λi t s=>Gb (orM (orM (orM P (lY k nm sc2)) (lG a sc2)) (vh (λp=>jP p.2 sc2) b.list i)) s3 s t m (q+1+a.size+dM b.list i) (.rp (.i .i64 k::.s nm::.i .i64 num::ps::b.slice 8::a.slice 7::l.slice 11::r)) fi i b.len 65 66)
  (λt s=>Ga (orM (orM (orM P (lY k nm sc2)) (lG a sc2)) (lG b sc2)) s3 s t m (q+1+a.size+b.size) (.rp (.i .i64 k::.s nm::.i .i64 num::ps::b.slice 8::a.slice 7::l.slice 11::r)) fi) (by rw[<-aa.aF];omega)
  ⟨by simp[z0],by simp[z2],by simp[z6],by simp,by simp,by rw[mv];exact zM.Bh,.refl _ _ _⟩
  (by
   rintro i t s hi ⟨i0,i2,i6,il,ii,iM,iK⟩;have hil:i<b.len:=by rw[aa.aF];exact hi
   have e5:(i:Int)<(b.len:Int):=by omega
   have e7:wr .i64 ((i:Int)+1)=((i+1:Nat):Int):=by rw[aP (by omega) (by omega)];rfl
   have⟨r1,r2,r3⟩:=eK hTb.pre (show fH 1+7=8 from rfl) hi;have ix:=dP (P:=π) underlying23 dc cK b.flat b.len i hil;rw[<-aa.dR hil,r2]at ix;have hmem:=Q4 hi;have hTi:=aa.dC hTb _ hmem;have hsz':=aa.dX hmem;have hpr1:aA r1=true:=wY hTb hi r2 r3;have hd:(b.list[i].1++(b.list[i].2.cells++r1)).drop 1=b.list[i].2.cells++r1:=by have r3':b.list[i].1.length=1:=r3;rw[Z6,r3'];simp[r3',Z7]
   have⟨s5,x1,x2,x3⟩:=hb _ hmem hTi.2 (by omega) _ s m _ _ fi r1 N iM ((pF.oN zK).oN iK) hpr1 (by first|omega|(simp;omega));simp[i0,i2,i6,il,ii,e5,e7,ix,hd,x1];exact⟨_,_,⟨rfl,rfl⟩,by simp[i0],by simp[i2],by simp[i6],by simp[il],by simp,by rw[gX hi,<-Q9,HW hi];exact x2.IX,iK.trans x3⟩)
  (by rintro t s ⟨i0,i2,i6,il,ii,iM,iK⟩;simp[il,ii,aa.aF];exact⟨_,_,⟨rfl,rfl⟩,by simp[i0],by simp[i2],by simp[i6],by rw[mq,HV]at iM;first|(rw[wE sc2 a];exact iM)|(rw[wE sc2 b];exact iM)|(rw[DE sc2 l];exact iM),iK⟩)
 clear hL;simp[u0,ll,ba];generalize hL:aQ _ _ _ _=L;obtain⟨t5,s5,rfl,v0,v2,v6,vM,vK⟩:=cD hL 4 l.list.length
  (λi t s=>Gb (orM (orM (orM (orM P (lY k nm sc2)) (lG a sc2)) (lG b sc2)) (vh (λp=>jP p.2 ((aM p).vs::sc2)) l.list i)) s4 s t m (q+1+a.size+b.size+dM l.list i) (.rp (.i .i64 k::.s nm::.i .i64 num::ps::b.slice 8::a.slice 7::l.slice 11::r)) fi i l.len 84 85)
  (λt s=>Ga (orM (orM (orM (orM P (lY k nm sc2)) (lG a sc2)) (lG b sc2)) (vg l sc2)) s4 s t m (q+1+a.size+b.size+l.size) (.rp (.i .i64 k::.s nm::.i .i64 num::ps::b.slice 8::a.slice 7::l.slice 11::r)) fi) (by rw[<-aa.aF];omega)
  ⟨by simp[u0],by simp[u2],by simp[u6],by simp,by simp,by rw[mv];exact uM.Bh,.refl _ _ _⟩
  (by
   rintro i t s hi ⟨i0,i2,i6,il,ii,iM,iK⟩;have hil:i<l.len:=by rw[aa.aF];exact hi
   have e5:(i:Int)<(l.len:Int):=by omega
   have e7:wr .i64 ((i:Int)+1)=((i+1:Nat):Int):=by rw[aP (by omega) (by omega)];rfl
   have⟨r1,r2,r3⟩:=eK hTl.pre (show fH 4+7=11 from rfl) hi;have ix:=dP (P:=π) underlying45 bQ bL l.flat l.len i hil;rw[<-aa.dR hil,r2]at ix;have hmem:=Q4 hi;have hTi:=aa.dC hTl _ hmem;have hsz':=aa.dX hmem;have hpr1:aA r1=true:=wY hTl hi r2 r3;have⟨vs,hp4,hvs,hvl⟩:=Bp hTi.1;have hd:(l.list[i].1++(l.list[i].2.cells++r1)).drop 4=l.list[i].2.cells++r1:=by rw[hp4];rfl
   have hd3:cut ((l.list[i].1++(l.list[i].2.cells++r1)).drop 3) 0 1=So [vs]:=by rw[hp4];rfl
   have fK:iT s m fi sc2:=((pF.oN zK).oN uK).oN iK;have bo:=λ(t:Tr AV) (q1:ah t (.tmp 102)=vs) (q2:ah t (.tmp 103)=fi)=>wz (st:=s) (S:=Tw c N) (t:=t) q1 q2 (wK hvs) fK.1.1
   have nf:=fK.new hvs hvl iM.1;have kn:=Kp.aj (st:=s) [m] [] [vs,fi];have nk:=iM.keep (Kp.aj (st:=s) [] [] [vs,fi]) (by simp);have⟨s6,x1,x2,x3⟩:=hl _ hmem hTi.2 (by omega) _ (s.aj [vs,fi]) m _ _ (.p s.next 0) r1 N nk nf hpr1 (by first|omega|(simp;omega));simp[il,ii,e5,aY];rw[bP (by kernel_rfl)];simp[i0,i2,i6,ii,e7,ix,hd,hd3,bo,x1];exact⟨_,_,⟨rfl,rfl⟩,by simp[i0],by simp[i2],by simp[i6],by simp[il],by simp,by rw[gX hi,<-Q9,HW hi];exact x2.IX,iK.trans (kn.trans x3)⟩)
  (by rintro t s ⟨i0,i2,i6,il,ii,iM,iK⟩;simp[il,ii,aa.aF];exact⟨_,_,⟨rfl,rfl⟩,by simp[i0],by simp[i2],by simp[i6],by rw[mq,HV]at iM;first|(rw[wE sc2 a];exact iM)|(rw[wE sc2 b];exact iM)|(rw[DE sc2 l];exact iM),iK⟩)
 clear hL;exact⟨s5,by simp[bf,aO],by
  rw[hsz];refine(vM.le (by omega)).congr λs=>?_
  simp only[orM,jP,hsc2,J6];simp only[or_assoc],((K1.trans zK).trans uK).trans vK⟩
end
theorem Xw(x:Ex)(hw:x.Wf)(hs:x.size<=1000000)(hN:2000000<=N):
  ∃b st',aJ c N f198 (f198.body.getD .skip) [.ag x.cells] st=So (.b b,st')/\(x.depth<=4096->b=Tt)/\(b=Tt->x.depth<=4096):=by
 have c0:=bq (st:=st) x.cells;have k0:st.next<(st.aj x.cells).next:=Q3 _;obtain⟨r,hr⟩:∃r,st.next=r:=⟨_,rfl⟩;obtain⟨s0,hs0⟩:∃s,st.aj x.cells=s:=⟨_,rfl⟩;rw[hr,hs0]at c0 k0;have c1:=bq (st:=s0) [.i .i64 0,.b Ff];have kn:=Kp.aj (st:=s0) [] [] [.i .i64 0,.b Ff];have c01:=kn.ce c0 k0 k0 (by simp) (by simp);have k1:s0.next<(s0.aj [.i .i64 0,.b Ff]).next:=Q3 _;obtain⟨cr,hcr⟩:∃r,s0.next=r:=⟨_,rfl⟩;obtain⟨s1,hs1⟩:∃s,s0.aj [.i .i64 0,.b Ff]=s:=⟨_,rfl⟩;rw[hcr,hs1]at c1 k1;rw[hs1]at c01;obtain⟨b,n',s2,g1,g2,g3,g4⟩:=MK x hw cr 0 1 s1 (.p r 0) N (by omega) (by omega) (by omega) ⟨⟨_,Ff,c1⟩,k1⟩ (.inr ⟨r,_,rfl,c01,by omega,by omega⟩);have g1':(Tw c N).call 81 [.p cr 0,.p r 0,.i .i64 1] s1=So (.b b,s2):=g1;unfold aJ;refine⟨b,s2,?_,λh=>g4.fit (by omega) (by omega),λh=>?_⟩
 ·simp[f198,hr,hs0,Mf,hcr,hs1,g1']
 ·have:=(g4.yes h).2.1;omega
def dd:List ae->List ae
 |[]=>[]
 |s::l=>if s∈l then dd l else s::dd l
theorem Af:∀{l:List ae}{s:ae},s∈dd l↔s∈l
 |[],s=>J1
 |x::l,s=>by
  unfold dd;split
  ·rename_i h;rw[Af (l:=l),Q5];exact⟨.inr,λh'=>h'.elim (λe=>by rw[e];exact h) id⟩
  ·rw[Q5,Af (l:=l),Q5]
theorem Db:∀l:List ae,(dd l).Nodup
 |[]=>Z8
 |x::l=>by
  unfold dd;split
  ·exact Db l
  ·rename_i h;exact List.nodup_cons.2 ⟨λhh=>h (Af.1 hh),Db l⟩
theorem aa1{L M:List ae}(h:L.Nodup)(k:M.Nodup)(hm:∀s,s∈L↔s∈M):L.Perm M:=by
 rw[List.perm_iff_count];intro a;have h1:=Z9.1 h a;have k1:=Z9.1 k a;by_cases ha:a∈L
 ·have h2:=K8.2 ha;have k2:=K8.2 ((hm a).1 ha);omega
 ·rw[V0.2 ha,V0.2 λhh=>ha ((hm a).2 hh)]
def vk(x:Ex):List ae:=jz (dd (jP x []))
theorem XO{s:ae}:s∈vk x↔s∈jP x []:=((BP _).mem_iff).trans Af
theorem XP(x:Ex):(vk x).Nodup:=(BP _).nodup_iff.2 (Db _)
theorem XF(x:Ex)(hT:x.Ty)(hs:x.size<=1000000)(hd:x.depth<=4096)(hb:∀s∈jP x [],∀c∈s,c<256)(hN:4*x.size+10000000000000000030<=N):tg (raw c N) x.cells=So (vk x)/\(vk x).length<=1000000:=by
 have hsz:=x.size_pos;obtain⟨b,s2,h1,h1',-⟩:=Xw (c:=c) (st:=sA x.cells) x hT.wf hs (N:=N) (by omega);rw[h1' hd]at h1;have h40:(raw c N).call 198 [.ag x.cells] (sA x.cells)=So (.b Tt,s2):=(abF rfl func198 rfl (Q2 rfl)).trans h1;unfold tg;rw[h40];have hm:fL (λ_=>False) (s2.new (.mp [] 0)) s2.next 0:=⟨Q3 _,[],0,by rw[St.oG,if_pos rfl],⟨trivial,λs=>⟨λh=>(J3 h).elim,λh=>h.elim⟩,Z8⟩,λe he=>by simp at he,by simp,by simp⟩;have⟨s3,g1,g2,g3⟩:=XS (c:=c) x hT hs _ (s2.new (.mp [] 0)) s2.next 0 [] .pn [] (N+1) hm .pn rfl (by simp;omega);rw[BX (by decide) rfl rfl rfl rfl rfl (by decide),V1]at g1;have⟨q0,es,k,q1,⟨q2,qP,qD⟩,q3,q4,q5⟩:=g2;simp only[g1,q1];have hp:(eE es).Perm (dd (jP x [])):=aa1 qD (Db _) λs=>by rw[qP s,Af];simp[orM]
 have he:jz (eE es)=vk x:=RT hp λs hs=>hb s (by have:=(qP s).1 hs;simpa[orM]using this)
 rw[if_pos ⟨q0,q2,q3,q4,by omega⟩,he];refine⟨rfl,?_⟩;rw[<-he,FA];simp only[eE,Q6];omega
@[simp] theorem aft(t:Tr AV):ah t (.const .nilFunc)=.fn0:=rfl
theorem Us(hv:v.cells=So [v])(hN:1<=N):(Tw c N).call 82 [v] st=So (.f (.func 131) [] [.p st.next 0],st.aj [v]):=by
 cases N
 ·omega
 rename_i N;rw[dV rfl func82 rfl (Q2 rfl)];simp_all[aJ]
theorem ZS{l r4 r3:Nat}{tq:Tr AV}(hv:fq v ds)(hl:ds.length<=1000000)(h:uu s l r4 r3 cr mr v tq (ir []))(h3:ab tq 3=.p r3 0)(hN:10000000000000000010<=N):
  ∃s',(Tw c N).call 131 [.f (.yield l) [] [],.p r4 0] s=So (.tu [],s')/\uu s' l r4 r3 cr mr v tq (ir ds)/\Kp [mr,l] [] s s':=by
 cases N
 ·omega
 rename_i N;rw[dV rfl func131 rfl (Q2 rfl)];unfold aJ;have ln:=λst:St=>wC (st:=st) hv
 have⟨a4,c4⟩:=h.c4;have e0:wr .i64 ((ds.length:Int)-1)=(ds.length:Int)-1:=aP (by omega) (by omega);have b4:rd s r4 0 1=So [v]:=by rw[ai c4];rfl
 simp[f131,b4,ln,e0,ba];generalize hL:aQ _ _ _ _=L;obtain⟨t1,s1,rfl,z1,z2⟩:=cD hL 0 ds.length
  (λi t s'=>ab t 0=.f (.yield l) [] []/\ab t 1=.p r4 0/\ab t 3=.i .i64 ((ds.length:Int)-1-i)/\uu s' l r4 r3 cr mr v tq (ir (ds.drop (ds.length-i)))/\Kp [mr,l] [] s s')
  (λt s'=>uu s' l r4 r3 cr mr v tq (ir ds)/\Kp [mr,l] [] s s') (by omega)
  ⟨by simp,by simp,by simp,by grind,.refl _ _ _⟩
  (by
   rintro i t s' hi ⟨i0,i1,i3,iO,iK⟩;obtain⟨m,hm⟩:∃m,ds.length-i=m+1:=⟨ds.length-i-1,by omega⟩;have hmd:m<ds.length:=by omega
   have e1:(ds.length:Int)-1-(i:Int)=(m:Int):=by omega
   rw[e1]at i3;have e4:wr .i64 ((m:Int)-1)=(m:Int)-1:=aP (by omega) (by omega);have⟨q,ix⟩:=qU hv hmd;have ld:=λst:St=>ya (st:=st) ds[m] q
   have⟨x4,d4⟩:=iO.c4;have b4':rd s' r4 0 1=So [v]:=by rw[ai d4];rfl
   have⟨s2,r1,r2,r3'⟩:=ZU (c:=c) iO h3 ds[m] (m:Int) (N:=N) (by omega);simp[i0,i1,i3,b4',ix,ld,r1,e4];refine⟨_,_,⟨rfl,rfl⟩,by simp[i0],by simp[i1],by simp;omega,?_,iK.trans r3'⟩;rw[show ds.length-(i+1)=m by omega,Q7 hmd];rw[hm]at r2;exact r2)
  (by
   rintro t s' ⟨i0,i1,i3,iO,iK⟩;have e1:¬(ds.length:Int)<=(ds.length:Int)-1:=by omega
   simp[i3,e1];exact⟨_,_,⟨rfl,rfl⟩,by simpa using iO,iK⟩)
 simp_all[bf,aO]
theorem SZ{o:Nat}{vs:List AV}(h:wt s r o vs=So s'):s'.next=s.next:=by grind[wt,dH]
theorem ael:bt π 124=So [.mn,.i .i64 0]:=by kernel_rfl
theorem aej:bt π 111=So [.pn]:=by kernel_rfl
@[simp] theorem Yk:aN π 111=true:=by kernel_rfl
@[simp] theorem Lp:cw π 111=false:=by kernel_rfl
theorem ac1:aq π 111=1:=by kernel_rfl
theorem ad3:eC π 124=true:=by kernel_rfl
theorem aa4:∃fs,π.underlying 124=So (.struct fs)/\gP π fs 0=So (0,1):=⟨_,underlying124,by kernel_rfl⟩
theorem UR{S:Self}{x:Operand}(hx:ah t x=.m r):cO (.build 124 #[(0,x)]) π S t st=So (.ag [.m r,.i .i64 0],st):=by
 have⟨fs,h1,h2⟩:=aa4;show @Bool.rec (λ_=>aD) No (cI π 124 [(0,ah t x)] st) (eC π 124)=_
 rw[ad3,hx];show cI π 124 [(0,.m r)] st=_
 unfold cI;rw[h1];simp only[ael,jc,fill,h2,Mr];rfl
def KX(o:Option (AV×St))(st:St)(ds:List bG):Prop:=∃st' cr mr,o=So (.p cr 0,st')/\Ck st' cr mr 0 (ir ds)/\Kp [] [] st st'/\st.next<=cr/\st.next<=mr
theorem ZT{bv:AV}(hv:fq cv ds)(hc:cv.cells=So [cv])(hl:ds.length<=1000000)(hN:10000000000000000020<=N):KX ((Tw c N).call 43 [.ag [cv,bv]] st) st ds:=by
 cases N
 ·omega
 rename_i N;rw[dV rfl func43 rfl (Q2 rfl)];unfold aJ;show KX (fN π f43.results.toList (bW (ao (au mK) ⟨π,Tw c N,Ff,f43.ntmps,N⟩ (tmpsOf [.ag [cv,bv]] 0 .lf) st) (λt s=>bW (ao (au (aw mK)) ⟨π,Tw c N,Ff,f43.ntmps,N⟩ t s)
  (λt s=>bW (bW (ao (au (au (aw (aw mK)))) ⟨π,Tw c N,Ff,f43.ntmps,N⟩ t s) (λt s=>pL 0 (rN ⟨π,Tw c N,Ff,f43.ntmps,N⟩ #[12,13] nJ mJ t s (ah t (.tmp 11))))) (ao (aw (aw (aw mK))) ⟨π,Tw c N,Ff,f43.ntmps,N⟩))))) st ds
 have c0:=bq (st:=st) [cv,bv];have k0:=Kp.aj (st:=st) [] [] [cv,bv];have n0:(st.aj [cv,bv]).next=st.next+1:=rfl;obtain⟨s0,hs0⟩:∃s,st.aj [cv,bv]=s:=⟨_,rfl⟩;rw[hs0]at c0 k0 n0;have a0:∃t,ao (au mK) ⟨π,Tw c N,Ff,f43.ntmps,N⟩ (tmpsOf [.ag [cv,bv]] 0 .lf) st=.nx t s0/\ab t 1=.p st.next 0:=by simp[mK,au,f43,hs0]
 have⟨t1,a0,p1⟩:=a0;have m1:=bZ.new s0;have k1:=Kp.new (st:=s0) [] [] (.mp [] 0);have n1:(s0.new (.mp [] 0)).next=st.next+2:=by show s0.next+1=_;omega
 obtain⟨s1,hs1⟩:∃s,s0.new (.mp [] 0)=s:=⟨_,rfl⟩;rw[hs1]at m1 k1 n1;rw[n0]at m1;have c2:=bq (st:=s1) [.m (st.next+1),.i .i64 0];have k2:=Kp.aj (st:=s1) [] [] [.m (st.next+1),.i .i64 0];have n2:(s1.aj [.m (st.next+1),.i .i64 0]).next=st.next+3:=by show s1.next+1=_;omega
 obtain⟨s2,hs2⟩:∃s,s1.aj [.m (st.next+1),.i .i64 0]=s:=⟨_,rfl⟩;rw[hs2]at c2 k2 n2;rw[n1]at c2;have⟨s3,w1,w2,w3,w4⟩:=bJ (s:=s2) (z:=[.pn]) (cells:=[.p (st.next+2) 0]) rfl rfl;have n3:s3.next=st.next+4:=by have:=SZ w1;rw[this];show s2.next+1=_;omega
 rw[n2]at w1 w2;have a1:∃t,ao (au (aw mK)) ⟨π,Tw c N,Ff,f43.ntmps,N⟩ t1 s0=.nx t s3/\ab t 1=.p st.next 0/\ab t 3=.p (st.next+3) 0:=by
  have bo:=λ(t:Tr AV) (q:ah t (.tmp 6)=.m (st.next+1))=>UR (st:=s1) (S:=Tw c N) (t:=t) q
  simp[mK,au,aw,f43,n0,hs1,bo,n1,hs2,aB,aej,n2,bN Yk ac1,w1,p1]
 have⟨t2,a1,q1,q3⟩:=a1;have kk:Kp [] [] s0 s3:=(k1.trans k2).trans w3;have c0':=kk.ce c0 (by omega) (by omega) (by simp) (by simp);have b0:rd s3 st.next 0 1=So [cv]:=by rw[ai c0'];rfl
 have bk:=Us (c:=c) (st:=s3) hc (N:=N) (by omega);have c4:=bq (st:=s3) [cv];have k4:=Kp.aj (st:=s3) [] [] [cv];have n4:(s3.aj [cv]).next=st.next+5:=by show s3.next+1=_;omega
 obtain⟨s4,hs4⟩:∃s,s3.aj [cv]=s:=⟨_,rfl⟩;rw[hs4]at c4 k4 n4 bk;rw[n3]at c4 bk;have a2:∃t,ao (au (au (aw (aw mK)))) ⟨π,Tw c N,Ff,f43.ntmps,N⟩ t2 s3=.nx t s4/\ab t 3=.p (st.next+3) 0/\ah t (.tmp 11)=.f (.func 131) [] [.p (st.next+4) 0]:=by simp[mK,au,aw,f43,q1,q3,b0,bk]
 have⟨t3,a2,r3,r11⟩:=a2;have k5:=Kp.new (st:=s4) [] [] (.lp t3 22 [12,13] nJ mJ);have n5:(s4.new (.lp t3 22 [12,13] nJ mJ)).next=st.next+6:=by show s4.next+1=_;omega
 have g5:(s4.new (.lp t3 22 [12,13] nJ mJ)).get (st.next+5)=So (.lp t3 22 [12,13] nJ mJ):=by rw[St.oG,if_pos n4.symm]
 obtain⟨s5,hs5⟩:∃s,s4.new (.lp t3 22 [12,13] nJ mJ)=s:=⟨_,rfl⟩;rw[hs5]at k5 n5 g5;have w2':=(k4.trans k5).ce w2 (by omega) (by omega) (by simp) (by simp);have c2':=((w3.trans k4).trans k5).ce c2 (by omega) (by omega) (by simp) (by simp);have c4':=k5.ce c4 (by omega) (by omega) (by simp) (by simp);have m5:=m1.keep (((k2.trans w3).trans k4).trans k5) (by omega) (by simp);have O5:uu s5 (st.next+5) (st.next+4) (st.next+3) (st.next+2) (st.next+1) cv t3 (ir []):=⟨g5,by omega,⟨_,c4'⟩,⟨_,w2'⟩,⟨_,c2'⟩,m5,by omega,by omega⟩;have⟨s6,x1,x2,x3⟩:=ZS (c:=c) hv hl O5 r3 (N:=N) (by omega);have hr:rN ⟨π,Tw c N,Ff,f43.ntmps,N⟩ #[12,13] nJ mJ t3 s4 (.f (.func 131) [] [.p (st.next+4) 0])=.nx t3 (s6.drop (st.next+5)):=by
  show(match pP π (Tw c N) 131 ([]++([.f (.yield s4.next) [] []]++[.p (st.next+4) 0])) (s4.new (.lp t3 22 [12,13] nJ mJ))with
   |some (_,st')=>Bz t3 st' s4.next (st'.get s4.next)
   |none=>.no)=_
  rw[hs5,n4];have hcf:pP π (Tw c N) 131 ([]++([.f (.yield (st.next+5)) [] []]++[.p (st.next+4) 0])) s5=So (.tu [],s6):=by unfold pP;rw[func131];exact x1
  rw[hcf];show Bz t3 s6 (st.next+5) (s6.get (st.next+5))=_
  rw[x2.row];rfl
 rw[a0,dN,a1,dN,a2,dN,r11,hr];have⟨y3,c3f⟩:=x2.c3;have kd:=Kp.drop (st:=s6) (A:=[st.next+5]) (B:=[]) (r:=st.next+5) (by simp);have c3d:=kd.ce c3f (by have:=x2.ll;omega) (by have:=x2.ll;omega) (by simp) (by simp);have⟨yc,ccf⟩:=x2.cc;have ccd:=kd.ce ccf (by have:=x2.ll;omega) (by have:=x2.ll;omega) (by simp) (by simp);have md:=x2.mp.keep kd (by have:=x2.ll;omega) (by simp);have hll:=x2.ll;have hnx:st.next+5<(s6.drop (st.next+5)).next:=hll;have b3:rd (s6.drop (st.next+5)) (st.next+3) 0 1=So [.p (st.next+2) 0]:=by rw[ai c3d];rfl
 refine⟨s6.drop (st.next+5),st.next+2,st.next+1,?_,⟨⟨_,ccd⟩,by omega,by omega,by omega,md,.inl rfl⟩,?_,by omega,by omega⟩
 ·simp[mK,aw,f43,r3,b3]
 ·have h1:Kp [] [] st s5:=(k0.trans kk).trans (k4.trans k5);have h2:=ey h1 x3 (λx hx=>by simp at hx;omega) (by simp);exact ey h2 kd (λx hx=>by simp at hx;omega) (by simp)
def rD(N:Nat)(cv:AV)(ds:List bG)(b:aa):Prop :=
 (Tw No N).call 45 [cv] ay=So (.b Tt,ay)/\ez b.names=Tt/\v8 b.names 0/\cS (ir ds) b [b.names]=Tt/\[109,97,105,110]∈b.names
def KO(st s:St)(r0 cr mr:Nat)(w:Int)(C:ae->Option AV)(cv bv:AV)(b:aa)(i:Nat):Prop :=
 (∃al,s.ce r0=So ([cv,bv],r0,al))/\Kp [cr] [cr] st s/\∃w',Ck s cr mr w' C/\(w'=0↔w=0/\∀j,j<i->yG C [b.names] b j)
noncomputable def nK:Code:=f16.body.getD .skip
noncomputable def Dt:Code:=aw (aw (aw (aw (aw (aw nK)))))
def TW(o:Option (AV×St))(w:Int)(C:ae->Option AV)(b:aa):Prop:=∃e:Int,sP o (.i .i64 e)/\(e=0↔w=0/\(cS C b [b.names]=Tt/\[109,97,105,110]∈b.names))
theorem Vw(hb:b.Ty 1)(hs:b.size<=1000000){C:ae->Option AV}(hC:zy C){r0:Nat}{w:Int}{lv:AV}(t1:ab t 1=.p r0 0)(t3:ab t 3=.p cr 0)(t4:ab t 4=lv)(b2:cz lv (b.names.map .s))(c3:s.ce r0=So ([cv,b.slice 8],r0,al))(l3:r0<s.next)(r0n:r0≠cr)(hk:Ck s cr mr w C)(hN:2*b.size+10000000000000000100<=N):
  TW (fN π f16.results.toList (ao Dt ⟨π,Tw No N,Ff,f16.ntmps,N⟩ t s)) w C b:=by
 have hbl:=b.cq;have lb:=λst:St=>bg (st:=st) underlying23 (b.bU 8) (b.bV 8)
 have hnl:b.names.length<=9223372036854775807:=by rw[fg];omega
 have ncr:r0∉[cr]:=by grind
 have lbv:∀{s:St}{al:List Nat},s.ce r0=So ([cv,b.slice 8],r0,al)->rd s r0 1 1=So [b.slice 8]:=λh=>by rw[ai h];rfl
 have lbv3:=lbv c3;simp[Dt,nK,aw,f16,t1,lbv3,lb,ba];generalize hL:aQ _ _ _ _=L;obtain⟨t5,s5,rfl,p3,p4,⟨a5,c5⟩,k5,w5,C5,g5⟩:=cD hL 0 b.list.length
  (λi t s'=>ab t 1=.p r0 0/\ab t 3=.p cr 0/\ab t 4=lv/\ab t 31=.i .i64 (b.len:Int)/\ab t 32=.i .i64 (i:Int)/\KO s s' r0 cr mr w C cv (b.slice 8) b i)
  (λt s'=>ab t 3=.p cr 0/\ab t 4=lv/\KO s s' r0 cr mr w C cv (b.slice 8) b b.list.length) (by rw[<-aa.aF];omega)
  ⟨by simp_all,by simp_all,by simp_all,by simp,by simp,⟨_,c3⟩,.refl _ _ _,w,hk,by simp⟩
  (by
   rintro i t s' hi ⟨i1,i3,i4,i31,i32,⟨a',c'⟩,iK,w',iC,iG⟩;have hil:i<b.len:=by rw[aa.aF];exact hi
   have e5:(i:Int)<(b.len:Int):=by omega
   have e7:wr .i64 ((i:Int)+1)=((i+1:Nat):Int):=by rw[aP (by omega) (by omega)];rfl
   have⟨q,q1,q2⟩:=eK hb.pre (show fH 1+7=8 from rfl) hi;have ix:=dP underlying23 dc cK b.flat b.len i hil;rw[<-aa.dR hil,q1]at ix;have hmem:=Q4 hi;have hTi:=aa.dC hb _ hmem;have hsz':=aa.dX hmem;have hpr1:aA q=true:=wY hb hi q1 q2;have hd:(b.list[i].1++(b.list[i].2.cells++q)).drop 1=b.list[i].2.cells++q:=by have q2':b.list[i].1.length=1:=q2;rw[Z6,q2'];simp[q2',Z7]
   have bcs:=lbv c';have bo:=λ(t:Tr AV) (q1:ah t (.tmp 41)=lv)=>wz (st:=s') (S:=Tw No N) q1 (Ws t) (wK b2) (by simp)
   have nf:=(iT.pn).new b2 hnl iC.crl;have kn:=Kp.aj (st:=s') [cr] [cr] [lv,.pn];have nk:=iC.keep (Kp.aj [] [] [lv,.pn]) (by simp) (by simp) (by simp);have⟨s6,w6,x1,x2,x3,x4⟩:=Wy (c:=No) _ hTi.2 (by omega) (s'.aj [lv,.pn]) cr mr w' C [b.names] (.p s'.next 0) q N hC nk nf hpr1 (by simp;omega);simp[i1,i3,i4,i31,i32,e5,e7,bcs,ix,hd,bo,x1];have kk:=kn.trans x3;refine⟨_,_,⟨rfl,rfl⟩,by simp[i1],by simp[i3],by simp[i4],by simp[i31],by simp,⟨_,kk.ce c' (Q0 l3 iK.next) (Q0 l3 iK.next) ncr ncr⟩,iK.trans kk,w6,x2,?_⟩;rw[x4,iG,all_succ,and_assoc];exact and_congr J1 (and_congr J1 ⟨λh _=>h,λh=>h hi⟩))
  (by rintro t s' ⟨i1,i3,i4,i31,i32,iA⟩;simp[i31,i32,aa.aF];exact⟨_,_,⟨rfl,rfl⟩,by simp[i3],by simp[i4],iA⟩)
 clear hL;rw[IR]at g5;have⟨a6,cc5⟩:=C5.ce;have hw:rd s5 cr 1 1=So [.i .i64 w5]:=by rw[ai cc5];rfl
 have ct:=MJ (c:=No) (st:=s5) [109,97,105,110] b2 hnl (N:=N) (by omega);by_cases h0:w5=0
 ·subst h0;have gg:=g5.1 rfl;by_cases hm:[109,97,105,110]∈b.names
  ·refine⟨0,?_,λ_=>⟨gg.1,gg.2,hm⟩,λ_=>rfl⟩;simp[p3,p4,hw,ct,hm]
  ·refine⟨10,?_,λh=>(by cases h),λh=>absurd h.2.2 hm⟩;simp[p3,p4,hw,ct,hm]
 ·refine⟨w5,?_,λh=>absurd h h0,λh=>absurd (g5.2 ⟨h.1,h.2.1⟩) h0⟩;simp[p3,hw,h0]
def KP(o:Option (AV×St))(N:Nat)(cv:AV)(ds:List bG)(b:aa):Prop:=∃e:Int,sP o (.i .i64 e)/\(lF b=Ff->e=3)/\(lF b=Tt->(e=0↔rD N cv ds b))
theorem Vv(hv:fq cv ds)(hl:ds.length<=1000000)(hb:b.Ty 1)(hs:b.size<=1000000)(hN:2*b.size+10000000000000000100<=N):
  KP (aJ No N f16 (f16.body.getD .skip) [.ag [cv,b.slice 8]] ay) N cv ds b:=by
 unfold aJ;have hbl:=b.cq;have hcc:cv.cells=So [cv]:=by rcases hv.1 with ⟨rfl,-⟩|rfl<;>simp
 have hcs:bR cv=true:=by rcases hv.1 with ⟨rfl,-⟩|rfl<;>rfl
 have c0:=bq (st:=ay) [cv,b.slice 8];have k0:ay.next<(ay.aj [cv,b.slice 8]).next:=Q3 _;obtain⟨r0,hr0⟩:∃r,ay.next=r:=⟨_,rfl⟩;obtain⟨s0,hs0⟩:∃s,ay.aj [cv,b.slice 8]=s:=⟨_,rfl⟩;rw[hr0,hs0]at c0 k0;have lall:∀{s:St}{al:List Nat},s.ce r0=So ([cv,b.slice 8],r0,al)->loadAt π 25 s (.p r0 0)=So (.ag [cv,b.slice 8]):=λh=>by rw[cu nO zQ,gC,ai h];rfl
 have lcv:∀{s:St}{al:List Nat},s.ce r0=So ([cv,b.slice 8],r0,al)->rd s r0 0 1=So [cv]:=λh=>by rw[ai h];rfl
 have lbv:∀{s:St}{al:List Nat},s.ce r0=So ([cv,b.slice 8],r0,al)->rd s r0 1 1=So [b.slice 8]:=λh=>by rw[ai h];rfl
 have la0:=lall c0;have lg:=Zi (c:=No) (st:=s0) hv.pure hcs hb hs (N:=N) (by omega);cases hf:lF b with
 |false=>rw[hf]at lg;refine⟨3,?_,λ_=>rfl,λh=>by grind⟩;simp[f16,hr0,hs0,la0,lg]
 |true=>
  rw[hf]at lg;obtain⟨s1,cr,mr,o1,oC,oK,ocr,omr⟩:=ZT (c:=No) (bv:=b.slice 8) hv hcc hl (N:=N) (by omega);have c1:=oK.ce c0 k0 k0 (by simp) (by simp);obtain⟨fb,hfb⟩:=VI (c:=No) hv hl (N:=N) (by omega);obtain⟨s2,w2,y1,y2,y3,y4⟩:=lK (c:=No) (!fb) oC (by right;right;right;rfl) (by decide) (N:=N) (by omega);have ncr:r0∉[cr]:=by simp;omega
  have c2:=y3.ce c1 (Q0 k0 oK.next) (Q0 k0 oK.next) ncr ncr;have l2:r0<s2.next:=Q0 (Q0 k0 oK.next) y3.next;obtain⟨lv,b1,b2⟩:=GJ (c:=No) (st:=s2) hb (by omega) (N:=N) (by omega);have hnl:b.names.length<=9223372036854775807:=by rw[fg];omega
  have nm:=λst:St=>Eh (c:=No) (st:=st) b2 hnl (N:=N) (by omega)
  obtain⟨sb,sb1,sb2⟩:=acD (c:=No) b2 hnl (N:=N) (by omega);have lcv1:=lcv c1;have lbv2:=lbv c2;obtain⟨s3,w3,z1,z2,z3,z4⟩:=lK (c:=No) (!(ez b.names&&sb)) y2 (by right;right;right;rfl) (by decide) (N:=N) (by omega);have c3:=z3.ce c2 l2 l2 ncr ncr;have l3:r0<s3.next:=Q0 l2 z3.next;have lbv3:=lbv c3;have g3:w3=0↔fb=Tt/\(ez b.names=Tt/\sb=Tt):=by rw[z4,y4];cases fb<;>cases ez b.names<;>cases sb<;>simp
  have hd:∃t,ao nK ⟨π,Tw No N,Ff,f16.ntmps,N⟩ (tmpsOf [.ag [cv,b.slice 8]] 0 .lf) ay=ao Dt ⟨π,Tw No N,Ff,f16.ntmps,N⟩ t s3/\ab t 1=.p r0 0/\ab t 3=.p cr 0/\ab t 4=lv:=by
   rw[show ao nK ⟨π,Tw No N,Ff,f16.ntmps,N⟩ (tmpsOf [.ag [cv,b.slice 8]] 0 .lf) ay=bW (ao (au nK) ⟨π,Tw No N,Ff,f16.ntmps,N⟩ (tmpsOf [.ag [cv,b.slice 8]] 0 .lf) ay) (λt s=>bW (ao (au (aw nK)) ⟨π,Tw No N,Ff,f16.ntmps,N⟩ t s)
    (λt s=>bW (ao (au (aw (aw nK))) ⟨π,Tw No N,Ff,f16.ntmps,N⟩ t s) (λt s=>bW (ao (au (aw (aw (aw nK)))) ⟨π,Tw No N,Ff,f16.ntmps,N⟩ t s)
    (λt s=>bW (ao (au (aw (aw (aw (aw nK))))) ⟨π,Tw No N,Ff,f16.ntmps,N⟩ t s) (λt s=>bW (ao (au (aw (aw (aw (aw (aw nK)))))) ⟨π,Tw No N,Ff,f16.ntmps,N⟩ t s) (ao Dt ⟨π,Tw No N,Ff,f16.ntmps,N⟩)))))) from rfl]
   cases hn:ez b.names with
   |false=>rw[hn]at z1;simp only[Bool.false_and,Bool.not_false]at z1;simp[nK,au,aw,f16,hr0,hs0,la0,lg,o1,lcv1,hfb,y1,lbv2,b1,nm,hn,z1];exact⟨_,rfl,by simp,by simp,by simp⟩
   |true=>rw[hn]at z1;simp only[Bool.true_and]at z1;simp[nK,au,aw,f16,hr0,hs0,la0,lg,o1,lcv1,hfb,y1,lbv2,b1,nm,hn,sb1,z1];exact⟨_,rfl,by simp,by simp,by simp⟩
  obtain⟨t,hd,t1,t3,t4⟩:=hd;show KP (fN π f16.results.toList (ao nK ⟨π,Tw No N,Ff,f16.ntmps,N⟩ (tmpsOf [.ag [cv,b.slice 8]] 0 .lf) ay)) N cv ds b
  rw[hd];have r0n:r0≠cr:=by simpa using ncr
  obtain⟨e,e1,e2⟩:=Vw (cv:=cv) hb hs (MG ds) t1 t3 t4 b2 c3 l3 r0n z2 hN;refine⟨e,e1,λh=>(by rw[hf]at h;cases h),λ_=>?_⟩;rw[e2,g3];have hfn:fb=Tt↔(Tw No N).call 45 [cv] ay=So (.b Tt,ay):=by rw[hfb ay];simp
  unfold rD;rw[hfn,sb2,and_assoc,and_assoc]
def SJ(l:ae):Nat:=l.foldl (λa b=>a*10+(b-48)) 0
theorem We{k:Nat}(h:k<10):(UInt8.ofNat (48+k)).toNat=48+k:=by simp only[UInt8.toNat_ofNat'];omega
theorem SK:∀u:Nat,SJ ((Lib.decDigits u).map UInt8.toNat)=u/\∀b,b∈(Lib.decDigits u).map UInt8.toNat->48<=b/\b<=57:=by
 intro u;induction u using Nat.strongRecOn with
 |ind u ih=>grind[Lib.decDigits,We,SJ]
theorem OD(n:Nat):nQ n=(Lib.decDigits n).map UInt8.toNat:=by grind[nQ,Lib.itoa]
def dt(m:Nat):ae:=[126,112]++nQ m
theorem Ja{a b:Nat}(h:dt a=dt b):a=b:=by have h1:nQ a=nQ b:=List.append_cancel_left h;grind[OD,SK]
theorem OE(h:m<9223372036854775808):(nQ m).length<=21:=by grind[nQ,Lib.itoa_length_le]
theorem Jb(h:m<9223372036854775808):named (dt m)=true:=by grind[OE,named,dt,OD,SK]
section
variable(T:List ae)
open Classical in
def mu(n:Nat):Nat:=(T.filter λs=>decide (∃m,n<m/\s=dt m)).length
def tD:Nat->Nat->Nat
 |0,n=>n+1
 |k+1,n=>if dt (n+1)∈T then tD k (n+1) else n+1
def bY(n:Nat):Nat:=tD T T.length n
theorem filter_le{α:Type}{p q:α->Bool}(h:∀x,p x=Tt->q x=Tt):∀{l:List α},(l.filter p).length<=(l.filter q).length
 |[]=>Q1 _
 |z::l=>by have ih:=filter_le h (l:=l);grind
theorem filter_lt{α:Type}{p q:α->Bool}:∀{l:List α},(∀x,p x=Tt->q x=Tt)->(∃x,x∈l/\q x=Tt/\p x=Ff)->(l.filter p).length<(l.filter q).length
 |[],_,⟨x,h,_⟩=>by grind
 |y::l,h,⟨x,hx,h1,h2⟩=>by
  have le:=λl:List α=>filter_le h (l:=l)
  rcases Q5.1 hx with rfl|hx
  ·grind
  ·have ih:=filter_lt h ⟨x,hx,h1,h2⟩;grind
open Classical in
theorem PG(h:dt (n+1)∈T):mu T (n+1)<mu T n:=by
 refine filter_lt (λx hx=>?_) ⟨_,h,?_,?_⟩
 ·have⟨m,h1,h2⟩:=of_decide_eq_true hx;exact decide_eq_true ⟨m,by omega,h2⟩
 ·exact decide_eq_true ⟨n+1,by omega,rfl⟩
 ·refine decide_eq_false ?_;rintro⟨m,h1,h2⟩;have:=Ja h2;omega
open Classical in
theorem PF:mu T (n+1)<=mu T n:=by
 refine filter_le λx hx=>?_
 grind
theorem A8:∀(k n:Nat),mu T n<=k->dt (tD T k n)∉T/\n<tD T k n/\(∀m,n<m->m<tD T k n->dt m∈T)/\tD T k n+mu T (tD T k n)<=n+mu T n+1
 |0,n,h=>by grind[PG,PF,tD]
 |k+1,n,h=>by
  unfold tD;by_cases hh:dt (n+1)∈T
  ·have hl:=PG T hh;have⟨h1,h2,h3,h4⟩:=A8 k (n+1) (by omega);grind
  grind[PF]
theorem A6:mu T n<=T.length:=List.length_filter_le _ _
theorem PT(n:Nat):dt (bY T n)∉T:=(A8 T _ n (A6 T)).1
theorem A9(n:Nat):n<bY T n:=(A8 T _ n (A6 T)).2.1
theorem ZR(n:Nat):∀m,n<m->m<bY T n->dt m∈T:=(A8 T _ n (A6 T)).2.2.1
def dK(n:Nat):Nat:=n+mu T n
theorem yL(n:Nat):dK T (bY T n)<=dK T n+1:=(A8 T _ n (A6 T)).2.2.2
theorem oO(n:Nat):n<=dK T n:=Nat.le_add_right _ _
abbrev aU:=ae->Option ae
def sj(S:aU)(x y:ae):aU:=λz=>if z=x then So y else S z
def aI(S:aU):List ae->Nat->aU×List ae×Nat
 |[],n=>(S,[],n)
 |x::l,n=>let r:=aI (sj S x (dt (bY T n))) l (bY T n);(r.1,dt (bY T n)::r.2.1,r.2.2)
def cJ:List ae->AV
 |[]=>.sn
 |s::l=>.rs ((s::l).map .s) (l.length+1) 1
def jU(s:ae):Ex:=.mk 1 s 0 .sn (.nil Tt) (.nil Tt) (.nil Tt)
def jA(late:aa)(out:Ex):Ex:=match late with
 |.nil _=>out
 |.cons p x l=>.mk 7 [] 0 .sn (.cons p x l) (.cons [] out (.nil Tt)) (.nil Tt)
mutual
def bm:Ex->aU->Nat->Ex×Nat
 |.mk k nm num ps b a l,S,n=>
  if k=1 then(.mk 1 ((S nm).getD nm) num .sn (.nil Tt) (.nil Tt) (.nil Tt),n) else
  let w1:=aI T S (aL ps) n
  let w2:=aI T w1.1 b.names w1.2.2
  let rb:=cy b w2.1 w2.2.1 w2.2.2
  let ra:=bM a w2.1 (fm strF k nm a.len) 0 rb.2
  let rl:=dz l w2.1 ra.2.2
  (jA ra.2.1 (.mk k nm num (cJ w1.2.1) rb.1 ra.1 rl.1),rl.2)
def cy:aa->aU->List ae->Nat->aa×Nat
 |.nil _,_,_,n=>(.nil Tt,n)
 |.cons _ x l,S,ns,n=>let r:=bm x S n;let q:=cy l S ns.tail r.2;(.cons [.s (ns.headD [])] r.1 q.1,q.2)
def bM:aa->aU->Int->Nat->Nat->aa×aa×Nat
 |.nil _,_,_,_,n=>(.nil Tt,.nil Tt,n)
 |.cons _ x l,S,k,i,n=>
  let r:=bm x S n
  if k<=(i:Int)/\r.1.atom=Ff then
   let q:=bM l S k (i+1) (bY T r.2)
   (.cons [] (jU (dt (bY T r.2))) q.1,.cons [.s (dt (bY T r.2))] r.1 q.2.1,q.2.2)
  else
   let q:=bM l S k (i+1) r.2
   (.cons [] r.1 q.1,q.2.1,q.2.2)
def dz:aa->aU->Nat->aa×Nat
 |.nil _,_,n=>(.nil Tt,n)
 |.cons p x l,S,n=>
  let w:=aI T S (aM (p,x)).vs n
  let r:=bm x w.1 w.2.2
  let q:=dz l S r.2
  (.cons [.i .i64 (aM (p,x)).k,.s (aM (p,x)).n,.i .i64 (aM (p,x)).m,cJ w.2.1] r.1 q.1,q.2)
end
end
def fh:List (List AV×Ex)->aa
 |[]=>.nil Tt
 |p::L=>.cons p.1 p.2 (fh L)
theorem IP:∀L:List (List AV×Ex),(fh L).list=L
 |[]=>rfl
 |p::L=>by simp[fh,aa.list,IP L]
def db:aa->Nat->aa
 |l,0=>l
 |.nil f,_+1=>.nil f
 |.cons _ _ l,i+1=>db l i
theorem uY:∀(l:aa) (i:Nat) (h:i<l.list.length),db l i=.cons l.list[i].1 l.list[i].2 (db l (i+1))
 |.nil f,i,h=>by simp[aa.list]at h
 |.cons p x l,0,h=>by simp[db,aa.list]
 |.cons p x l,i+1,h=>by have:=uY l i (by simpa[aa.list]using h);simpa[db,aa.list]using this
theorem uZ:∀(l:aa),∃f,db l l.list.length=.nil f
 |.nil f=>⟨f,by simp[db,aa.list]⟩
 |.cons p x l=>by have⟨f,h⟩:=uZ l;grind[db,aa.list]
def jY:List (List AV×Ex)->aa->aa
 |[],m=>m
 |p::L,m=>.cons p.1 p.2 (jY L m)
theorem uD:∀(L M:List (List AV×Ex)) (m:aa),jY (L++M) m=jY L (jY M m)
 |[],M,m=>rfl
 |p::L,M,m=>by simp[jY,uD L M m]
theorem zV:∀L:List (List AV×Ex),jY L (.nil Tt)=fh L
 |[]=>rfl
 |p::L=>by simp[jY,fh,zV L]
theorem acV{k:Bool}{x y:ae}(h:x.length+y.length<=9223372036854775807):Go.Ev.binOp P ty k .add (.s x) (.s y)=So (.s (x++y)):=by
 show @Bool.rec (λ_=>Option AV) No (So (.s (x++y))) (Nat.ble (x.length+y.length) 9223372036854775807)=_
 rw[Nat.ble_eq_true_of_le h]
structure Mk(st:St)(mr tr:Nat)(T:List ae)(n:Nat):Prop where
 ce:∃al,st.ce mr=So ([.m tr,.i .i64 (n:Int)],mr,al)
 mrl:mr<st.next
 trl:tr<st.next
 ne:mr≠tr
 mp:∃F,bZ st tr F/\∀j,n<j->(F (dt j)).getD (.b Ff)=.b (decide (dt j∈T))
 tab:pD st
 z1:mr≠0
 z2:tr≠0
theorem Mk.keep{mr tr n:Nat}{T:List ae}{A B:List Nat}{st':St}(h:Mk st mr tr T n)(k:Kp A B st st')(h1:mr∉A)(h2:tr∉A)(h3:mr∉B)(h0:0∉A):Mk st' mr tr T n:=by have⟨al,hc⟩:=h.ce;have⟨F,hF,hj⟩:=h.mp;have⟨t,ht⟩:=h.tab;exact⟨⟨al,k.ce hc h.mrl h.mrl h1 h3⟩,Q0 h.mrl k.next,Q0 h.trl k.next,h.ne,⟨F,hF.keep k h.trl h2,hj⟩,⟨t,by rw[k.get 0 (by have:=h.mrl;omega) h0];grind⟩,h.z1,h.z2⟩
def TC(o:Option (AV×St))(st:St)(mr tr:Nat)(T:List ae)(n:Nat):Prop:=∃st',o=So (.s (dt (bY T n)),st')/\Mk st' mr tr T (bY T n)/\Kp [mr,tr] [mr] st st'
theorem Zw(h:Mk st mr tr T n)(hm:∀j,m<j->n<j):Mk (st.aG mr [.m tr,.i .i64 (m:Int)] mr) mr tr T m:=by have⟨F,hF,hj⟩:=h.mp;have⟨t,ht⟩:=h.tab;have⟨es,k,h1,h2⟩:=hF;exact⟨⟨_,dA _ _ _⟩,h.mrl,h.trl,h.ne,⟨F,⟨es,k,by rw[BI h.ne.symm];grind,h2⟩,λj hh=>hj j (hm j hh)⟩,⟨t,by rw[BI (Ne.symm h.z1)];grind⟩,h.z1,h.z2⟩
theorem HZ(h:Mk st mr tr T n)(hb:bY T n<1000000)(hN:2000000<=N):
  TC ((Tw c N).call 54 [.p mr 0] st) st mr tr T n:=by
 cases N
 ·omega
 rename_i N;rw[dV rfl func54 rfl (Q2 rfl)];unfold aJ;have hgt:=A9 T n;simp[f54,ba];generalize hL:aQ _ _ _ _=L;have lr:=gV hL 0 (bY T n-n) (λi t s=>n+i<bY T n/\ab t 0=.p mr 0/\Mk s mr tr T (n+i)/\Kp [mr,tr] [mr] st s) (λ_ _=>False) (λt s=>ab t 2=.s (dt (bY T n))/\Mk s mr tr T (bY T n)/\Kp [mr,tr] [mr] st s) (by omega)
  ⟨by omega,by simp,h,.refl _ _ _⟩
  (by
   rintro i t s hi ⟨i1,i2,iM,iK⟩;have⟨al,hc⟩:=iM.ce;have e1:wr .i64 (((n+i:Nat):Int)+1)=((n+i+1:Nat):Int):=by rw[aP (by omega) (by omega)];rfl
   have hw:=c9 hc 1 [.i .i64 ((n+i+1:Nat):Int)] (by simp) (by simp);have M1:=Zw iM (m:=n+i+1) (λj hj=>by omega);have K0:Kp [mr] [mr] s (s.aG mr [.m tr,.i .i64 ((n+i+1:Nat):Int)] mr):=.aG (by simp) (by simp);have K1:Kp [mr,tr] [mr] s (s.aG mr [.m tr,.i .i64 ((n+i+1:Nat):Int)] mr):=.aG (by simp) (by simp);simp at hw;obtain⟨s1,hs1⟩:∃s1,s.aG mr [.m tr,.i .i64 ((n+i+1:Nat):Int)] mr=s1:=⟨_,rfl⟩;rw[hs1]at M1 K1 K0;simp at hs1;have⟨al1,hc1⟩:=M1.ce;have it:=YC (c:=c) (n:=N-1) M1.tab (m:=n+i+1) (by omega);rw[show N-1+1=N by omega]at it;have il:=OE (m:=n+i+1) (by omega);have sa:=λk=>acV (P:=π) (ty:=9) (k:=k) (x:=[126,112]) (y:=nQ (n+i+1)) (by simp;omega)
   have pn:[126,112]++nQ (n+i+1)=dt (n+i+1):=rfl;rw[pn]at sa;have⟨F,hF0,hj⟩:=iM.mp;have hF:=hF0.keep K0 iM.trl (by simp[iM.ne.symm]);have lk:=hF.get mb (dt (n+i+1));have rc0:rd s mr 1 1=So [.i .i64 ((n+i:Nat):Int)]:=by rw[ai hc];rfl
   have rc1:rd s1 mr 1 1=So [.i .i64 ((n+i+1:Nat):Int)]:=by rw[ai hc1];rfl
   have rc2:rd s1 mr 0 1=So [.m tr]:=by rw[ai hc1];rfl
   simp at e1 rc0 rc1 it;by_cases hx:n+i+1=bY T n
   ·right;have hnot:=PT T n;rw[<-hx]at hnot;have⟨s2,u1,u2,u3,u4⟩:=hF.set mb (dt (n+i+1)) (.b Tt);rw[hj (n+i+1) (by omega),decide_eq_false hnot]at lk;simp[i2,rc0,rc1,rc2,e1,bN dW eY,hw,hs1,it,sa,lk,u1];rw[hx]at u2|-;have M2:Mk s2 mr tr T (bY T n):=by
     have⟨t,ht⟩:=M1.tab;refine⟨⟨al1,?_⟩,by rw[u4];exact M1.mrl,by rw[u4];exact M1.trl,M1.ne,⟨_,u2,λj hh=>?_⟩,⟨t,by rw[u3.get 0 (by have:=M1.mrl;omega) (by simp[Ne.symm M1.z2])];exact ht⟩,M1.z1,M1.z2⟩
     ·rw[<-hx];exact u3.ce hc1 M1.mrl M1.mrl (by simp[M1.ne]) (by simp)
     ·rw[adD _ _ (λe=>by have:=Ja e; omega)];exact hj j (by omega)
    exact⟨_,_,⟨rfl,rfl⟩,by simp,M2,iK.trans (K1.trans ⟨u3.next,λr h1 h2=>u3.get r h1 (λhh=>h2 (by simp at hh;simp[hh])),λg h1 h2=>u3.live g h1 (by simp)⟩)⟩
   ·left;have hin:=ZR T n (n+i+1) (by omega) (by omega);rw[hj (n+i+1) (by omega),decide_eq_true hin]at lk;simp[i2,rc0,rc1,rc2,e1,bN dW eY,hw,hs1,it,sa,lk];exact⟨_,_,⟨rfl,rfl⟩,by omega,by simp[i2],M1,iK.trans K1⟩)
  (by rintro t s ⟨i1,-⟩;omega)
 clear hL;rcases lr with ⟨t1,s1,-,hT⟩|⟨t1,s1,rfl,h1,h2,h3⟩
 ·exact hT.elim
 ·refine⟨s1,?_,h2,h3⟩;simp[h1]
set_option maxHeartbeats 8000000
theorem ach{l:List AV}(h:s.ce r=So (l,g,al))(hg:g<n):(s.shut n).ce r=So (l,g,al):=by have⟨h0,h1,h2,h3⟩:=St.lA h;grind[St.ce,aci,RG]
theorem Mk.shut{s:St}{mr tr n k:Nat}{T:List ae}(h:Mk s mr tr T k)(hn:mr<n):Mk (s.shut n) mr tr T k:=by have⟨al,hc⟩:=h.ce;exact⟨⟨al,ach hc hn⟩,h.mrl,h.trl,h.ne,h.mp,h.tab,h.z1,h.z2⟩
def jX(st:St)(mr tr:Nat)(sv:AV)(S:aU):Prop:=(sv=.mn/\∀x,S x=No)\/∃r,sv=.m r/\bZ st r (λx=>(S x).map .s)/\r<st.next/\r≠mr/\r≠tr/\r≠0
theorem jX.keep{mr tr:Nat}{sv:AV}{S:aU}{A B:List Nat}{st':St}(h:jX st mr tr sv S)(k:Kp A B st st')(hA:∀x,x∈A->x=mr\/x=tr\/st.next<=x):jX st' mr tr sv S:=by
 rcases h with h|⟨r,h1,h2,h3,h4,h5,h6⟩
 ·exact .inl h
 ·refine .inr ⟨r,h1,h2.keep k h3 (λhh=>?_),Q0 h3 k.next,h4,h5,h6⟩;grind
theorem yA:qH π 127 9 (.s []):=⟨⟨9,underlying127,underlying9⟩,by kernel_rfl⟩
theorem map_nil{k:TypeId}{c:Bool}(h:P.underlying ty=So (.map k e)):Go.Ev.binOp P ty c .eql .mn .mn=So (.b Tt):=by
 show kc P ty c .eql .mn .mn=_
 grind[kc,lC,gK,lB,AV.yD,orElse]
theorem Zt{k:TypeId}{c:Bool}(h:P.underlying ty=So (.map k e)):Go.Ev.binOp P ty c .eql (.m r) .mn=So (.b Ff):=by
 show kc P ty c .eql (.m r) .mn=_
 grind[kc,lC,gK,lB,AV.yD,orElse]
@[simp] theorem afv(t:Tr AV):ah t (.const (.map No))=.mn:=rfl
theorem xH(T:List ae):∀(l:List ae) (S:aU) (n:Nat),(aI T S l n).2.1.length=l.length
 |[],_,_=>rfl
 |x::l,S,n=>by simp[aI,xH T l]
theorem sw(T:List ae):∀(l:List ae) (S:aU) (n:Nat),dK T (aI T S l n).2.2<=dK T n+l.length/\n<=(aI T S l n).2.2
 |[],_,_=>⟨Q1 _,Q1 _⟩
 |x::l,S,n=>by have h1:=sw T l (sj S x (dt (bY T n))) (bY T n);grind[yL,A9,aI]
theorem A5{f g:ae->Option AV}(h:bZ s r f)(hg:∀x,f x=g x):bZ s r g:=by have⟨es,k,h1,h2,h3⟩:=h;exact⟨es,k,h1,h2,λx=>(h3 x).trans (hg x)⟩
def Tk(st:St)(c:Option Self)(N:Nat)(sv:AV)(S:aU):Prop:=∃s0 v0,(Tw c N).call 93 [sv] st=So (v0,s0)/\
 ((v0=.mn/\s0=st/\∀x,S x=No)\/(v0=.m st.next/\s0.next=st.next+1/\bZ s0 st.next (λx=>(S x).map .s)/\Kp [] [] st s0))
theorem VD{S:aU}(h:jX st mr tr sv S)(hN:2<=N):Tk st c N sv S:=by
 cases N
 ·omega
 rename_i N;rcases h with ⟨rfl,h⟩|⟨r,rfl,⟨es,k,h1,h2,h3⟩,-⟩
 ·refine⟨st,.mn,?_,.inl ⟨rfl,rfl,h⟩⟩;rw[VS func93 rfl (Q2 rfl) rfl];unfold aJ;simp[f93,map_nil underlying127]
 ·refine⟨_,_,VR h1,.inr ⟨rfl,rfl,⟨es,k,by rw[St.oG,if_pos rfl],h2,h3⟩,.new _ _ _⟩⟩
def T3(o:Option (AV×St))(st:St)(mr tr:Nat)(T:List ae)(R:aU×List ae×Nat):Prop :=
 ∃st' sv',o=So (.tu [sv',cJ R.2.1],st')/\jX st' mr tr sv' R.1/\Mk st' mr tr T R.2.2/\Kp [mr,tr] [mr] st st'
theorem AN{B:List Nat}{a b:St}(h:Kp [] [] a b):Kp A B a b:=⟨h.next,λr h1 _=>h.get r h1 (by simp),λg h1 _=>h.live g h1 (by simp)⟩
theorem Kp.qk{B A' B':List Nat}{a b:St}(h:Kp A B a b)(hA:∀x,x∈A->x∈A')(hB:∀x,x∈B->x∈B'):Kp A' B' a b:=⟨h.next,λr h1 h2=>h.get r h1 (λhh=>h2 (hA _ hh)),λg h1 h2=>h.live g h1 (λhh=>h2 (hB _ hh))⟩
def Cv(st s:St)(mr tr:Nat)(T:List ae)(S:aU)(l:List ae)(n lo r1:Nat)(v9:AV)(i:Nat):Prop :=
 ∃(va:AV) (acc:List ae) (Si:aU) (ni:Nat) (g:Option Nat),v9=va/\bD s lo 1 va i (acc.map .s) g/\(i=0->va=.sn)/\Mk s mr tr T ni/\Kp [mr,tr] [mr] st s/\bZ s r1 (λx=>(Si x).map .s)/\r1<s.next /\
  (aI T S l n=((aI T Si (l.drop i) ni).1,acc++(aI T Si (l.drop i) ni).2.1,(aI T Si (l.drop i) ni).2.2))/\dK T ni+(l.length-i)<=dK T n+l.length/\acc.length=i
theorem RH(h:cz v (l.map .s))(h0:l=[]->v=.sn):v=cJ l:=by
 cases l with
 |nil=>exact h0 rfl
 |cons s l=>
  rcases h with ⟨-,h⟩|h
  ·grind
  ·rw[h];simp[cJ]
def pz(st:St)(mr tr:Nat)(v:AV)(l:List ae):Prop:=cz v (l.map .s)\/∃r g al,v=.sl r 0 l.length 1 No/\st.ce r=So (l.map .s,g,al)/\r<st.next/\g<st.next/\r≠mr/\r≠tr/\g≠mr
theorem pz.sLen{mr tr:Nat}{v:AV}{l:List ae}(h:pz st mr tr v l){s:St}:Go.Ev.cP π s [43] [v]=So (.i .i64 (l.length:Int),s):=by
 rcases h with h|⟨r,g,al,rfl,-⟩
 ·exact h.sLen eL
 ·exact bg underlying43 rfl rfl
theorem pz.keep{B:List Nat}(h:pz st mr tr v l)(k:Kp A B st s)(hA:∀x,x∈A->x=mr\/x=tr)(hB:∀x,x∈B->x=mr):pz s mr tr v l:=by
 rcases h with h|⟨r,g,al,h1,h2,h3,h4,h5,h6,h7⟩
 ·exact .inl h
 ·exact .inr ⟨r,g,al,h1,k.ce h2 h3 h4 (λhh=>by grind) (λhh=>h7 (hB _ hh)),Q0 h3 k.next,Q0 h4 k.next,h5,h6,h7⟩
theorem pz.Rq(h:pz st mr tr v l){k:Nat}(hk:k<l.length):∃a,indexAddr π 43 v (.i .i64 (k:Int))=So a/\loadAt π 9 st a=So (.s l[k]):=by
 rcases h with h|⟨r,g,al,rfl,h2,-⟩
 ·have⟨a,h1,h2⟩:=h.sat eL mF hk;grind
 ·refine⟨_,wH underlying43 mP rZ _ _ _ _ _ hk,?_⟩;rw[ry mP mF,ai h2,J9,Nat.mul_one];have:cut (l.map AV.s) k 1=So [.s l[k]]:=by
   have key:∀(l:List AV) (k:Nat) (hk:k<l.length),cut l k 1=So [l[k]]:=by
    intro l;induction l with
    |nil=>grind
    |cons v l ih=>
     intro k hk;cases k with
     |zero=>simp
     |succ k=>simpa using ih k (by grind)
   grind
  simp_all
theorem KE{S:aU}(hv:pz st mr tr v l)(hl:l.length<=1000000)(hS:jX st mr tr sv S)(hM:Mk st mr tr T n)(hp:dK T n+l.length<1000000)(hN:3000000<=N):
  T3 ((Tw c N).call 51 [sv,.p mr 0,v] st) st mr tr T (aI T S l n):=by
 cases N
 ·omega
 rename_i N;have ln:=λst:St=>hv.sLen (s:=st)
 have bn:=oO T n
 suffices h:∃s1 sv' v1,aJ c N f51 (f51.body.getD .skip) [sv,.p mr 0,v] st=So (.tu [sv',v1],s1)/\Fz st.next s1 (.tu [sv',v1]) (.tu [sv',cJ (aI T S l n).2.1])/\jX s1 mr tr sv' (aI T S l n).1/\Mk s1 mr tr T (aI T S l n).2.2/\Kp [mr,tr] [mr] st s1 by
  have⟨s1,sv',v1,h1,h2,h3,h4,h5⟩:=h;refine⟨s1.shut st.next,sv',wq rfl rfl rfl rfl rfl (by decide) func51 rfl (Q2 rfl) h1 h2,?_,h4.shut hM.mrl,h5.shut (Q1 _)⟩;rcases h3 with h3|⟨r,k1,k2,k3⟩
  ·exact .inl h3
  ·exact .inr ⟨r,k1,(show bZ (s1.shut _) r _ from k2),k3⟩
 unfold aJ;cases hl0:l with
 |nil=>
  subst hl0;refine⟨st,sv,.sn,?_,?_,hS,hM,.refl _ _ _⟩
  ·simp_all[f51]
  ·rcases hS with ⟨rfl,-⟩|⟨r,rfl,-⟩
   ·exact .tu (.cons (.pure rfl) (.cons (.pure rfl) .nil))
   ·exact .tu (.cons (.map r) (.cons (.pure rfl) .nil))
 |cons x0 l0=>
  rw[<-hl0];have hne:l≠[]:=by grind
  have hlen:¬(l.length:Int)=0:=by grind
  have⟨s0,v0,q1,q2⟩:=VD (c:=c) hS (N:=N) (by omega);have m1l:=hM.mrl;have m2l:=hM.trl;have m3l:=hM.ne;have z1l:=hM.z1;rcases q2 with ⟨rfl,e0,hS0⟩|⟨rfl,hn0,hm0,hk0⟩
  ·have e1:=e0.symm;subst e1;have m1:bZ (st.new (.mp [] 0)) st.next (λx=>(S x).map .s):=A5 (.new st) λx=>by rw[hS0 x];rfl
   have k1:Kp [] [] st (st.new (.mp [] 0)):=.new _ _ _;have l1:st.next<(st.new (.mp [] 0)).next:=Q3 _;simp[f51,ln,hne,q1,map_nil underlying127,ba];obtain⟨s1,hs1⟩:∃s,st.new (.mp [] 0)=s:=⟨_,rfl⟩;obtain⟨lo,hlo⟩:∃n,s1.next=n:=⟨_,rfl⟩;obtain⟨r1,hr1⟩:∃n,st.next=n:=⟨_,rfl⟩;rw[hs1]at m1 k1 l1|-;have hlo2:st.next<=r1/\r1<lo/\lo<=r1+1:=by rw[<-hr1,<-hlo,<-hs1];exact⟨Q1 _,Q3 _,Q1 _⟩
   rw[hr1]at m1 l1|-;generalize hL:aQ _ _ _ _=L;obtain⟨t5,s5,rfl,z8,va,acc,Si,ni,g,z9,zO,z0,zM,zK,zm,zl,zE,zp,za⟩:=cD hL 0 l.length
    (λi t s=>ab t 1=.p mr 0/\ab t 8=.m r1/\ab t 21=v/\ab t 22=.i .i64 (l.length:Int)/\ab t 23=.i .i64 (i:Int)/\Cv st s mr tr T S l n lo r1 (ab t 9) i)
    (λt s=>ab t 8=.m r1/\Cv st s mr tr T S l n lo r1 (ab t 9) l.length) (by omega)
    ⟨by simp,by simp,by simp,by simp,by simp,.sn,[],S,n,No,by simp,by simpa using bD.nil s1 lo 1,λ_=>rfl,hM.keep k1 (by simp) (by simp) (by simp) (by simp),AN k1,m1,l1,by simp,by omega,rfl⟩
    (by
     rintro i t s hi ⟨i1,i8,i21,i22,i23,va,acc,Si,ni,g,z9,zO,z0,zM,zK,zm,zl,zE,zp,za⟩;have e3:(i:Int)<(l.length:Int):=by omega
     have e4:wr .i64 ((i:Int)+1)=((i+1:Nat):Int):=by rw[aP (by omega) (by omega)];rfl
     have⟨a,ix,ld⟩:=(hv.keep zK (λx hx=>by simpa using hx) (λx hx=>by simpa using hx)).Rq hi;have hpn:=yL T ni;have hbn:=oO T (bY T ni);have⟨s2,f1,f2,f3⟩:=HZ (c:=c) zM (by omega) (N:=N) (by omega);have zm2:=zm.keep f3 zl (by simp;omega);have⟨s3,u1,u2,u3,u4⟩:=zm2.set yA l[i] (.s (dt (bY T ni)));have lk:=u2.get yA l[i];rw[SC]at lk;have O3:=(zO.keep f3 (by simp;omega) (λx hx=>.inl (by simp at hx;omega))).keep u3 (by simp;omega) (by simp);have bo:=λ(t:Tr AV) (h:ah t (.tmp 34)=.s (dt (bY T ni)))=>ef (S:=Tw c N) (st:=s3) kg (cs:=[.s (dt (bY T ni))]) (by rw[h];simp) rfl
     have n3:lo<=s3.next:=by have:=zK.next;have:=f3.next;omega
     have⟨v',g',s4,w1,w2,w3,w4⟩:=O3.iW kg (new:=[.s (dt (bY T ni))]) rfl rfl (by omega) n3;have hgl:=zO.jd;have M4:Mk s4 mr tr T (bY T ni):=by refine(f2.keep u3 (by simp;omega) (by simp;omega) (by simp) (by simp;omega)).keep w3 (by simp) (by simp) (λhh=>?_) (by simp);have:=hgl mr (by simpa using hh);omega
     have mm4:=u2.keep w3 (by rw[u4];have:=f3.next;omega) (by simp);simp[i1,i8,i21,i22,i23,z9,e3,e4,ix,ld,f1,u1,lk,bo,w1];refine⟨_,_,⟨rfl,rfl⟩,by simp[i1],by simp[i8],by simp[i21],by simp[i22],by simp,v',acc++[dt (bY T ni)],sj Si l[i] (dt (bY T ni)),bY T ni,g',by simp,by simpa using w2,λh=>by omega,M4,?_,?_,?_,?_,by omega,by simp[za]⟩
     ·have k13:Kp [mr,tr,r1] [mr] s s3:=(Kp.qk f3 (by simp) (by simp)).trans (Kp.qk u3 (by simp) (by simp));have k14:Kp [mr,tr] [mr] st s3:=⟨Q8 zK.next k13.next,λr h1 h2=>(k13.get r (Q0 h1 zK.next) (by simp at h2|-;omega)).trans (zK.get r h1 h2),λg h1 h2=>(k13.live g (Q0 h1 zK.next) h2).trans (zK.live g h1 h2)⟩;exact ey k14 w3 (by simp) (λx hx=>by have:=hgl x (by simpa using hx);omega)
     ·refine A5 mm4 λx=>?_
      unfold upd sj;split<;>rfl
     ·have:=w3.next;have:=f3.next;omega
     ·rw[zE,Q7 hi];simp[aI])
    (by rintro t s ⟨i1,i8,i21,i22,i23,iA⟩;simp[i22,i23];exact⟨_,_,⟨rfl,rfl⟩,by simp[i8],by simpa using iA⟩)
   clear hL;simp[aI]at zE;have hw:∃w,Fz st.next s5 va w/\cz w (acc.map .s):=by
    have⟨w,h3,h4⟩:=zO.fz (show st.next<=lo by omega) (Q1 1) (fV.pure (kR acc));refine⟨w,h3,?_⟩;rcases h4 with ⟨rfl,h5,h6⟩|rfl
    ·exact .inl ⟨rfl,h6⟩
    ·right;rw[Q6,za]
   have⟨w,hw1,hw2⟩:=hw;have hacc:acc≠[]:=by rintro rfl;rw[hl0]at za;simp at za
   have zE1:(aI T S l n).1=Si:=by rw[zE]
   have zE2:(aI T S l n).2.1=acc:=by rw[zE]
   have zE3:(aI T S l n).2.2=ni:=by rw[zE]
   have hwe:=RH hw2 (λh=>absurd h hacc);subst hwe;refine⟨s5,.m r1,va,?_,?_,.inr ⟨r1,rfl,?_,zl,by omega,by omega,by omega⟩,?_,zK⟩
   ·simp[z8,z9]
   ·rw[zE2];rw[<-hr1];exact .tu (.cons (.map _) (.cons hw1 .nil))
   ·rw[zE1];exact zm
   ·rw[zE3];exact zM
  ·have m1:=hm0;have k1:=hk0;have l1:st.next<s0.next:=by omega
   simp[f51,ln,hne,q1,Zt underlying127,ba];obtain⟨s1,hs1⟩:∃s,s0=s:=⟨_,rfl⟩;obtain⟨lo,hlo⟩:∃n,s1.next=n:=⟨_,rfl⟩;obtain⟨r1,hr1⟩:∃n,st.next=n:=⟨_,rfl⟩;have hlo2:st.next<=r1/\r1<lo/\lo<=r1+1:=by rw[<-hr1,<-hlo,<-hs1];exact⟨Q1 _,by omega,by omega⟩
   rw[hs1]at m1 k1 l1|-;rw[hr1]at m1 l1|-;generalize hL:aQ _ _ _ _=L;obtain⟨t5,s5,rfl,z8,va,acc,Si,ni,g,z9,zO,z0,zM,zK,zm,zl,zE,zp,za⟩:=cD hL 0 l.length
    (λi t s=>ab t 1=.p mr 0/\ab t 8=.m r1/\ab t 21=v/\ab t 22=.i .i64 (l.length:Int)/\ab t 23=.i .i64 (i:Int)/\Cv st s mr tr T S l n lo r1 (ab t 9) i)
    (λt s=>ab t 8=.m r1/\Cv st s mr tr T S l n lo r1 (ab t 9) l.length) (by omega)
    ⟨by simp,by simp,by simp,by simp,by simp,.sn,[],S,n,No,by simp,by simpa using bD.nil s1 lo 1,λ_=>rfl,hM.keep k1 (by simp) (by simp) (by simp) (by simp),AN k1,m1,l1,by simp,by omega,rfl⟩
    (by
     rintro i t s hi ⟨i1,i8,i21,i22,i23,va,acc,Si,ni,g,z9,zO,z0,zM,zK,zm,zl,zE,zp,za⟩;have e3:(i:Int)<(l.length:Int):=by omega
     have e4:wr .i64 ((i:Int)+1)=((i+1:Nat):Int):=by rw[aP (by omega) (by omega)];rfl
     have⟨a,ix,ld⟩:=(hv.keep zK (λx hx=>by simpa using hx) (λx hx=>by simpa using hx)).Rq hi;have hpn:=yL T ni;have hbn:=oO T (bY T ni);have⟨s2,f1,f2,f3⟩:=HZ (c:=c) zM (by omega) (N:=N) (by omega);have zm2:=zm.keep f3 zl (by simp;omega);have⟨s3,u1,u2,u3,u4⟩:=zm2.set yA l[i] (.s (dt (bY T ni)));have lk:=u2.get yA l[i];rw[SC]at lk;have O3:=(zO.keep f3 (by simp;omega) (λx hx=>.inl (by simp at hx;omega))).keep u3 (by simp;omega) (by simp);have bo:=λ(t:Tr AV) (h:ah t (.tmp 34)=.s (dt (bY T ni)))=>ef (S:=Tw c N) (t:=t) (st:=s3) kg (x:=.tmp 34) (cs:=[.s (dt (bY T ni))]) (by rw[h];simp) rfl
     have n3:lo<=s3.next:=by have:=zK.next;have:=f3.next;omega
     have⟨v',g',s4,w1,w2,w3,w4⟩:=O3.iW kg (new:=[.s (dt (bY T ni))]) rfl rfl (by omega) n3;have hgl:=zO.jd;have M4:Mk s4 mr tr T (bY T ni):=by refine(f2.keep u3 (by simp;omega) (by simp;omega) (by simp) (by simp;omega)).keep w3 (by simp) (by simp) (λhh=>?_) (by simp);have:=hgl mr (by simpa using hh);omega
     have mm4:=u2.keep w3 (by rw[u4];have:=f3.next;omega) (by simp);simp[i1,i8,i21,i22,i23,z9,e3,e4,ix,ld,f1,u1,lk,bo,w1];refine⟨_,_,⟨rfl,rfl⟩,by simp[i1],by simp[i8],by simp[i21],by simp[i22],by simp,v',acc++[dt (bY T ni)],sj Si l[i] (dt (bY T ni)),bY T ni,g',by simp,by simpa using w2,λh=>by omega,M4,?_,?_,?_,?_,by omega,by simp[za]⟩
     ·have k13:Kp [mr,tr,r1] [mr] s s3:=(Kp.qk f3 (by simp) (by simp)).trans (Kp.qk u3 (by simp) (by simp));have k14:Kp [mr,tr] [mr] st s3:=⟨Q8 zK.next k13.next,λr h1 h2=>(k13.get r (Q0 h1 zK.next) (by simp at h2|-;omega)).trans (zK.get r h1 h2),λg h1 h2=>(k13.live g (Q0 h1 zK.next) h2).trans (zK.live g h1 h2)⟩;exact ey k14 w3 (by simp) (λx hx=>by have:=hgl x (by simpa using hx);omega)
     ·refine A5 mm4 λx=>?_
      unfold upd sj;split<;>rfl
     ·have:=w3.next;have:=f3.next;omega
     ·rw[zE,Q7 hi];simp[aI])
    (by rintro t s ⟨i1,i8,i21,i22,i23,iA⟩;simp[i22,i23];exact⟨_,_,⟨rfl,rfl⟩,by simp[i8],by simpa using iA⟩)
   clear hL;simp[aI]at zE;have hw:∃w,Fz st.next s5 va w/\cz w (acc.map .s):=by
    have⟨w,h3,h4⟩:=zO.fz (show st.next<=lo by omega) (Q1 1) (fV.pure (kR acc));refine⟨w,h3,?_⟩;rcases h4 with ⟨rfl,h5,h6⟩|rfl
    ·exact .inl ⟨rfl,h6⟩
    ·right;rw[Q6,za]
   have⟨w,hw1,hw2⟩:=hw;have hacc:acc≠[]:=by rintro rfl;rw[hl0]at za;simp at za
   have zE1:(aI T S l n).1=Si:=by rw[zE]
   have zE2:(aI T S l n).2.1=acc:=by rw[zE]
   have zE3:(aI T S l n).2.2=ni:=by rw[zE]
   have hwe:=RH hw2 (λh=>absurd h hacc);subst hwe;refine⟨s5,.m r1,va,?_,?_,.inr ⟨r1,rfl,?_,zl,by omega,by omega,by omega⟩,?_,zK⟩
   ·simp[z8,z9]
   ·rw[zE2];rw[<-hr1];exact .tu (.cons (.map _) (.cons hw1 .nil))
   ·rw[zE1];exact zm
   ·rw[zE3];exact zM
theorem abX:eC π 47=true:=by kernel_rfl
theorem SY:eC π 49=true:=by kernel_rfl
theorem ad4:eC π 133=true:=by kernel_rfl
def jB:List AV:=[.i .i64 0,.s [],.i .i64 0,.sn,.sn,.sn,.sn]
theorem xL:bt π 47=So jB:=by kernel_rfl
def mX:List AV:=[.s [],.i .i64 0,.s [],.i .i64 0,.sn,.sn,.sn,.sn]
theorem xM:bt π 49=So mX:=by kernel_rfl
def zu:List AV:=[.i .i64 0,.s [],.i .i64 0,.sn,.i .i64 0,.s [],.i .i64 0,.sn,.sn,.sn,.sn]
theorem KH:bt π 133=So zu:=by kernel_rfl
theorem I5:∃fs,π.underlying 47=So (.struct fs)/\gP π fs 0=So (0,1)/\gP π fs 1=So (1,1)/\gP π fs 2=So (2,1)/\gP π fs 4=So (4,1)/\gP π fs 5=So (5,1):=
 ⟨_,underlying47,by kernel_rfl,by kernel_rfl,by kernel_rfl,by kernel_rfl,by kernel_rfl⟩
theorem aa6:∃fs,π.underlying 49=So (.struct fs)/\gP π fs 0=So (0,1)/\gP π fs 1=So (1,7):=⟨_,underlying49,by kernel_rfl,by kernel_rfl⟩
theorem aa5:∃fs,π.underlying 133=So (.struct fs)/\gP π fs 0=So (0,1)/\gP π fs 1=So (1,1)/\gP π fs 2=So (2,1)/\gP π fs 3=So (3,1)/\gP π fs 4=So (4,7):=
 ⟨_,underlying133,by kernel_rfl,by kernel_rfl,by kernel_rfl,by kernel_rfl,by kernel_rfl⟩
section
variable {S:Self}
theorem UU{x:Operand}(hx:ah t x=.i .i64 k)(hy:ah t y=.s nm)(hz:ah t z=.i .i64 num):cO (.build 47 #[(0,x),(1,y),(2,z)]) π S t st=So (.ag [.i .i64 k,.s nm,.i .i64 num,.sn,.sn,.sn,.sn],st):=by
 obtain⟨fs,h1,h2,h3,h4,-⟩:=I5;show @Bool.rec (λ_=>aD) No (cI π 47 [(0,ah t x),(1,ah t y),(2,ah t z)] st) (eC π 47)=_
 rw[abX,hx,hy,hz];show cI π 47 _ st=_
 unfold cI;rw[h1];simp only[xL,jB,jc,fill,h2,h3,h4,CZ,C0];rfl
theorem UW{x:Operand}(hx:ah t x=.i .i64 k)(hy:ah t y=.s nm):cO (.build 47 #[(0,x),(1,y)]) π S t st=So (.ag [.i .i64 k,.s nm,.i .i64 0,.sn,.sn,.sn,.sn],st):=by
 obtain⟨fs,h1,h2,h3,-⟩:=I5;show @Bool.rec (λ_=>aD) No (cI π 47 [(0,ah t x),(1,ah t y)] st) (eC π 47)=_
 rw[abX,hx,hy];show cI π 47 _ st=_
 unfold cI;rw[h1];simp only[xL,jB,jc,fill,h2,h3,CZ,C0];rfl
theorem UV{x:Operand}{b a:AV}(hx:ah t x=.i .i64 k)(hy:ah t y=b)(hz:ah t z=a)(hb:b.cells=So [b])(ha:a.cells=So [a]):cO (.build 47 #[(0,x),(4,y),(5,z)]) π S t st=So (.ag [.i .i64 k,.s [],.i .i64 0,.sn,b,a,.sn],st):=by
 have⟨fs,h1,h2,h3,h4,h5,h6⟩:=I5;show @Bool.rec (λ_=>aD) No (cI π 47 [(0,ah t x),(4,ah t y),(5,ah t z)] st) (eC π 47)=_
 rw[abX,hx,hy,hz];show cI π 47 _ st=_
 unfold cI;rw[h1];simp only[xL,jB,jc,fill,h2,h5,h6,CZ,hb,ha];rfl
theorem OS(h:cl.length=7):∃a b c d e f g,cl=[a,b,c,d,e,f,g]:=by
 match cl,h with
 |[a,b,c,d,e,f,g],_=>grind
theorem GV{x:Operand}(hx:ah t x=.s nm)(hy:ah t y=.ag cl)(hl:cl.length=7):cO (.build 49 #[(0,x),(1,y)]) π S t st=So (.ag (.s nm::cl),st):=by
 have⟨fs,h1,h2,h3⟩:=aa6;show @Bool.rec (λ_=>aD) No (cI π 49 [(0,ah t x),(1,ah t y)] st) (eC π 49)=_
 rw[SY,hx,hy];show cI π 49 _ st=_
 unfold cI;rw[h1];obtain⟨a,b,c,d,e,f,g,rfl⟩:=OS hl;simp only[xM,mX,jc,fill,h2,h3,C0,gh];rfl
theorem US{x v w:Operand}{m:Int}{vs:AV}(hx:ah t x=.i .i64 k)(hy:ah t y=.s nm)(hz:ah t z=.i .i64 m)(hv:ah t v=vs)(hw:ah t w=.ag cl)(hl:cl.length=7)(hvs:vs.cells=So [vs]):
  cO (.build 133 #[(0,x),(1,y),(2,z),(3,v),(4,w)]) π S t st=So (.ag (.i .i64 k::.s nm::.i .i64 m::vs::cl),st):=by
 have⟨fs,h1,h2,h3,h4,h5,h6⟩:=aa5;show @Bool.rec (λ_=>aD) No (cI π 133 [(0,ah t x),(1,ah t y),(2,ah t z),(3,ah t v),(4,ah t w)] st) (eC π 133)=_
 rw[ad4,hx,hy,hz,hv,hw];show cI π 133 _ st=_
 unfold cI;rw[h1];obtain⟨a,b,c,d,e,f,g,rfl⟩:=OS hl;simp only[KH,zu,jc,fill,h2,h3,h4,h5,h6,CZ,C0,gh,hvs];rfl
end
mutual
def _root_.Go.Ev.Ex.wt:Ex->Nat
 |.mk _ _ _ ps b a l=>(aL ps).length+(b.len+b.wt)+(a.len+a.wt)+l.kD
def _root_.Go.Ev.aa.wt:aa->Nat
 |.nil _=>0
 |.cons _ x l=>x.wt+l.wt
def _root_.Go.Ev.aa.kD:aa->Nat
 |.nil _=>0
 |.cons p x l=>(aM (p,x)).vs.length+x.wt+l.kD
end
noncomputable def ev:Code:=f18.body.getD .skip
structure fB(st s:St)(t:Tr AV)(mr tr rE rR rO:Nat)(T:List ae)(n:Nat)(sv:AV)(S:aU)(x:Ex)(oc:List AV):Prop where
 t0:ab t 0=.p mr 0
 t2:ab t 2=sv
 t4:ab t 4=.p rE 0
 t6:ab t 6=.p rR 0
 t7:ab t 7=.p rO 0
 ce:∃al,s.ce rE=So (x.cells,rE,al)
 cr:∃al,s.ce rR=So (jB,rR,al)
 co:∃al,s.ce rO=So (oc,rO,al)
 lo:st.next<=rE/\rE<rR/\rR<rO/\rO<s.next
 M:Mk s mr tr T n
 V:jX s mr tr sv S
 K:Kp [mr,tr] [mr] st s
 ml:mr<st.next/\tr<st.next
theorem Hb{l:List AV}(h:s.ce r=So (l,g,al)):s.get r=So (.ce l g):=(St.lA h).2.2.2
theorem fB.keep{S S':aU}(h:fB st s t mr tr rE rR rO T n sv S x oc)(k:Kp [mr,tr,rO] [mr,rO] s s')
  (h0:ab t' 0=.p mr 0) (h2:ab t' 2=sv') (h4:ab t' 4=.p rE 0) (h6:ab t' 6=.p rR 0) (h7:ab t' 7=.p rO 0) (hc:∃al,s'.ce rO=So (oc',rO,al)) (hM:Mk s' mr tr T n') (hV:jX s' mr tr sv' S'):fB st s' t' mr tr rE rR rO T n' sv' S' x oc':=by
 have⟨l1,l2,l3,l4⟩:=h.lo;have⟨m1,m2⟩:=h.ml;have⟨a1,c1⟩:=h.ce;have⟨a2,c2⟩:=h.cr;have hn:=k.next;refine⟨h0,h2,h4,h6,h7,⟨a1,k.ce c1 (by omega) (by omega) (by simp;omega) (by simp;omega)⟩,⟨a2,k.ce c2 (by omega) (by omega) (by simp;omega) (by simp;omega)⟩,hc,⟨l1,l2,l3,by omega⟩,hM,hV,?_,h.ml⟩;refine⟨Q8 h.K.next hn,λr h1 h2=>(k.get r (Q0 h1 h.K.next) ?_).trans (h.K.get r h1 h2),λg h1 h2=>(k.live g (Q0 h1 h.K.next) ?_).trans (h.K.live g h1 h2)⟩
 ·simp at h2|-;omega
 ·simp at h2|-;omega
theorem jX.DY{S:aU}{B:List Nat}{l:List AV}(h:jX s mr tr sv S)(k:Kp [mr,tr,rO] B s s')(hc:s.ce rO=So (l,g,al)):jX s' mr tr sv S:=by
 rcases h with h|⟨r,h1,⟨es,q,h2,h2'⟩,h3,h4,h5,h6⟩
 ·exact .inl h
 ·refine .inr ⟨r,h1,⟨es,q,?_,h2'⟩,Q0 h3 k.next,h4,h5,h6⟩;rw[k.get r h3 ?_]
  ·exact h2
  ·have:r≠rO:=by rintro rfl;rw[Hb hc]at h2;cases h2
   simp[h4,h5,this]
theorem WV{S:aU}(k:Int)(nm:ae)(num:Int)(ps:AV)(b a l:aa)(hM:Mk st mr tr T n)(hS:jX st mr tr sv S):
  ∃t s rE rR rO,ao ev ⟨π,Tw c N,Ff,f18.ntmps,N⟩ (tmpsOf [.p mr 0,.ag (Ex.mk k nm num ps b a l).cells,sv] 0 .lf) st=bW (ao (au (aw (aw ev))) ⟨π,Tw c N,Ff,f18.ntmps,N⟩ t s) (ao (aw (aw (aw ev))) ⟨π,Tw c N,Ff,f18.ntmps,N⟩)/\
   fB st s t mr tr rE rR rO T n sv S (.mk k nm num ps b a l) [.i .i64 k,.s nm,.i .i64 num,.sn,.sn,.sn,.sn]:=by
 have c1:=bq (st:=st) (Ex.mk k nm num ps b a l).cells;have k1:=Kp.aj (st:=st) [] [] (Ex.mk k nm num ps b a l).cells;obtain⟨s1,hs1⟩:∃s,st.aj (Ex.mk k nm num ps b a l).cells=s:=⟨_,rfl⟩;have n1:s1.next=st.next+1:=by rw[<-hs1];rfl
 rw[hs1]at c1 k1;have c2:=bq (st:=s1) jB;have k2:=Kp.aj (st:=s1) [] [] jB;obtain⟨s2,hs2⟩:∃s,s1.aj jB=s:=⟨_,rfl⟩;have n2:s2.next=s1.next+1:=by rw[<-hs2];rfl
 rw[hs2]at c2 k2;have⟨s3,u1,u2,u3,u4⟩:=bJ (s:=s2) (z:=jB) (cells:=[.i .i64 k,.s nm,.i .i64 num,.sn,.sn,.sn,.sn]) rfl rfl;have e2:=ju (k2.ce c1 (by omega) (by omega) (by simp) (by simp));have r2:rd s2 st.next 2 1=So [.i .i64 num]:=by rw[ai (k2.ce c1 (by omega) (by omega) (by simp) (by simp))];rfl
 have r0:=e2.kd;have r1:=e2.nm;have bo:=λ(t:Tr AV) (h1:ah t (.tmp 25)=.i .i64 k) (h2:ah t (.tmp 27)=.s nm) (h3:ah t (.tmp 29)=.i .i64 num)=>UU (S:=Tw c N) (st:=s2) h1 h2 h3
 have cl:(AV.ag (Ex.mk k nm num ps b a l).cells).cells=So (Ex.mk k nm num ps b a l).cells:=gh _;generalize hcl:(Ex.mk k nm num ps b a l).cells=cells at*;rw[show ao ev ⟨π,Tw c N,Ff,f18.ntmps,N⟩ (tmpsOf [.p mr 0,.ag cells,sv] 0 .lf) st=bW (ao (au ev) ⟨π,Tw c N,Ff,f18.ntmps,N⟩ (tmpsOf [.p mr 0,.ag cells,sv] 0 .lf) st) (λt s=>bW (ao (au (aw ev)) ⟨π,Tw c N,Ff,f18.ntmps,N⟩ t s)
  (λt s=>bW (ao (au (aw (aw ev))) ⟨π,Tw c N,Ff,f18.ntmps,N⟩ t s) (ao (aw (aw (aw ev))) ⟨π,Tw c N,Ff,f18.ntmps,N⟩))) from rfl]
 have a0:∃t,ao (au ev) ⟨π,Tw c N,Ff,f18.ntmps,N⟩ (tmpsOf [.p mr 0,.ag cells,sv] 0 .lf) st=.nx t s2/\ab t 0=.p mr 0/\ab t 2=sv/\ab t 4=.p st.next 0/\ab t 6=.p s1.next 0:=by simp[ev,au,f18,aB,xL,hs1,hs2]
 have⟨t1,a0,b0,b2,b4,b6⟩:=a0;have a1:∃t,ao (au (aw ev)) ⟨π,Tw c N,Ff,f18.ntmps,N⟩ t1 s2=.nx t s3/\ab t 0=.p mr 0/\ab t 2=sv/\ab t 4=.p st.next 0/\ab t 6=.p s1.next 0/\ab t 7=.p s2.next 0:=by simp[ev,au,aw,f18,b0,b2,b4,b6,r0,r1,r2,bo,aB,xL,aC cM aX,u1]
 have⟨t2,a1,d0,d2,d4,d6,d7⟩:=a1;have c1':=(k2.trans u3).ce c1 (by omega) (by omega) (by simp) (by simp);have kk:Kp [] [] st s3:=(k1.trans k2).trans u3;refine⟨t2,s3,st.next,s1.next,s2.next,?_,⟨d0,d2,d4,d6,d7,⟨[st.next],by rw[hcl];exact c1'⟩,⟨_,u3.ce c2 (by omega) (by omega) (by simp) (by simp)⟩,⟨_,u2⟩,⟨Q1 _,by omega,by omega,u4⟩,hM.keep kk (by simp) (by simp) (by simp) (by simp),hS.keep kk (by simp),AN kk,hM.mrl,hM.trl⟩⟩;rw[a0,dN,a1,dN]
theorem DW(h:nh v):cz v ((aL v).map .s):=h.sl.1
theorem WW{S:aU}{l:aa}(h:fB st s t mr tr rE rR rO T n sv S (.mk 1 nm num ps b a l) [.i .i64 1,.s nm,.i .i64 num,.sn,.sn,.sn,.sn]):
  ∃t' s',ao (au (aw (aw ev))) ⟨π,Tw c N,Ff,f18.ntmps,N⟩ t s=.rt t' s'/\ab t' 6=.p rR 0/\(∃al,s'.ce rR=So ([.i .i64 1,.s ((S nm).getD nm),.i .i64 num,.sn,.sn,.sn,.sn],rR,al))/\Kp [mr,tr] [mr] st s'/\Mk s' mr tr T n:=by
 have⟨l1,l2,l3,l4⟩:=h.lo;have⟨m1,m2⟩:=h.ml;have⟨al,ce⟩:=h.ce;have⟨al2,cr⟩:=h.cr;have⟨al3,co⟩:=h.co;have r0:=(ju ce).kd;have r1:=(ju ce).nm;have fin:∀(s1:St) (y:ae),(∃al,s1.ce rO=So ([.i .i64 1,.s y,.i .i64 num,.sn,.sn,.sn,.sn],rO,al))->Kp [rO] [rO] s s1->∃s',wt s1 rR 0 [.i .i64 1,.s y,.i .i64 num,.sn,.sn,.sn,.sn]=So s'/\(∃al,s'.ce rR=So ([.i .i64 1,.s y,.i .i64 num,.sn,.sn,.sn,.sn],rR,al))/\Kp [mr,tr] [mr] st s'/\Mk s' mr tr T n:=by intro s1 y hy k1;have cr1:=k1.ce cr (by omega) (by omega) (by simp;omega) (by simp;omega);have hw:=c9 cr1 0 [.i .i64 1,.s y,.i .i64 num,.sn,.sn,.sn,.sn] (by simp[jB]) (by simp);rw[pY,nU (by simp[jB])]at hw;have k2:Kp [rR] [rR] s1 (s1.aG rR [.i .i64 1,.s y,.i .i64 num,.sn,.sn,.sn,.sn] rR):=.aG (by simp) (by simp);refine⟨_,hw,⟨_,dA _ _ _⟩,?_,(h.M.keep k1 (by simp;omega) (by simp;omega) (by simp;omega) (by simp;omega)).keep k2 (by simp;omega) (by simp;omega) (by simp;omega) (by simp;omega)⟩;exact ey (ey h.K k1 (by simp;omega) (by simp;omega)) k2 (by simp;omega) (by simp;omega)
 have lk:lookup π 127 s sv (.s nm) Tt=So (.tu [((S nm).map AV.s).getD (.s []),.b (S nm).isSome]):=by
  rcases h.V with ⟨rfl,h1⟩|⟨r,rfl,h1,-⟩
  ·rw[ZL yA,h1];rfl
  ·rw[h1.ti yA];cases S nm<;>rfl
 cases hS:S nm with
 |none=>
  rw[hS]at lk;simp at lk;have⟨s',f1,f2,f3,f4⟩:=fin s nm ⟨_,co⟩ (.refl _ _ _);have ro:rd s rO 0 7=So [.i .i64 1,.s nm,.i .i64 num,.sn,.sn,.sn,.sn]:=by rw[ai co];rfl
  have key:∃t',ao (au (aw (aw ev))) ⟨π,Tw c N,Ff,f18.ntmps,N⟩ t s=.rt t' s'/\ab t' 6=.p rR 0:=by simp[ev,au,aw,f18,h.t2,h.t4,h.t6,h.t7,r0,r1,lk,aX,ro,aC cM aX,f1]
  have⟨t',k1,k2⟩:=key;exact⟨t',s',k1,k2,f2,f3,f4⟩
 |some y=>
  rw[hS]at lk;simp at lk;have hw:=c9 co 1 [.s y] (by simp) (by simp);simp at hw;have co1:(s.aG rO [.i .i64 1,.s y,.i .i64 num,.sn,.sn,.sn,.sn] rO).ce rO=So ([.i .i64 1,.s y,.i .i64 num,.sn,.sn,.sn,.sn],rO,[rO]):=dA _ _ _;have k1:Kp [rO] [rO] s (s.aG rO [.i .i64 1,.s y,.i .i64 num,.sn,.sn,.sn,.sn] rO):=.aG (by simp) (by simp);obtain⟨s1,hs1⟩:∃s1,s.aG rO [.i .i64 1,.s y,.i .i64 num,.sn,.sn,.sn,.sn] rO=s1:=⟨_,rfl⟩;rw[hs1]at k1 hw co1;have⟨s',f1,f2,f3,f4⟩:=fin s1 y ⟨_,co1⟩ k1;have ro:rd s1 rO 0 7=So [.i .i64 1,.s y,.i .i64 num,.sn,.sn,.sn,.sn]:=by rw[ai co1];rfl
  have key:∃t',ao (au (aw (aw ev))) ⟨π,Tw c N,Ff,f18.ntmps,N⟩ t s=.rt t' s'/\ab t' 6=.p rR 0:=by simp[ev,au,aw,f18,h.t2,h.t4,h.t6,h.t7,r0,r1,lk,bN mP rZ,hw,aX,ro,aC cM aX,f1]
  have⟨t',k1,k2⟩:=key;exact⟨t',s',k1,k2,f2,f3,f4⟩
theorem WS{S:aU}(hk:k≠1){l:aa}(h:fB st s t mr tr rE rR rO T n sv S (.mk k nm num ps b a l) oc):
  ∃t',ao (au (aw (aw ev))) ⟨π,Tw c N,Ff,f18.ntmps,N⟩ t s=.nx t' s/\fB st s t' mr tr rE rR rO T n sv S (.mk k nm num ps b a l) oc:=by
 have⟨al,ce⟩:=h.ce;have r0:=(ju ce).kd;have key:∃t',ao (au (aw (aw ev))) ⟨π,Tw c N,Ff,f18.ntmps,N⟩ t s=.nx t' s/\ab t' 0=.p mr 0/\ab t' 2=sv/\ab t' 4=.p rE 0/\ab t' 6=.p rR 0/\ab t' 7=.p rO 0:=by simp[ev,au,aw,f18,h.t0,h.t2,h.t4,h.t6,h.t7,r0,hk]
 have⟨t',k1,k2,k3,k4,k5,k6⟩:=key;exact⟨t',k1,k2,k3,k4,k5,k6,h.ce,h.cr,h.co,h.lo,h.M,h.V,h.K,h.ml⟩
noncomputable def cH:Nat->Code
 |0=>ev
 |k+1=>aw (cH k)
theorem BM(l:List ae):(cJ l).cells=So [cJ l]/\bR (cJ l)=true:=by cases l<;>simp[cJ]
theorem Fw(l:List ae):cz (cJ l) (l.map .s):=by
 cases l with
 |nil=>exact .inl ⟨rfl,rfl⟩
 |cons s l=>right;simp[cJ]
theorem aaK{S:aU}(h:fB st s t mr tr rE rR rO T n sv S x oc)(hi:i<oc.length)(hv:bR v=Tt):
  ∃s',wt s rO i [v]=So s'/\(∃al,s'.ce rO=So (oc.set i v,rO,al))/\Kp [rO] [rO] s s'/\Mk s' mr tr T n/\jX s' mr tr sv S:=by
 have⟨l1,l2,l3,l4⟩:=h.lo;have⟨m1,m2⟩:=h.ml;have⟨al3,co⟩:=h.co;have hw:=c9 co i [v] (by simp;omega) (by simp[hv]);rw[Bk]at hw;have k1:Kp [rO] [rO] s (s.aG rO (oc.set i v) rO):=.aG (by simp) (by simp);exact⟨_,hw,⟨_,dA _ _ _⟩,k1,h.M.keep k1 (by simp;omega) (by simp;omega) (by simp;omega) (by simp;omega),h.V.DY (Kp.qk k1 (by simp) (λx hx=>hx)) co⟩
theorem WT{S:aU}{l:aa}(hps:nh ps)(hl:(aL ps).length<=1000000)(hp:dK T n+(aL ps).length<1000000)
  (h:fB st s t mr tr rE rR rO T n sv S (.mk k nm num ps b a l) [.i .i64 k,.s nm,.i .i64 num,.sn,.sn,.sn,.sn]) (hN:3000000<=N):
  ∃t' s' sv',ao (au (cH 3)) ⟨π,Tw c N,Ff,f18.ntmps,N⟩ t s=.nx t' s'/\fB st s' t' mr tr rE rR rO T (aI T S (aL ps) n).2.2 sv' (aI T S (aL ps) n).1 (.mk k nm num ps b a l) [.i .i64 k,.s nm,.i .i64 num,cJ (aI T S (aL ps) n).2.1,.sn,.sn,.sn]:=by
 have⟨l1,l2,l3,l4⟩:=h.lo;have⟨m1,m2⟩:=h.ml;have⟨al,ce⟩:=h.ce;have r3:rd s rE 3 1=So [ps]:=by rw[ai ce];rfl
 have⟨s1,sv1,f1,f2,f3,f4⟩:=KE (c:=c) (.inl (DW hps)) hl h.V h.M hp hN;have h1:fB st s1 (((t.set 2 (So sv1)))) mr tr rE rR rO T (aI T S (aL ps) n).2.2 sv1 (aI T S (aL ps) n).1 (.mk k nm num ps b a l) [.i .i64 k,.s nm,.i .i64 num,.sn,.sn,.sn,.sn]:=by have⟨al3,co⟩:=h.co;exact h.keep (Kp.qk f4 (by simp) (by simp)) (by simp[h.t0]) (by simp) (by simp[h.t4]) (by simp[h.t6]) (by simp[h.t7]) ⟨_,f4.ce co (by omega) (by omega) (by simp;omega) (by simp;omega)⟩ f3 f2
 have⟨s2,w1,w2,w3,w4,w5⟩:=aaK h1 (i:=3) (v:=cJ (aI T S (aL ps) n).2.1) (by simp) (BM _).2;have sc:=(BM (aI T S (aL ps) n).2.1).1;have key:∃t',ao (au (cH 3)) ⟨π,Tw c N,Ff,f18.ntmps,N⟩ t s=.nx t' s2/\ab t' 0=.p mr 0/\ab t' 2=sv1/\ab t' 4=.p rE 0/\ab t' 6=.p rR 0/\ab t' 7=.p rO 0:=by simp[cH,ev,au,aw,f18,h.t0,h.t2,h.t4,h.t6,h.t7,r3,f1,bN Yp ac6,sc,w1]
 have⟨t',k1,k2,k3,k4,k5,k6⟩:=key;exact⟨t',s2,sv1,k1,h1.keep (Kp.qk w3 (by simp) (by simp)) k2 k3 k4 k5 k6 (by simpa using w2) w4 w5⟩
theorem WQ{S:aU}(h:fB st s t mr tr rE rR rO T n sv S x oc):
  ∃t',ao (au (cH 4)) ⟨π,Tw c N,Ff,f18.ntmps,N⟩ t s=.nx t' s/\ab t' 10=.sn/\fB st s t' mr tr rE rR rO T n sv S x oc:=by
 have key:∃t',ao (au (cH 4)) ⟨π,Tw c N,Ff,f18.ntmps,N⟩ t s=.nx t' s/\ab t' 10=.sn/\ab t' 0=.p mr 0/\ab t' 2=sv/\ab t' 4=.p rE 0/\ab t' 6=.p rR 0/\ab t' 7=.p rO 0:=by simp[cH,ev,au,aw,f18,h.t0,h.t2,h.t4,h.t6,h.t7]
 have⟨t',k1,k0,k2,k3,k4,k5,k6⟩:=key;exact⟨t',k1,k0,k2,k3,k4,k5,k6,h.ce,h.cr,h.co,h.lo,h.M,h.V,h.K,h.ml⟩
theorem WR{S:aU}(h:fB st s t mr tr rE rR rO T n sv S x oc):
  ∃t',ao (au (cH 8)) ⟨π,Tw c N,Ff,f18.ntmps,N⟩ t s=.nx t' s/\ab t' 15=.sn/\fB st s t' mr tr rE rR rO T n sv S x oc:=by
 have key:∃t',ao (au (cH 8)) ⟨π,Tw c N,Ff,f18.ntmps,N⟩ t s=.nx t' s/\ab t' 15=.sn/\ab t' 0=.p mr 0/\ab t' 2=sv/\ab t' 4=.p rE 0/\ab t' 6=.p rR 0/\ab t' 7=.p rO 0:=by simp[cH,ev,au,aw,f18,h.t0,h.t2,h.t4,h.t6,h.t7]
 have⟨t',k1,k0,k2,k3,k4,k5,k6⟩:=key;exact⟨t',k1,k0,k2,k3,k4,k5,k6,h.ce,h.cr,h.co,h.lo,h.M,h.V,h.K,h.ml⟩
def fI(s:St)(lo z:Nat)(v:AV)(n:Nat)(cs:List AV):Prop:=∃g,(n=0->v=.sn)/\bD s lo z v n cs g
theorem acU{lo:Nat}{g:Option Nat}(h0:n=0->v=.sn)(h:bD s lo 1 v n (l.map .s) g)(hn:n=l.length:=by rfl)(h1:mr<lo/\tr<lo:=by omega):pz s mr tr v l:=by
 subst hn;rcases h with ⟨rfl,h2,h3,-⟩|⟨r,rfl,h2,h3,-⟩|⟨r,f,al,-,rfl,h2,h3,h4,h5,h6,h7,h8⟩
 ·exact .inl (.inl ⟨rfl,h3⟩)
 ·exact absurd (h0 h2) (by simp)
 ·exact .inr ⟨r,f,al,rfl,h2,h7,h8,by omega,by omega,by omega⟩
theorem WO{S:aU}{l:aa}(hb:b.Ty 1)(hl:b.len<=1000000)
  (h:fB st s t mr tr rE rR rO T n sv S (.mk k nm num ps b a l) oc) (h10:ab t 10=.sn) (hN:3000000<=N):
  ∃t' s',ao (au (cH 5)) ⟨π,Tw c N,Ff,f18.ntmps,N⟩ t s=.nx t' s'/\fB st s' t' mr tr rE rR rO T n sv S (.mk k nm num ps b a l) oc/\pz s' mr tr (ab t' 10) b.names:=by
 obtain⟨l1,l2,l3,l4⟩:=h.lo;obtain⟨m1,m2⟩:=h.ml;obtain⟨al,ce⟩:=h.ce;have rb:=(ju ce).b;have ln:=λst:St=>bg (st:=st) underlying23 (b.bU 8) (b.bV 8)
 suffices hh:∃t' s',ao (au (cH 5)) ⟨π,Tw c N,Ff,f18.ntmps,N⟩ t s=.nx t' s'/\(ab t' 0=.p mr 0/\ab t' 2=sv/\ab t' 4=.p rE 0/\ab t' 6=.p rR 0/\ab t' 7=.p rO 0)/\fI s' s.next 1 (ab t' 10) b.names.length (b.names.map .s)/\Kp [] [] s s' by obtain⟨t',s',q1,⟨q2,q3,q4,q5,q6⟩,⟨g,q9,q7⟩,q8⟩:=hh;obtain⟨al3,co⟩:=h.co;refine⟨t',s',q1,h.keep (AN q8) q2 q3 q4 q5 q6 ⟨_,q8.ce co (by omega) (by omega) (by simp) (by simp)⟩ (h.M.keep q8 (by simp) (by simp) (by simp) (by simp)) (h.V.keep q8 (by simp)),acU q9 q7 rfl (by omega)⟩
 simp[cH,ev,au,aw,f18,h.t4,rb,ln,ba];generalize hL:aQ _ _ _ _=L;obtain⟨t1,s1,rfl,p0,p2,p4,p6,p7,pO,pK⟩:=cD hL 0 b.list.length
  (λi t' s'=>ab t' 0=.p mr 0/\ab t' 2=sv/\ab t' 4=.p rE 0/\ab t' 6=.p rR 0/\ab t' 7=.p rO 0/\ab t' 55=b.slice 8/\ab t' 56=.i .i64 (b.len:Int)/\ab t' 57=.i .i64 (i:Int)/\fI s' s.next 1 (ab t' 10) i ((b.names.take i).map .s)/\Kp [] [] s s')
  (λt' s'=>ab t' 0=.p mr 0/\ab t' 2=sv/\ab t' 4=.p rE 0/\ab t' 6=.p rR 0/\ab t' 7=.p rO 0/\fI s' s.next 1 (ab t' 10) b.names.length (b.names.map .s)/\Kp [] [] s s') (by rw[<-aa.aF];omega)
  ⟨by simp[h.t0],by simp[h.t2],by simp[h.t4],by simp[h.t6],by simp[h.t7],by simp,by simp,by simp,⟨No,λ_=>by simp[h10],by simpa[h10]using bD.nil s s.next 1⟩,.refl _ _ _⟩
  (by
   rintro i t' s' hi ⟨i0,i2,i4,i6,i7,i55,i56,i57,⟨g,iZ,iO⟩,iK⟩;obtain⟨va,i10⟩:∃va,ab t' 10=va:=⟨_,rfl⟩;rw[i10]at iO;have hil:i<b.len:=by rw[aa.aF];exact hi
   have hin:i<b.names.length:=by rw[fg];exact hil
   have e3:(i:Int)<(b.len:Int):=by omega
   have e4:wr .i64 ((i:Int)+1)=((i+1:Nat):Int):=by rw[aP (by omega) (by omega)];rfl
   obtain⟨r,r1,r2⟩:=eK hb.pre (show fH 1+7=8 from rfl) hi;have ix:=dP underlying23 dc cK b.flat b.len i hil;rw[<-aa.dR hil,r1,<-V2]at ix;have hT:=aa.dC hb _ (Q4 hi);have hpr:=gW hT.1;have hnm:b.names[i]=fo (b.list[i].1.headD .un):=by simp[aa.names,eD]
   rw[<-hnm]at hpr;have hce:(b.list[i].1++b.list[i].2.cells).length=8:=by rw[V3,r2,Ex.bp];rfl
   have hsc:bH (b.list[i].1++b.list[i].2.cells)=true:=jk hT.1.sc (Ex.eU hT.2.wf);have ld:=λst:St=>ei (st:=st) (r:=r) dc np cK hce
   have hhd:cut (b.list[i].1++b.list[i].2.cells) 0 1=So [.s b.names[i]]:=by rw[hpr];rfl
   generalize b.list[i].1++b.list[i].2.cells=cl at*;obtain⟨s2,u1,u2,u3,u4⟩:=bJ (z:=oe) hce hsc;have iO2:=iO.keep u3 (by simp) (by simp);have bo:=λ(t:Tr AV) (h:ah t (.tmp 63)=.s b.names[i])=>ef (S:=Tw c N) (t:=t) (st:=s2) kg (x:=.tmp 63) (cs:=[.s b.names[i]]) (by rw[h];simp) rfl
   obtain⟨v',g',s3,w1,w2,w3,w4⟩:=iO2.iW kg (new:=[.s b.names[i]]) rfl rfl (by omega) (by have:=iK.next;have:=u3.next;omega);simp[i10,i55,i56,i57,e3,e4,ix,ld,aB,qp,aC dc cK,hce,u1,ai u2,hhd,bo,w1];have hgl:=iO.jd;refine⟨_,_,⟨rfl,rfl⟩,by simp[i0],by simp[i2],by simp[i4],by simp[i6],by simp[i7],by simp[i55],by simp[i56],by simp,⟨g',λhh=>by omega,?_⟩,ey (iK.trans u3) w3 (by simp) (λx hx=>(hgl x (by simpa using hx)).1)⟩;have w5:bD s3 s.next 1 v' (i+1) ((b.names.take (i+1)).map .s) g':=by rw[<-Z0 hin,J8];exact w2
   simpa using w5)
  (by rintro t' s' ⟨i0,i2,i4,i6,i7,i55,i56,i57,iG,iK⟩;simp[i56,i57,aa.aF];refine⟨_,_,⟨rfl,rfl⟩,by simp[i0],by simp[i2],by simp[i4],by simp[i6],by simp[i7],?_,iK⟩;rw[<-aa.aF,<-fg,List.take_length]at iG;simpa using iG)
 clear hL;exact⟨t1,s1,by simp,⟨p0,p2,p4,p6,p7⟩,pO,pK⟩
theorem WM{S:aU}(hl:l.length<=1000000)(hp:dK T n+l.length<1000000)(h:fB st s t mr tr rE rR rO T n sv S x oc)(h10:pz s mr tr (ab t 10) l)(hN:3000000<=N):
  ∃t' s' sv',ao (au (cH 6)) ⟨π,Tw c N,Ff,f18.ntmps,N⟩ t s=.nx t' s'/\fB st s' t' mr tr rE rR rO T (aI T S l n).2.2 sv' (aI T S l n).1 x oc/\ab t' 10=cJ (aI T S l n).2.1:=by
 have⟨l1,l2,l3,l4⟩:=h.lo;have⟨m1,m2⟩:=h.ml;have⟨s1,sv1,f1,f2,f3,f4⟩:=KE (c:=c) h10 hl h.V h.M hp hN;have key:∃t',ao (au (cH 6)) ⟨π,Tw c N,Ff,f18.ntmps,N⟩ t s=.nx t' s1/\ab t' 0=.p mr 0/\ab t' 2=sv1/\ab t' 4=.p rE 0/\ab t' 6=.p rR 0/\ab t' 7=.p rO 0/\ab t' 10=cJ (aI T S l n).2.1:=by simp[cH,ev,au,aw,f18,h.t0,h.t2,h.t4,h.t6,h.t7,f1]
 have⟨t',k1,k2,k3,k4,k5,k6,k7⟩:=key;have⟨al3,co⟩:=h.co;exact⟨t',s1,sv1,k1,h.keep (Kp.qk f4 (by simp) (by simp)) k2 k3 k4 k5 k6 ⟨_,f4.ce co (by omega) (by omega) (by simp;omega) (by simp;omega)⟩ f3 f2,k7⟩
section
theorem JQ(h:l.length<=9223372036854775807):nh (cJ l):=⟨l,Fw l,h⟩
theorem xF(l:List ae):aL (cJ l)=l:=Sr (Fw l)
theorem Im(h:nh v):(aL v).length<=9223372036854775807:=h.sl.2
theorem Gu{p:List AV×Ex}(h:jw 4 p.1):∃vs,p.1=[.i .i64 (aM p).k,.s (aM p).n,.i .i64 (aM p).m,vs]/\nh vs/\(aM p).vs=aL vs:=by
 have⟨k,n,m,vs,h,hv⟩:=h;refine⟨vs,?_,hv,?_⟩
 ·unfold aM;rw[h];rfl
 ·unfold aM;grind
variable(T:List ae)
mutual
theorem wX:∀(x:Ex) (S:aU) (n:Nat),x.Ty->(bm T x S n).1.Ty
 |.mk k nm num ps b a l,S,n,h=>by
  have⟨hk,hps,hb,ha,hl⟩:=h;unfold bm;by_cases h1:k=1
  ·rw[if_pos h1];exact⟨⟨by decide,by decide⟩,⟨[],.inl ⟨rfl,rfl⟩,by decide⟩,trivial,trivial,trivial⟩
  ·rw[if_neg h1];simp only;have h2:=Bs b (aI T (aI T S (aL ps) n).1 b.names (aI T S (aL ps) n).2.2).1 (aI T (aI T S (aL ps) n).1 b.names (aI T S (aL ps) n).2.2).2.1 (aI T (aI T S (aL ps) n).1 b.names (aI T S (aL ps) n).2.2).2.2 hb;generalize cy T b _ _ _=rb at*;have h3:=ER a (aI T (aI T S (aL ps) n).1 b.names (aI T S (aL ps) n).2.2).1 (fm strF k nm a.len) 0 rb.2 ha;generalize bM T a _ _ _ _=ra at*;have h4:=Jq l (aI T (aI T S (aL ps) n).1 b.names (aI T S (aL ps) n).2.2).1 ra.2.2 hl;generalize dz T l _ _=rl at*;have ho:(Ex.mk k nm num (cJ (aI T S (aL ps) n).2.1) rb.1 ra.1 rl.1).Ty:=by
    grind[Ex.Ty,JQ,xH,Im]
   have⟨h5,h6⟩:=h3;unfold jA;split
   ·grind
   ·rename_i p x l he;rw[he]at h6;exact⟨⟨by decide,by decide⟩,⟨[],.inl ⟨rfl,rfl⟩,by decide⟩,h6,⟨rfl,ho,trivial⟩,trivial⟩
theorem Bs:∀(l:aa) (S:aU) (ns:List ae) (n:Nat),l.Ty 1->(cy T l S ns n).1.Ty 1
 |.nil _,_,_,_,_=>by simp only[cy,aa.Ty]
 |.cons p x l,S,ns,n,h=>by simp only[aa.Ty]at h;simp only[cy,aa.Ty];exact⟨⟨_,rfl⟩,wX x S n h.2.1,Bs l S ns.tail _ h.2.2⟩
theorem ER:∀(l:aa) (S:aU) (k:Int) (i n:Nat),l.Ty 0->(bM T l S k i n).1.Ty 0/\(bM T l S k i n).2.1.Ty 1
 |.nil _,_,_,_,_,_=>by simp only[bM,aa.Ty];exact⟨trivial,trivial⟩
 |.cons p x l,S,k,i,n,h=>by
  simp only[aa.Ty]at h;have h1:=wX x S n h.2.1;unfold bM;simp only;split
  ·have h2:=ER l S k (i+1) (bY T (bm T x S n).2) h.2.2;simp only[aa.Ty];refine⟨⟨rfl,?_,h2.1⟩,⟨_,rfl⟩,h1,h2.2⟩;simp only[jU,Ex.Ty,aa.Ty];exact⟨⟨by decide,by decide⟩,⟨[],.inl ⟨rfl,rfl⟩,by decide⟩,trivial,trivial,trivial⟩
  ·have h2:=ER l S k (i+1) (bm T x S n).2 h.2.2;simp only[aa.Ty];exact⟨⟨rfl,h1,h2.1⟩,h2.2⟩
theorem Jq:∀(l:aa) (S:aU) (n:Nat),l.Ty 4->(dz T l S n).1.Ty 4
 |.nil _,_,_,_=>by simp only[dz,aa.Ty]
 |.cons p x l,S,n,h=>by simp only[aa.Ty]at h;simp only[dz,aa.Ty];have⟨vs,h1,h2,h3⟩:=Gu (p:=(p,x)) h.1;refine⟨⟨_,_,_,_,rfl,JQ ?_⟩,wX x _ _ h.2.1,Jq l S _ h.2.2⟩;rw[xH,h3];exact Im h2
end
mutual
theorem rL:∀(x:Ex) (S:aU) (n:Nat),dK T (bm T x S n).2<=dK T n+x.wt
 |.mk k nm num ps b a l,S,n=>by
  unfold bm;by_cases h1:k=1
  ·grind
  ·simp only[Ex.wt];have h2:=(sw T (aL ps) S n).1;generalize aI T S (aL ps) n=w1 at*;have h3:=(sw T b.names w1.1 w1.2.2).1;rw[fg]at h3;generalize aI T w1.1 b.names w1.2.2=w2 at*;have h4:=Br b w2.1 w2.2.1 w2.2.2;generalize cy T b w2.1 w2.2.1 w2.2.2=rb at*;have h5:=Bq a w2.1 (fm strF k nm a.len) 0 rb.2;generalize bM T a w2.1 (fm strF k nm a.len) 0 rb.2=ra at*;have h6:=EV l w2.1 ra.2.2;grind
theorem Br:∀(l:aa) (S:aU) (ns:List ae) (n:Nat),dK T (cy T l S ns n).2<=dK T n+l.wt
 |.nil _,_,_,_=>by simp only[cy,aa.wt];omega
 |.cons p x l,S,ns,n=>by simp only[cy,aa.wt];have h1:=rL x S n;have h2:=Br l S ns.tail (bm T x S n).2;omega
theorem Bq:∀(l:aa) (S:aU) (k:Int) (i n:Nat),dK T (bM T l S k i n).2.2<=dK T n+(l.len+l.wt)
 |.nil _,_,_,_,_=>by simp only[bM,aa.wt];omega
 |.cons p x l,S,k,i,n=>by
  unfold bM;simp only[aa.wt,aa.len];have h1:=rL x S n;split
  ·have h2:=Bq l S k (i+1) (bY T (bm T x S n).2);have h3:=yL T (bm T x S n).2;simp only;omega
  ·have h2:=Bq l S k (i+1) (bm T x S n).2;simp only;omega
theorem EV:∀(l:aa) (S:aU) (n:Nat),dK T (dz T l S n).2<=dK T n+l.kD
 |.nil _,_,_=>by simp only[dz,aa.kD];omega
 |.cons p x l,S,n=>by simp only[dz,aa.kD];have h0:=(sw T (aM (p,x)).vs S n).1;have h1:=rL x (aI T S (aM (p,x)).vs n).1 (aI T S (aM (p,x)).vs n).2.2;have h2:=EV l S (bm T x (aI T S (aM (p,x)).vs n).1 (aI T S (aM (p,x)).vs n).2.2).2;omega
end
theorem Jh:∀(l:aa) (S:aU) (ns:List ae) (n:Nat),(cy T l S ns n).1.len=l.len
 |.nil _,_,_,_=>by simp only[cy,aa.len]
 |.cons p x l,S,ns,n=>by simp only[cy,aa.len];rw[Jh l]
theorem EP:∀(l:aa) (S:aU) (k:Int) (i n:Nat),(bM T l S k i n).1.len=l.len
 |.nil _,_,_,_,_=>by simp only[bM,aa.len]
 |.cons p x l,S,k,i,n=>by unfold bM;simp only;split<;>simp only[aa.len]<;>rw[EP l]
theorem Jp:∀(l:aa) (S:aU) (n:Nat),(dz T l S n).1.len=l.len
 |.nil _,_,_=>by simp only[dz,aa.len]
 |.cons p x l,S,n=>by simp only[dz,aa.len];rw[Jp l]
theorem wR(L:List (List AV×Ex))(p:List AV×Ex):(fh (L++[p])).flat=(fh L).flat++(p.1++p.2.cells):=by grind[aa.As,IP]
theorem rA(L:List (List AV×Ex)):(fh L).len=L.length:=by rw[aa.aF,IP]
theorem NY{z:Nat}(h0:L.length=0->v=.sn)(h:Grown v z L.length (fh L).flat):v=(fh L).slice z:=by
 cases L with
 |nil=>rw[h0 rfl];rfl
 |cons p L=>
  rcases h with ⟨-,h,-⟩|h
  ·cases h
  ·rw[h];simp[fh,aa.slice,aa.flat,rA]
end
set_option maxHeartbeats 8000000
def TO(o:Option (AV×St))(st:St)(mr tr:Nat)(T:List ae)(R:Ex×Nat):Prop:=∃st',o=So (.ag R.1.cells,st')/\Mk st' mr tr T R.2/\Kp [mr,tr] [mr] st st'
def Cq(c:Option Self)(x:Ex):Prop:=x.Ty->x.size<=1000000->∀(st:St) (mr tr n:Nat) (T:List ae) (sv:AV) (S:aU) (N:Nat),Mk st mr tr T n->jX st mr tr sv S->dK T n+x.wt<1000000->x.size+4000000<=N->
 TO ((Tw c N).call 18 [.p mr 0,.ag x.cells,sv] st) st mr tr T (bm T x S n)
theorem mR{B A0 B0:List Nat}{a b d:St}(h:Kp A0 B0 a b)(k:Kp A B b d)(hA:∀x,x∈A->x∈A0\/a.next<=x)(hB:∀x,x∈B->x∈B0\/a.next<=x):Kp A0 B0 a d :=
 ⟨Q8 h.next k.next,λr h1 h2=>(k.get r (Q0 h1 h.next) λhh=>by
   rcases hA _ hh with h|h
   ·exact h2 h
   ·omega).trans (h.get r h1 h2),λg h1 h2=>(k.live g (Q0 h1 h.next) λhh=>by
   rcases hB _ hh with h|h
   ·exact h2 h
   ·omega).trans (h.live g h1 h2)⟩
structure sM(s s':St)(t':Tr AV)(mr tr rE rR rO:Nat)(T:List ae)(n:Nat)(sv:AV)(S:aU)(oc:List AV):Prop where
 t0:ab t' 0=.p mr 0
 t2:ab t' 2=sv
 t4:ab t' 4=.p rE 0
 t6:ab t' 6=.p rR 0
 t7:ab t' 7=.p rO 0
 co:∃al,s'.ce rO=So (oc,rO,al)
 M:Mk s' mr tr T n
 V:jX s' mr tr sv S
 K:Kp [mr,tr,rO] [mr,rO] s s'
theorem sM.fr{S S':aU}(h:fB st s t mr tr rE rR rO T n sv S x oc)(k:sM s s' t' mr tr rE rR rO T n' sv' S' oc'):fB st s' t' mr tr rE rR rO T n' sv' S' x oc' :=
 h.keep k.K k.t0 k.t2 k.t4 k.t6 k.t7 k.co k.M k.V
theorem fB.lp{S:aU}(h:fB st s t mr tr rE rR rO T n sv S x oc)(h0:ab t' 0=ab t 0)(h2:ab t' 2=ab t 2)(h4:ab t' 4=ab t 4)(h6:ab t' 6=ab t 6)(h7:ab t' 7=ab t 7):sM s s t' mr tr rE rR rO T n sv S oc :=
 ⟨h0.trans h.t0,h2.trans h.t2,h4.trans h.t4,h6.trans h.t6,h7.trans h.t7,h.co,h.M,h.V,.refl _ _ _⟩
def KL(s:St)(lo:Nat)(T:List ae)(S:aU)(b:aa)(ns:List ae)(n0:Nat)(v:AV)(i ni:Nat):Prop :=
 ∃(acc:List (List AV×Ex)),acc.length=i/\fI s lo 8 v i (fh acc).flat/\
  cy T b S ns n0=(jY acc (cy T (db b i) S (ns.drop i) ni).1,(cy T (db b i) S (ns.drop i) ni).2)/\dK T ni+(db b i).wt<=dK T n0+b.wt
def FW(s:St)(mr tr rE rR rO:Nat)(T:List ae)(n:Nat)(sv:AV)(S:aU)(k:Int)(nm:ae)(num:Int)(o3 o5 o6:AV)(b:aa)(ns:List ae)(i:Nat)(t':Tr AV)(s':St):Prop :=
 ∃v4 ni,sM s s' t' mr tr rE rR rO T ni sv S [.i .i64 k,.s nm,.i .i64 num,o3,v4,o5,o6]/\KL s' s.next T S b ns n v4 i ni
theorem WL{S:aU}{l:aa}{o3 o5 o6:AV}{ns:List ae}(hb:b.Ty 1)(hs:b.size<=1000000)(hIH:∀p∈b.list,Cq c p.2)(hns:ns.length=b.len)
  (h:fB st s t mr tr rE rR rO T n sv S (.mk k nm num ps b a l) [.i .i64 k,.s nm,.i .i64 num,o3,.sn,o5,o6]) (h10:ab t 10=cJ ns) (hp:dK T n+b.wt<1000000) (hN:b.size+4000000<=N):
  ∃t' s' v4,ao (au (cH 7)) ⟨π,Tw c N,Ff,f18.ntmps,N⟩ t s=.nx t' s'/\fB st s' t' mr tr rE rR rO T (cy T b S ns n).2 sv S (.mk k nm num ps b a l) [.i .i64 k,.s nm,.i .i64 num,o3,v4,o5,o6]/\fI s' s.next 8 v4 b.len (cy T b S ns n).1.flat/\Kp [mr,tr,rO] [mr,rO] s s'/\(∃L,(cy T b S ns n).1=fh L):=by
 have⟨l1,l2,l3,l4⟩:=h.lo;have⟨m1,m2⟩:=h.ml;have⟨al,ce⟩:=h.ce;have hbl:=b.cq;have rb:=(ju ce).b;have ln:=λst:St=>bg (st:=st) underlying23 (b.bU 8) (b.bV 8)
 have key:∃t' s',ao (au (cH 7)) ⟨π,Tw c N,Ff,f18.ntmps,N⟩ t s=.nx t' s'/\FW s mr tr rE rR rO T n sv S k nm num o3 o5 o6 b ns b.list.length t' s':=by
  simp[cH,ev,au,aw,f18,h.t4,rb,ln,ba];generalize hL:aQ _ _ _ _=L;obtain⟨t1,s1,rfl,p0⟩:=cD hL 2 b.list.length
   (λi t' s'=>ab t' 10=cJ ns/\ab t' 75=b.slice 8/\ab t' 76=.i .i64 (b.len:Int)/\ab t' 77=.i .i64 (i:Int)/\FW s mr tr rE rR rO T n sv S k nm num o3 o5 o6 b ns i t' s')
   (λt' s'=>FW s mr tr rE rR rO T n sv S k nm num o3 o5 o6 b ns b.list.length t' s') (by rw[<-aa.aF];omega)
   ⟨by simp[h10],by simp,by simp,by simp,.sn,n,h.lp (by simp) (by simp) (by simp) (by simp) (by simp),[],rfl,⟨No,λ_=>rfl,.nil _ _ _⟩,by simp[jY,db],by simp[db]⟩
   (by
    rintro i t' s' hi ⟨i10,i75,i76,i77,v4,ni,iL,acc,q1,⟨g,q0,qO⟩,q3,q4⟩;have hil:i<b.len:=by rw[aa.aF];exact hi
    have hin:i<ns.length:=by rw[hns];exact hil
    have e3:(i:Int)<(b.len:Int):=by omega
    have e4:wr .i64 ((i:Int)+1)=((i+1:Nat):Int):=by rw[aP (by omega) (by omega)];rfl
    have⟨r,r1,r2⟩:=eK hb.pre (show fH 1+7=8 from rfl) hi;have ix:=dP underlying23 dc cK b.flat b.len i hil;rw[<-aa.dR hil,r1,<-V2]at ix;have hmem:=Q4 hi;have hT:=aa.dC hb _ hmem;have hsz':=aa.dX hmem;have hce:(b.list[i].1++b.list[i].2.cells).length=8:=by rw[V3,r2,Ex.bp];rfl
    have hsc:bH (b.list[i].1++b.list[i].2.cells)=true:=jk hT.1.sc (Ex.eU hT.2.wf);have ld:=λst:St=>ei (st:=st) (r:=r) dc np cK hce
    have hcut:cut (b.list[i].1++b.list[i].2.cells) 1 7=So b.list[i].2.cells:=by rw[gW hT.1];have:=mV b.list[i].2.cells [];rw[Ex.bp,V1]at this;simpa using this
    generalize b.list[i].1++b.list[i].2.cells=cl at*;have⟨s2,u1,u2,u3,u4⟩:=bJ (s:=s') (z:=oe) hce hsc;have⟨al3,co⟩:=iL.co;have n1:=iL.K.next;have co2:=u3.ce co (by omega) (by omega) (by simp) (by simp);have rO2:rd s2 rO 4 1=So [v4]:=by rw[ai co2];rfl
    have rx:rd s2 s'.next 1 7=So b.list[i].2.cells:=by rw[ai u2,hcut]
    have⟨ad,jx,jl⟩:=(Fw ns).sat eL mF hin;rw[uY b i hi]at q3 q4;simp only[cy,aa.wt]at q3 q4;have qpot:=rL T b.list[i].2 S ni;have⟨s3,f1,f2,f3⟩:=hIH _ hmem hT.2 (by omega) s2 mr tr ni T sv S N (iL.M.keep u3 (by simp) (by simp) (by simp) (by simp)) (iL.V.keep u3 (by simp)) (by omega) (by omega);obtain⟨R,hR⟩:∃R,bm T b.list[i].2 S ni=R:=⟨_,rfl⟩;have tR:=wX T b.list[i].2 S ni hT.2;rw[hR]at f1 f2 q3 qpot tR;have cR:=R.1.bp;have co3:=f3.ce co2 (by have:=u3.next;omega) (by have:=u3.next;omega) (by simp;omega) (by simp;omega);have rO3:rd s3 rO 4 1=So [v4]:=by rw[ai co3];rfl
    have bo:=λ(t:Tr AV) (h1:ah t (.tmp 87)=.s ns[i]) (h2:ah t (.tmp 92)=.ag R.1.cells)=>GV (S:=Tw c N) (st:=s3) (t:=t) h1 h2 cR
    have bo2:=λ(t:Tr AV) (h:ah t (.tmp 93)=.ag (.s ns[i]::R.1.cells))=>ef (S:=Tw c N) (t:=t) (st:=s3) wF (x:=.tmp 93) (cs:=.s ns[i]::R.1.cells) (by rw[h];exact gh _) (by simp[cR])
    have sR:bH (.s ns[i]::R.1.cells)=true:=by simp[Ex.eU tR.wf]
    have O3:=(qO.keep u3 (by simp) (by simp)).keep f3 (by simp;omega) (λx hx=>.inl (by simp at hx;omega));have⟨v',g',s4,w1,w2,w3,w4⟩:=O3.iW wF (new:=.s ns[i]::R.1.cells) sR (by simp[cR]) (by omega) (by have:=u3.next;have:=f3.next;omega);have hgl:=qO.jd;have hB4:∀x,x∈g.toList->s.next<=x:=λx hx=>(hgl x (by simpa using hx)).1
    have co4:=w3.ce co3 (by have:=u3.next;have:=f3.next;omega) (by have:=u3.next;have:=f3.next;omega) (by simp) (λhh=>by have:=hB4 _ hh;omega);have hw:=c9 co4 4 [v'] (by simp) (by simp[w2.sc]);simp at hw;have k5:Kp [rO] [rO] s4 (s4.aG rO [.i .i64 k,.s nm,.i .i64 num,o3,v',o5,o6] rO):=.aG (by simp) (by simp);have c5:(s4.aG rO [.i .i64 k,.s nm,.i .i64 num,o3,v',o5,o6] rO).ce rO=So ([.i .i64 k,.s nm,.i .i64 num,o3,v',o5,o6],rO,[rO]):=dA _ _ _;obtain⟨s5,hs5⟩:∃x,s4.aG rO [.i .i64 k,.s nm,.i .i64 num,o3,v',o5,o6] rO=x:=⟨_,rfl⟩;rw[hs5]at hw k5 c5;have M5:=((f2.keep w3 (by simp) (by simp) (λhh=>by have:=hB4 _ hh;omega) (by simp)).keep k5 (by simp;omega) (by simp;omega) (by simp;omega) (by simp;omega));have V5:=((((iL.V.keep u3 (by simp)).keep f3 (by simp)).keep w3 (by simp)).DY (Kp.qk k5 (by simp) (λx hx=>hx)) co4);have K5:=mR (mR (mR (mR iL.K u3 (by simp) (by simp)) f3 (by simp) (by simp)) w3 (by simp) (λx hx=>.inr (hB4 x hx))) k5 (by simp) (by simp);have G5:fI s5 s.next 8 v' (i+1) (fh (acc++[([.s ns[i]],R.1)])).flat:=by
     refine⟨g',λhh=>by omega,?_⟩;rw[wR];have hg':g'≠So rO:=by
      rcases w4 with rfl|⟨x,rfl,hx⟩
      ·exact λhh=>by have:=hgl rO hh;omega
      ·intro hh;cases hh;have:=u3.next;have:=f3.next;omega
     exact w2.keep k5 (by simp;omega) (λx hx=>.inr (by simp at hx;subst hx;exact hg'))
    simp[i75,i76,i77,e3,ix,ld,aB,qp,aC dc cK,hce,u1,aY];rw[ft (fl:=[(1,11),(5,11)])]
    ·simp[iL.t0,iL.t2,iL.t7,i10,i77,rO2,jx,jl,aX,rx,f1,bo,bo2,w1,bN yt FE,w2.cells,hw,e4];refine⟨_,_,⟨rfl,rfl⟩,by simp[i10],by simp[i75],by simp[i76],by simp,v',R.2,⟨by simp[iL.t0],by simp[iL.t2],by simp[iL.t4],by simp[iL.t6],by simp[iL.t7],⟨_,c5⟩,M5,V5,K5⟩,acc++[([.s ns[i]],R.1)],by simp[q1],G5,?_,by omega⟩;rw[q3,uD,List.tail_drop];have hh:(ns.drop i).headD []=ns[i]:=by rw[Q7 hin];rfl
     rw[hh];rfl
    ·kernel_rfl
    ·intro R' hR';simp[iL.t0,iL.t2,iL.t7,i10,rO2,jx,jl,aX,rx,f1,bo,bo2,w1,bN yt FE,w2.cells,hw]at hR';subst hR';simp only[Z3,Z4,Z5,Bool.and_eq_true];refine⟨cZ rfl rfl rfl (s:=s3) ?_,cZ rfl rfl rfl (s:=s3) ?_⟩
     ·simp[rO3]
     ·simp[jl])
   (by rintro t' s' ⟨i10,i75,i76,i77,v4,ni,iL,iB⟩;simp[i76,i77,aa.aF];refine⟨_,_,⟨rfl,rfl⟩,v4,ni,⟨by simp[iL.t0],by simp[iL.t2],by simp[iL.t4],by simp[iL.t6],by simp[iL.t7],iL.co,iL.M,iL.V,iL.K⟩,iB⟩)
  clear hL;exact⟨t1,s1,by simp,p0⟩
 have⟨t',s',q1,v4,ni,q2,acc,a1,a2,a4,a5⟩:=key;have⟨f,hf⟩:=uZ b;rw[hf]at a4;simp only[cy,zV]at a4;refine⟨t',s',v4,q1,?_,?_,q2.K,acc,by rw[a4]⟩
 ·rw[a4];exact q2.fr h
 ·rw[a4,aa.aF];exact a2
