/- A part of the proof. -/
import Derived.Test.YtjpheibfljmbjaaGreatDoorS11
set_option maxRecDepth 100000
open Nat renaming lt_succ_self->Q0, le_of_ble_eq_true->Q1, le_refl->Q3, lt_of_lt_of_le->Q7, zero_add->Q8, le_zero->J6, lt_or_ge->J8, le_antisymm->J9, add_assoc->Z3
open List renaming getElem_mem->Q2, drop_append->Q4, drop_eq_nil_of_le->Q6, length_append->Q9, eq_nil_of_length_eq_zero->J4, nil_append->J5, append_nil->Z4, append_assoc->Z6, take_of_length_le->Z7, take_append_getElem->Z8, all_cons->Z9, all_nil->V0, length_map->V2
open Bool renaming and_eq_true->J1, and_false->J3, eq_false_iff->Z5, and_true->V1
open Go.Proofs.Tryz
noncomputable section
open Go.Ev
namespace Go.Proofs.YtjpheibfljmbjaaGreatDoor
variable {C : ah->Option AV}{N cr mr : Nat}{P : Program}{a b : ae}{c : Option Self}{e ty : TypeId}{k num w : Int}{l : List ah}{nm : List Nat}{ps : AV}{st st' : St}{x : Ex}
structure H8(s:St)(p:Nat)(cl:List AV)(k:Int)(nm:List Nat)(b a l:ae):Prop where
 kd:rd s p 0 1=some [.i .i64 k]
 nm:rd s p 1 1=some [.s nm]
 b:rd s p 4 1=some [b.slice 8]
 a:rd s p 5 1=some [a.slice 7]
 l:rd s p 6 1=some [l.slice 11]
 all:rd s p 0 7=some cl
theorem iv{s:St}{p:Nat}{l:ae}{g:Nat}{al:List Nat}(hc:s.ce p=some ((Ex.mk k nm num ps b a l).cells,g,al)):H8 s p (Ex.mk k nm num ps b a l).cells k nm b a l:=by exact⟨by rw[au hc];rfl,by rw[au hc];rfl,by rw[au hc];rfl,by rw[au hc];rfl,by rw[au hc];rfl,by rw[au hc];rfl⟩
theorem Hw(x:Ex)(n:Nat):(Tw c (n+1)).call 45 [.ag x.cells] st=some (.b x.atom,st.aw x.cells):=by
 rw[dt rfl func45 rfl (Q1 rfl)];unfold aV;obtain⟨k,nm,num,ps,b,a,l⟩:=x;have hc:=iv (cz (st:=st) (Ex.mk k nm num ps b a l).cells);unfold Ex.atom nF Ex.kind;generalize (Ex.mk k nm num ps b a l).cells=cl at *;by_cases h1:k=1
 ·simp[f45,hc.kd,h1,aG,aF]
 ·by_cases h2:k=2
  ·simp[f45,hc.kd,h2,aG,aF]
  ·simp[f45,hc.kd,h1,h2,aG,aF]
def fP(strF:List Nat->Int)(k:Int)(nm:List Nat)(n:Nat):Int:=if k=4 then 0 else if k=6 then 1 else if k=9 then((strF nm).toNat:Int) else(n:Int)
def lD(strF:List Nat->Int)(k:Int)(nm:List Nat)(n:Nat):Int:=if k=5\/k=7\/k=8 then 1 else fP strF k nm n
theorem MZ(k:Int)(nm:List Nat)(num:Int)(ps:AV)(b a l:ae)(n:Nat):
  (Tw c (n+2)).call 44 [.ag (Ex.mk k nm num ps b a l).cells] st=some (.i .i64 (fP strF k nm a.len),st.aw (Ex.mk k nm num ps b a l).cells):=by
 rw[dt rfl func44 rfl (Q1 rfl)];unfold aV;have hc:=iv (cz (st:=st) (Ex.mk k nm num ps b a l).cells);generalize (Ex.mk k nm num ps b a l).cells=cl at *;unfold fP;by_cases h1:k=4
 ·simp[f44,hc.kd,h1,aG,aF]
 ·by_cases h2:k=6
  ·simp[f44,hc.kd,h2,aG,aF]
  ·by_cases h3:k=9
   ·simp[f44,hc.kd,hc.nm,h3,fun(st:St) (l:ah)=>Ze (c:=c) (st:=st) l (N:=n+1) (by omega),max_zero,aG,aF]
   ·simp[f44,hc.kd,hc.a,h1,h2,h3,aY underlying32 (a.bK 7) (a.bJ 7),aG,aF]
theorem Sq(k:Int)(nm:List Nat)(num:Int)(ps:AV)(b a l:ae)(n:Nat):
  ∃ st',(Tw c (n+3)).call 58 [.ag (Ex.mk k nm num ps b a l).cells] st=some (.i .i64 (lD strF k nm a.len),st')/\Kp [] [] st st':=by
 have hs:=MZ (c:=c) (st:=st.aw (Ex.mk k nm num ps b a l).cells) k nm num ps b a l n;have hc:=iv (cz (st:=st) (Ex.mk k nm num ps b a l).cells);rw[dt rfl func58 rfl (Q1 rfl)];unfold aV;generalize (Ex.mk k nm num ps b a l).cells=cl at *;unfold lD;by_cases h1:k=5
 ·refine⟨_,?_,.aw _ _ cl⟩;simp[f58,hc.kd,h1,aG,aF]
 ·by_cases h2:k=7
  ·refine⟨_,?_,.aw _ _ cl⟩;simp[f58,hc.kd,h2,aG,aF]
  ·by_cases h3:k=8
   ·refine⟨_,?_,.aw _ _ cl⟩;simp[f58,hc.kd,h3,aG,aF]
   ·refine⟨_,?_,(Kp.aw _ _ cl).trans (.aw _ _ cl)⟩;simp[f58,aH,hc.kd,hc.all,h1,h2,h3,hs,aG,aF]
structure Cnt(n base most:Nat)(L:List (List AV× Ex))(i m:Nat):Prop where
 lo:n<m
 hi:m<=max n most+1
 eq:m<=most->m=base+eu L i
def xz(v:AV)(n base most:Nat)(L:List (List AV× Ex))(i:Nat):Prop:=∃ m:Nat,v=.i .i64 (m:Int)/\Cnt n base most L i m
def VL(c:Option Self)(x:Ex):Prop:=x.Wf->∀ (n most:Nat) (st:St) (N:Nat),x.size+5<=N->n<=1000000000->most<=1000000000->
 ∃ (m:Nat) (st':St),(Tw c N).call 42 [.ag x.cells,.i .i64 (n:Int),.i .i64 (most:Int)] st=some (.i .i64 (m:Int),st')/\Kp [] [] st st'/\n<m/\m<=max n most+1/\(m<=most->m=n+x.size)
theorem Wz:∀ x,VL c x:=by
 refine Ex.ind fun k nm num ps b a l hb ha hl=>?_
 intro hwf n most st N hN hn hm;simp only[Ex.Wf]at hwf;obtain⟨-,⟨pb,pa,pl⟩,⟨wb,wa,wl⟩,-⟩:=hwf;obtain⟨N,rfl⟩:∃ N',N=N'+1:=⟨N-1,by omega⟩;have hsz:(Ex.mk k nm num ps b a l).size=1+b.size+a.size+l.size:=by simp only[Ex.size]
 rw[hsz]at hN;rw[dt rfl func42 rfl (Q1 rfl)];unfold aV;have hce:=cz (st:=st) (Ex.mk k nm num ps b a l).cells;have hp:st.next<(st.aw (Ex.mk k nm num ps b a l).cells).next:=Q0 _;have k0:Kp [] [] st (st.aw (Ex.mk k nm num ps b a l).cells):=.aw _ _ _;obtain⟨s0,hs0⟩:∃ s0,st.aw (Ex.mk k nm num ps b a l).cells=s0:=⟨_,rfl⟩;rw[hs0]at k0 hp hce;have at1:∀ {s:St},Kp [] [] s0 s->H8 s st.next (Ex.mk k nm num ps b a l).cells k nm b a l:=fun kk=>iv (kk.ce hce hp hp (by simp) (by simp))
 have e1:wr .i64 ((n:Int)+1)=((n+1:Nat):Int):=by rw[aZ (by omega) (by omega)];rfl
 simp[f42,e1,hs0,bw];generalize hL:bf _ _ _ _=Lo;obtain⟨t1,s1,rfl,a1,b1,c1,d1⟩:=zr hL 0 a.list.length
  (fun i t s=>ab t 2=.i .i64 (most:Int)/\ab t 3=.p st.next 0/\ab t 7=.i .i64 (i:Int)/\Kp [] [] s0 s/\xz (ab t 1) n (n+1) most a.list i)
  (fun t s=>ab t 2=.i .i64 (most:Int)/\ab t 3=.p st.next 0/\Kp [] [] s0 s/\xz (ab t 1) n (n+1) most a.list a.list.length)
  (by rw[<-ae.aC];have:=a.bZ;omega)
  ⟨by simp,by simp,by simp,.refl _ _ _,n+1,by simp,Q0 _,by omega,fun _=>by rw[mB]⟩
  (by
   rintro i t s hi ⟨i2,i3,i7,iK,m,i1,iC⟩;clear hL;have hx:=at1 iK;have hil:i<a.len:=by rw[ae.aC];exact hi
   have e5:(i:Int)<(a.len:Int):=by omega
   have vl:=fun st:St=>aY (st:=st) underlying32 (a.bK 7) (a.bJ 7)
   by_cases hm':m<=most
   ·left;have e6:(m:Int)<=(most:Int):=by omega
    have e7:wr .i64 ((i:Int)+1)=((i+1:Nat):Int):=by have:=qy a.list i (by omega);have:=iC.eq hm';rw[aZ (by omega) (by omega)];rfl
    obtain⟨r,r1,r2⟩:=eR pa (show 0+7=7 from rfl) hi;have ix:=dV underlying32 cI aH a.flat a.len i hil;rw[<-ae.cZ hil,r1,J4 r2,J5]at ix;have hmem:=Q2 hi;have hsz':=ae.dU hmem;obtain⟨m',s',g1,g2,g3,g4,g5⟩:=ha _ hmem (ae.sH wa _ hmem).1 m most s N (by omega) (by have:=iC.hi;omega) hm;have hd:True:=trivial;simp[i1,i2,i3,i7,hx.a,vl,e5,e6,ix,aH,oS,g1,e7];refine⟨_,_,⟨rfl,rfl⟩,by simp[i2],by simp[i3],by simp,iK.trans g2,m',by simp,⟨by have:=iC.lo;omega,by have:=iC.hi;omega,fun h=>?_⟩⟩;rw[fY hi,g5 h,iC.eq hm'];omega
   ·right;have e6:¬ (m:Int)<=(most:Int):=by omega
    simp[i1,i2,i3,i7,hx.a,vl,e5,e6];exact⟨_,_,⟨rfl,rfl⟩,by simp[i2],by simp[i3],iK,m,by simp[i1],iC.lo,iC.hi,fun h=>absurd h hm'⟩)
  (by
   rintro t s ⟨i2,i3,i7,iK,m,i1,iC⟩;clear hL;have hx:=at1 iK;have vl:=fun st:St=>aY (st:=st) underlying32 (a.bK 7) (a.bJ 7)
   simp[i3,i7,hx.a,vl,ae.aC];exact⟨_,_,⟨rfl,rfl⟩,by simp[i2],by simp[i3],iK,m,by simp[i1],iC⟩)
 clear hL;obtain⟨m1,u1,v1⟩:=d1;simp[bw];generalize hL:bf _ _ _ _=Lo;obtain⟨t2,s2,rfl,a2,b2,c2,d2⟩:=zr hL 2 b.list.length
  (fun i t s=>ab t 2=.i .i64 (most:Int)/\ab t 3=.p st.next 0/\ab t 8=.i .i64 (i:Int)/\Kp [] [] s0 s/\xz (ab t 1) n (n+1+a.size) most b.list i)
  (fun t s=>ab t 2=.i .i64 (most:Int)/\ab t 3=.p st.next 0/\Kp [] [] s0 s/\xz (ab t 1) n (n+1+a.size) most b.list b.list.length)
  (by rw[<-ae.aC];have:=b.bZ;omega)
  ⟨by simp[a1],by simp[b1],by simp,c1,m1,by simp[u1],v1.lo,v1.hi,fun h=>by rw[mB,v1.eq h,mP];rfl⟩
  (by
   rintro i t s hi ⟨i2,i3,i7,iK,m,i1,iC⟩;clear hL;have hx:=at1 iK;have hil:i<b.len:=by rw[ae.aC];exact hi
   have e5:(i:Int)<(b.len:Int):=by omega
   have vl:=fun st:St=>aY (st:=st) underlying23 (b.bK 8) (b.bJ 8)
   by_cases hm':m<=most
   ·left;have e6:(m:Int)<=(most:Int):=by omega
    have e7:wr .i64 ((i:Int)+1)=((i+1:Nat):Int):=by have:=qy b.list i (by omega);have:=iC.eq hm';rw[aZ (by omega) (by omega)];rfl
    obtain⟨r,r1,r2⟩:=eR pb (show 1+7=8 from rfl) hi;have ix:=dV (P:=prog) underlying23 dn cV b.flat b.len i hil;rw[<-ae.cZ hil,r1]at ix;have hmem:=Q2 hi;have hsz':=ae.dU hmem;obtain⟨m',s',g1,g2,g3,g4,g5⟩:=hb _ hmem (ae.sH wb _ hmem).1 m most s N (by omega) (by have:=iC.hi;omega) hm;have hd:(b.list[i].1++(b.list[i].2.cells++r)).drop 1=b.list[i].2.cells++r:=by rw[Q4,r2];simp[r2,Q6]
    simp[i1,i2,i3,i7,hx.b,vl,e5,e6,ix,hd,aH,oS,g1,e7];refine⟨_,_,⟨rfl,rfl⟩,by simp[i2],by simp[i3],by simp,iK.trans g2,m',by simp,⟨by have:=iC.lo;omega,by have:=iC.hi;omega,fun h=>?_⟩⟩;rw[fY hi,g5 h,iC.eq hm'];omega
   ·right;have e6:¬ (m:Int)<=(most:Int):=by omega
    simp[i1,i2,i3,i7,hx.b,vl,e5,e6];exact⟨_,_,⟨rfl,rfl⟩,by simp[i2],by simp[i3],iK,m,by simp[i1],iC.lo,iC.hi,fun h=>absurd h hm'⟩)
  (by
   rintro t s ⟨i2,i3,i7,iK,m,i1,iC⟩;clear hL;have hx:=at1 iK;have vl:=fun st:St=>aY (st:=st) underlying23 (b.bK 8) (b.bJ 8)
   simp[i3,i7,hx.b,vl,ae.aC];exact⟨_,_,⟨rfl,rfl⟩,by simp[i2],by simp[i3],iK,m,by simp[i1],iC⟩)
 clear hL;obtain⟨m2,u2,v2⟩:=d2;simp[bw];generalize hL:bf _ _ _ _=Lo;obtain⟨t3,s3,rfl,a3,b3,c3,d3⟩:=zr hL 4 l.list.length
  (fun i t s=>ab t 2=.i .i64 (most:Int)/\ab t 3=.p st.next 0/\ab t 9=.i .i64 (i:Int)/\Kp [] [] s0 s/\xz (ab t 1) n (n+1+a.size+b.size) most l.list i)
  (fun t s=>ab t 2=.i .i64 (most:Int)/\ab t 3=.p st.next 0/\Kp [] [] s0 s/\xz (ab t 1) n (n+1+a.size+b.size) most l.list l.list.length)
  (by rw[<-ae.aC];have:=l.bZ;omega)
  ⟨by simp[a2],by simp[b2],by simp,c2,m2,by simp[u2],v2.lo,v2.hi,fun h=>by rw[mB,v2.eq h,mP];rfl⟩
  (by
   rintro i t s hi ⟨i2,i3,i7,iK,m,i1,iC⟩;clear hL;have hx:=at1 iK;have hil:i<l.len:=by rw[ae.aC];exact hi
   have e5:(i:Int)<(l.len:Int):=by omega
   have vl:=fun st:St=>aY (st:=st) underlying33 (l.bK 11) (l.bJ 11)
   by_cases hm':m<=most
   ·left;have e6:(m:Int)<=(most:Int):=by omega
    have e7:wr .i64 ((i:Int)+1)=((i+1:Nat):Int):=by have:=qy l.list i (by omega);have:=iC.eq hm';rw[aZ (by omega) (by omega)];rfl
    obtain⟨r,r1,r2⟩:=eR pl (show 4+7=11 from rfl) hi;have ix:=dV (P:=prog) underlying33 cy bU l.flat l.len i hil;rw[<-ae.cZ hil,r1]at ix;have hmem:=Q2 hi;have hsz':=ae.dU hmem;obtain⟨m',s',g1,g2,g3,g4,g5⟩:=hl _ hmem (ae.sH wl _ hmem).1 m most s N (by omega) (by have:=iC.hi;omega) hm;have hd:(l.list[i].1++(l.list[i].2.cells++r)).drop 4=l.list[i].2.cells++r:=by rw[Q4,r2];simp[r2,Q6]
    simp[i1,i2,i3,i7,hx.l,vl,e5,e6,ix,hd,aH,oS,g1,e7];refine⟨_,_,⟨rfl,rfl⟩,by simp[i2],by simp[i3],by simp,iK.trans g2,m',by simp,⟨by have:=iC.lo;omega,by have:=iC.hi;omega,fun h=>?_⟩⟩;rw[fY hi,g5 h,iC.eq hm'];omega
   ·right;have e6:¬ (m:Int)<=(most:Int):=by omega
    simp[i1,i2,i3,i7,hx.l,vl,e5,e6];exact⟨_,_,⟨rfl,rfl⟩,by simp[i2],by simp[i3],iK,m,by simp[i1],iC.lo,iC.hi,fun h=>absurd h hm'⟩)
  (by
   rintro t s ⟨i2,i3,i7,iK,m,i1,iC⟩;clear hL;have hx:=at1 iK;have vl:=fun st:St=>aY (st:=st) underlying33 (l.bK 11) (l.bJ 11)
   simp[i3,i7,hx.l,vl,ae.aC];exact⟨_,_,⟨rfl,rfl⟩,by simp[i2],by simp[i3],iK,m,by simp[i1],iC⟩)
 clear hL;obtain⟨m3,u3,v3⟩:=d3;refine⟨m3,s3,?_,k0.trans c3,v3.lo,v3.hi,fun h=>?_⟩
 ·simp[u3,aG,aF]
 ·rw[v3.eq h,mP,hsz];omega
def uo(st:St)(cr:Nat)(v:AV)(x:Ex):Prop:=(∃ r,v=.rp (x.cells++r))\/∃ p al,v=.p p 0/\st.ce p=some (x.cells,p,al)/\p<st.next/\p≠cr
def rY(st:St)(cr n:Nat):Prop:=(∃ al d,st.ce cr=some ([.i .i64 (n:Int),.b d],cr,al))/\cr<st.next
def yr(L:List (List AV× Ex))(i at1:Nat):Prop:=∀ j (h:j<L.length),j<i->at1+1+L[j].2.depth<=4097
section
variable {v : AV}
theorem uo.kp(h:uo st cr v x)(k:Kp [cr] [cr] st st'):uo st' cr v x:=by
 rcases h with h|⟨p,al,rfl,h1,h2,h3⟩
 ·exact .inl h
 ·exact .inr ⟨p,al,rfl,k.ce h1 h2 h2 (by grind) (by grind),Q7 h2 k.next,h3⟩
theorem uo.nn(h:uo st cr v x):notNil st v=some (v,st):=by rcases h with ⟨r,rfl⟩|⟨p,al,rfl,-⟩<;>rfl
theorem N9{l:ae}(h:uo st cr v (.mk k nm num ps b a l)):∃ ad,fieldAt 5 st v=some (ad,st)/\loadAt prog 32 st ad=some (a.slice 7):=by
 rcases h with ⟨r,rfl⟩|⟨p,al,rfl,h1,-⟩
 ·refine⟨_,rfl,?_⟩;rw[wN o9 Pz];rfl
 ·refine⟨_,rfl,?_⟩;rw[oE o9 Pz,Q8,(iv h1).a];rfl
theorem Lc{l:ae}(h:uo st cr v (.mk k nm num ps b a l)):∃ ad,fieldAt 4 st v=some (ad,st)/\loadAt prog 23 st ad=some (b.slice 8):=by
 rcases h with ⟨r,rfl⟩|⟨p,al,rfl,h1,-⟩
 ·refine⟨_,rfl,?_⟩;rw[wN nH PX];rfl
 ·refine⟨_,rfl,?_⟩;rw[oE nH PX,Q8,(iv h1).b];rfl
theorem Kj{l:ae}(h:uo st cr v (.mk k nm num ps b a l)):∃ ad,fieldAt 6 st v=some (ad,st)/\loadAt prog 33 st ad=some (l.slice 11):=by
 rcases h with ⟨r,rfl⟩|⟨p,al,rfl,h1,-⟩
 ·refine⟨_,rfl,?_⟩;rw[wN uX Qe];rfl
 ·refine⟨_,rfl,?_⟩;rw[oE uX Qe,Q8,(iv h1).l];rfl
def Stop(s:St)(cr n at1:Nat)(x:Ex):Prop:=∃ n',rY s cr n'/\n<=n'/\n'<=n+x.size/\¬ (at1+x.depth<=4097/\n+x.size<=1048576)
structure Ug(x:Ex)(n at1:Nat)(b:Bool)(n':Nat):Prop where
 lo:n<=n'
 hi:n'<=n+x.size
 yes:b=true->n'=n+x.size/\at1+x.depth<=4097/\n+x.size<=1048576
 fit:at1+x.depth<=4097->n+x.size<=1048576->b=true
def yd(o:Option (AV× St))(st:St)(cr n at1:Nat)(x:Ex):Prop:=∃ (b:Bool) (n':Nat) (st':St),o=some (.b b,st')/\rY st' cr n'/\Kp [cr] [cr] st st'/\Ug x n at1 b n'
def SL(c:Option Self)(x:Ex):Prop:=x.Wf->∀ (cr n at1:Nat) (st:St) (v:AV) (N:Nat),x.size+5<=N->n+x.size<=1000000000->at1<=1000000->rY st cr n->uo st cr v x->
 yd ((Tw c N).call 60 [.p cr 0,v,.i .i64 (at1:Int)] st) st cr n at1 x
theorem Qg:∀ x,SL c x:=by
 refine Ex.ind fun k nm num ps b a l hb ha hl=>?_
 intro hwf cr n at1 st v N hN hn hat hC hP;simp only[Ex.Wf]at hwf;obtain⟨-,⟨pb,pa,pl⟩,⟨wb,wa,wl⟩,-⟩:=hwf;obtain⟨N,rfl⟩:∃ N',N=N'+1:=⟨N-1,by omega⟩;have hsz:(Ex.mk k nm num ps b a l).size=1+b.size+a.size+l.size:=by simp only[Ex.size]
 have hdp:(Ex.mk k nm num ps b a l).depth=1+max b.depth (max a.depth l.depth):=by simp only[Ex.depth]
 rw[hsz]at hN hn;rw[dt rfl func60 rfl (Q1 rfl)];unfold aV;obtain⟨⟨al,d,hc⟩,hlt⟩:=hC;have e1:wr .i64 ((n:Int)+1)=((n+1:Nat):Int):=by rw[aZ (by omega) (by omega)];rfl
 have e2:wr .i64 ((at1:Int)+1)=((at1+1:Nat):Int):=by rw[aZ (by omega) (by omega)];rfl
 obtain⟨s0,hs0⟩:∃ s0,st.ax cr [.i .i64 ((n+1:Nat):Int),.b d] cr=s0:=⟨_,rfl⟩;have hc0:s0.ce cr=some ([.i .i64 ((n+1:Nat):Int),.b d],cr,[cr]):=by rw[<-hs0];exact cj _ _ _
 have k0:Kp [cr] [cr] st s0:=by rw[<-hs0];exact .ax (by simp) (by simp)
 have hlt0:cr<s0.next:=Q7 hlt k0.next;have hs0':st.ax cr [.i .i64 ((n:Int)+1),.b d] cr=s0:=hs0;have e1':wr .i64 ((n:Int)+1)=(n:Int)+1:=e1;by_cases hbad:4096<at1\/1048576<n+1
 ·obtain⟨s1,hs1⟩:∃ s1,s0.ax cr [.i .i64 ((n+1:Nat):Int),.b true] cr=s1:=⟨_,rfl⟩;have hs1':s0.ax cr [.i .i64 ((n:Int)+1),.b true] cr=s1:=hs1;unfold yd;refine⟨false,n+1,s1,?_,⟨⟨[cr],true,by rw[<-hs1];exact cj _ _ _⟩,by rw[<-hs1];exact hlt0⟩,k0.trans (by rw[<-hs1];exact .ax (by simp) (by simp)),⟨by omega,by rw[hsz];omega,fun h=>(by cases h),fun h1 h2=>?_⟩⟩
  ·by_cases h4:4096<at1
   ·have e3:(4096:Int)<(at1:Int):=by omega
    simp[f60,au hc,e1',db nS ri,bP hc,hs0',e3,db Pq ML,bP hc0,hs1',aG,aF]
   ·have e3:¬ (4096:Int)<(at1:Int):=by omega
    have e4:(1048576:Int)<(n:Int)+1:=by omega
    simp[f60,au hc,au hc0,e1',db nS ri,bP hc,hs0',e3,e4,db Pq ML,bP hc0,hs1',aG,aF]
  ·rw[hsz]at h2;rw[hdp]at h1;omega
 ·have e3:¬ (4096:Int)<(at1:Int):=by omega
  have e4:¬ (1048576:Int)<(n:Int)+1:=by omega
  have hP0:=hP.kp k0;obtain⟨ad,f1,f2⟩:=N9 hP0;simp[f60,au hc,au hc0,e1',db nS ri,bP hc,hs0',e3,e4,hP0.nn,f1,f2,aY underlying32 (a.bK 7) (a.bJ 7),bw];generalize hL:bf _ _ _ _=Lo;have step1:_:=fW hL 0 a.list.length
   (fun i t s=>ab t 0=.p cr 0/\ab t 1=v/\ab t 2=.i .i64 (at1:Int)/\ab t 33=.i .i64 (a.len:Int)/\ab t 34=.i .i64 (i:Int)/\Kp [cr] [cr] st s/\rY s cr (n+1+eu a.list i)/\n+1+eu a.list i<=1048576/\yr a.list i at1)
   (fun t s=>ab t 0=.p cr 0/\ab t 1=v/\ab t 2=.i .i64 (at1:Int)/\Kp [cr] [cr] st s/\rY s cr (n+1+a.size)/\n+1+a.size<=1048576/\yr a.list a.list.length at1)
   (fun t s=>ab t 6=.b false/\Kp [cr] [cr] st s/\Stop s cr n at1 (.mk k nm num ps b a l))
   (by rw[<-ae.aC];have:=a.bZ;omega)
   ⟨by simp,by simp,by simp,by simp,by simp,k0,⟨⟨_,_,by rw[mB];exact hc0⟩,hlt0⟩,by rw[mB];omega,fun j hj h=>by omega⟩
   (by
    rintro i t s hi ⟨i0,i1,i2,i3,i4,iK,iC,iB,iS⟩;clear hL;have hil:i<a.len:=by rw[ae.aC];exact hi
    have hi2:=qy a.list i (by omega);have e5:(i:Int)<(a.len:Int):=by omega
    have e7:wr .i64 ((i:Int)+1)=((i+1:Nat):Int):=by rw[aZ (by omega) (by omega)];rfl
    obtain⟨r,r1,r2⟩:=eR pa (show 0+7=7 from rfl) hi;have ix:=dV underlying32 cI aH a.flat a.len i hil;rw[<-ae.cZ hil,r1,J4 r2,J5]at ix;have hmem:=Q2 hi;have hsz':=ae.dU hmem;have hdp':=ae.BF hmem;have hsum:eu a.list (i+1)<=a.size:=by
     rw[<-mP];have key:∀ j,j<=a.list.length->∀ i,i<=j->eu a.list i<=eu a.list j:=by
      intro j;induction j with
      |zero=>intro _ i hi;rw[J6.1 hi];exact Q3 _
      |succ j ihj =>
       intro hj i hij;rcases J8 i (j+1) with h|h
       ·have:=ihj (by omega) i (by omega);rw[fY (by omega:j<a.list.length)];omega
       ·rw[J9 hij h];exact Q3 _
     exact key _ (Q3 _) _ hi
    rw[fY hi]at hsum;have hPs:=hP.kp iK;obtain⟨ad,f1,f2⟩:=N9 hPs;have hd:True:=trivial;obtain⟨bb,n',s',g1,g2,g3,g4⟩:=ha _ hmem (ae.sH wa _ hmem).1 cr (n+1+eu a.list i) (at1+1) s (.rp (a.list[i].2.cells++r)) N (by omega) (by omega) (by omega) iC (.inl ⟨r,rfl⟩);rw[show((at1+1:Nat):Int)=(at1:Int)+1 from rfl]at g1;cases bb with
    |true =>
     left;obtain⟨y1,y2,y3⟩:=g4.yes rfl;simp[i0,i1,i2,i3,i4,e2,e5,e7,hPs.nn,f1,f2,ix,g1];refine⟨_,_,⟨rfl,rfl⟩,by simp[i0],by simp[i1],by simp[i2],by simp[i3],by simp,iK.trans g3,?_,?_,fun j hj hji=>?_⟩
     ·rw[fY hi,<-Z3,<-y1];exact g2
     ·rw[fY hi];omega
     ·by_cases hje:j=i
      ·subst hje;exact y2
      ·exact iS j hj (by omega)
    |false =>
     right;simp[i0,i1,i2,i3,i4,e2,e5,hPs.nn,f1,f2,ix,g1];refine⟨_,_,⟨rfl,rfl⟩,by simp,iK.trans g3,n',g2,?_,?_,?_⟩
     ·have:=g4.lo;omega
     ·rw[hsz];have:=g4.hi;omega
     ·rintro⟨z1,z2⟩;rw[hdp]at z1;rw[hsz]at z2;have:=g4.fit (by omega) (by omega);cases this)
   (by rintro t s ⟨i0,i1,i2,i3,i4,iK,iC,iB,iS⟩;clear hL;rw[mP]at iC iB;simp[i3,i4,ae.aC];exact⟨_,_,⟨rfl,rfl⟩,by simp[i0],by simp[i1],by simp[i2],iK,iC,iB,iS⟩)
  clear hL;rcases step1 with ⟨t1,s1,rfl,p0,p1,p2,pK,pC,pB,pS⟩|⟨t1,s1,rfl,q6,qK,n',qC,q1,q2,q3⟩
  case inr =>unfold yd;refine⟨false,n',s1,?_,qC,qK,⟨q1,q2,fun h=>(by cases h),fun h1 h2=>absurd ⟨h1,h2⟩ q3⟩⟩;simp[q6,aG,aF]
  case inl =>
  have hP1:=hP.kp pK;obtain⟨ad1,f3,f4⟩:=Lc hP1;simp[p1,hP1.nn,f3,f4,aY underlying23 (b.bK 8) (b.bJ 8),bw];generalize hL:bf _ _ _ _=Lo;have step2:_:=fW hL 2 b.list.length
   (fun i t s=>ab t 0=.p cr 0/\ab t 1=v/\ab t 2=.i .i64 (at1:Int)/\ab t 53=.i .i64 (b.len:Int)/\ab t 54=.i .i64 (i:Int)/\Kp [cr] [cr] st s/\rY s cr (n+1+a.size+eu b.list i)/\n+1+a.size+eu b.list i<=1048576/\yr b.list i at1)
   (fun t s=>ab t 0=.p cr 0/\ab t 1=v/\ab t 2=.i .i64 (at1:Int)/\Kp [cr] [cr] st s/\rY s cr (n+1+a.size+b.size)/\n+1+a.size+b.size<=1048576/\yr b.list b.list.length at1)
   (fun t s=>ab t 6=.b false/\Kp [cr] [cr] st s/\Stop s cr n at1 (.mk k nm num ps b a l))
   (by rw[<-ae.aC];have:=b.bZ;omega)
   ⟨by simp[p0],by simp[p1],by simp[p2],by simp,by simp,pK,by rw[mB];exact pC,by rw[mB];exact pB,fun j hj h=>by omega⟩
   (by
    rintro i t s hi ⟨i0,i1,i2,i3,i4,iK,iC,iB,iS⟩;clear hL;have hil:i<b.len:=by rw[ae.aC];exact hi
    have hi2:=qy b.list i (by omega);have e5:(i:Int)<(b.len:Int):=by omega
    have e7:wr .i64 ((i:Int)+1)=((i+1:Nat):Int):=by rw[aZ (by omega) (by omega)];rfl
    obtain⟨r,r1,r2⟩:=eR pb (show 1+7=8 from rfl) hi;have ix:=dV underlying23 dn cV b.flat b.len i hil;rw[<-ae.cZ hil,r1]at ix;have hmem:=Q2 hi;have hsz':=ae.dU hmem;have hdp':=ae.BF hmem;have hsum:eu b.list (i+1)<=b.size:=by
     rw[<-mP];have key:∀ j,j<=b.list.length->∀ i,i<=j->eu b.list i<=eu b.list j:=by
      intro j;induction j with
      |zero=>intro _ i hi;rw[J6.1 hi];exact Q3 _
      |succ j ihj =>
       intro hj i hij;rcases J8 i (j+1) with h|h
       ·have:=ihj (by omega) i (by omega);rw[fY (by omega:j<b.list.length)];omega
       ·rw[J9 hij h];exact Q3 _
     exact key _ (Q3 _) _ hi
    rw[fY hi]at hsum;have hPs:=hP.kp iK;obtain⟨ad,f1,f2⟩:=Lc hPs;have hd:(b.list[i].1++(b.list[i].2.cells++r)).drop 1=b.list[i].2.cells++r:=by rw[Q4,r2];simp[r2,Q6]
    obtain⟨bb,n',s',g1,g2,g3,g4⟩:=hb _ hmem (ae.sH wb _ hmem).1 cr (n+1+a.size+eu b.list i) (at1+1) s (.rp (b.list[i].2.cells++r)) N (by omega) (by omega) (by omega) iC (.inl ⟨r,rfl⟩);rw[show((at1+1:Nat):Int)=(at1:Int)+1 from rfl]at g1;cases bb with
    |true =>
     left;obtain⟨y1,y2,y3⟩:=g4.yes rfl;simp[i0,i1,i2,i3,i4,e2,e5,e7,hPs.nn,f1,f2,ix,hd,g1];refine⟨_,_,⟨rfl,rfl⟩,by simp[i0],by simp[i1],by simp[i2],by simp[i3],by simp,iK.trans g3,?_,?_,fun j hj hji=>?_⟩
     ·rw[fY hi,<-Z3,<-y1];exact g2
     ·rw[fY hi];omega
     ·by_cases hje:j=i
      ·subst hje;exact y2
      ·exact iS j hj (by omega)
    |false =>
     right;simp[i0,i1,i2,i3,i4,e2,e5,hPs.nn,f1,f2,ix,hd,g1];refine⟨_,_,⟨rfl,rfl⟩,by simp,iK.trans g3,n',g2,?_,?_,?_⟩
     ·have:=g4.lo;omega
     ·rw[hsz];have:=g4.hi;omega
     ·rintro⟨z1,z2⟩;rw[hdp]at z1;rw[hsz]at z2;have:=g4.fit (by omega) (by omega);cases this)
   (by rintro t s ⟨i0,i1,i2,i3,i4,iK,iC,iB,iS⟩;clear hL;rw[mP]at iC iB;simp[i3,i4,ae.aC];exact⟨_,_,⟨rfl,rfl⟩,by simp[i0],by simp[i1],by simp[i2],iK,iC,iB,iS⟩)
  clear hL;rcases step2 with ⟨t2,s2,rfl,r0,r1,r2,rK,rC,rB,rS⟩|⟨t2,s2,rfl,q6,qK,n',qC,q1,q2,q3⟩
  case inr =>unfold yd;refine⟨false,n',s2,?_,qC,qK,⟨q1,q2,fun h=>(by cases h),fun h1 h2=>absurd ⟨h1,h2⟩ q3⟩⟩;simp[q6,aG,aF]
  case inl =>
  have hP2:=hP.kp rK;obtain⟨ad2,f5,f6⟩:=Kj hP2;simp[r1,hP2.nn,f5,f6,aY underlying33 (l.bK 11) (l.bJ 11),bw];generalize hL:bf _ _ _ _=Lo;have step3:_:=fW hL 4 l.list.length
   (fun i t s=>ab t 0=.p cr 0/\ab t 1=v/\ab t 2=.i .i64 (at1:Int)/\ab t 74=.i .i64 (l.len:Int)/\ab t 75=.i .i64 (i:Int)/\Kp [cr] [cr] st s/\rY s cr (n+1+a.size+b.size+eu l.list i)/\n+1+a.size+b.size+eu l.list i<=1048576/\yr l.list i at1)
   (fun t s=>ab t 0=.p cr 0/\ab t 1=v/\ab t 2=.i .i64 (at1:Int)/\Kp [cr] [cr] st s/\rY s cr (n+1+a.size+b.size+l.size)/\n+1+a.size+b.size+l.size<=1048576/\yr l.list l.list.length at1)
   (fun t s=>ab t 6=.b false/\Kp [cr] [cr] st s/\Stop s cr n at1 (.mk k nm num ps b a l))
   (by rw[<-ae.aC];have:=l.bZ;omega)
   ⟨by simp[r0],by simp[r1],by simp[r2],by simp,by simp,rK,by rw[mB];exact rC,by rw[mB];exact rB,fun j hj h=>by omega⟩
   (by
    rintro i t s hi ⟨i0,i1,i2,i3,i4,iK,iC,iB,iS⟩;clear hL;have hil:i<l.len:=by rw[ae.aC];exact hi
    have hi2:=qy l.list i (by omega);have e5:(i:Int)<(l.len:Int):=by omega
    have e7:wr .i64 ((i:Int)+1)=((i+1:Nat):Int):=by rw[aZ (by omega) (by omega)];rfl
    obtain⟨r,r1,r2⟩:=eR pl (show 4+7=11 from rfl) hi;have ix:=dV underlying33 cy bU l.flat l.len i hil;rw[<-ae.cZ hil,r1]at ix;have hmem:=Q2 hi;have hsz':=ae.dU hmem;have hdp':=ae.BF hmem;have hsum:eu l.list (i+1)<=l.size:=by
     rw[<-mP];have key:∀ j,j<=l.list.length->∀ i,i<=j->eu l.list i<=eu l.list j:=by
      intro j;induction j with
      |zero=>intro _ i hi;rw[J6.1 hi];exact Q3 _
      |succ j ihj =>
       intro hj i hij;rcases J8 i (j+1) with h|h
       ·have:=ihj (by omega) i (by omega);rw[fY (by omega:j<l.list.length)];omega
       ·rw[J9 hij h];exact Q3 _
     exact key _ (Q3 _) _ hi
    rw[fY hi]at hsum;have hPs:=hP.kp iK;obtain⟨ad,f1,f2⟩:=Kj hPs;have hd:(l.list[i].1++(l.list[i].2.cells++r)).drop 4=l.list[i].2.cells++r:=by rw[Q4,r2];simp[r2,Q6]
    obtain⟨bb,n',s',g1,g2,g3,g4⟩:=hl _ hmem (ae.sH wl _ hmem).1 cr (n+1+a.size+b.size+eu l.list i) (at1+1) s (.rp (l.list[i].2.cells++r)) N (by omega) (by omega) (by omega) iC (.inl ⟨r,rfl⟩);rw[show((at1+1:Nat):Int)=(at1:Int)+1 from rfl]at g1;cases bb with
    |true =>
     left;obtain⟨y1,y2,y3⟩:=g4.yes rfl;simp[i0,i1,i2,i3,i4,e2,e5,e7,hPs.nn,f1,f2,ix,hd,g1];refine⟨_,_,⟨rfl,rfl⟩,by simp[i0],by simp[i1],by simp[i2],by simp[i3],by simp,iK.trans g3,?_,?_,fun j hj hji=>?_⟩
     ·rw[fY hi,<-Z3,<-y1];exact g2
     ·rw[fY hi];omega
     ·by_cases hje:j=i
      ·subst hje;exact y2
      ·exact iS j hj (by omega)
    |false =>
     right;simp[i0,i1,i2,i3,i4,e2,e5,hPs.nn,f1,f2,ix,hd,g1];refine⟨_,_,⟨rfl,rfl⟩,by simp,iK.trans g3,n',g2,?_,?_,?_⟩
     ·have:=g4.lo;omega
     ·rw[hsz];have:=g4.hi;omega
     ·rintro⟨z1,z2⟩;rw[hdp]at z1;rw[hsz]at z2;have:=g4.fit (by omega) (by omega);cases this)
   (by rintro t s ⟨i0,i1,i2,i3,i4,iK,iC,iB,iS⟩;clear hL;rw[mP]at iC iB;simp[i3,i4,ae.aC];exact⟨_,_,⟨rfl,rfl⟩,by simp[i0],by simp[i1],by simp[i2],iK,iC,iB,iS⟩)
  clear hL;rcases step3 with ⟨t3,s3,rfl,u0,u1,u2,uK,uC,uB,uS⟩|⟨t3,s3,rfl,q6,qK,n',qC,q1,q2,q3⟩
  case inr =>unfold yd;refine⟨false,n',s3,?_,qC,qK,⟨q1,q2,fun h=>(by cases h),fun h1 h2=>absurd ⟨h1,h2⟩ q3⟩⟩;simp[q6,aG,aF]
  case inl =>
  unfold yd;refine⟨true,n+1+a.size+b.size+l.size,s3,?_,uC,uK,⟨by omega,by rw[hsz];omega,fun _=>⟨by rw[hsz];omega,?_,by rw[hsz];omega⟩,fun _ _=>rfl⟩⟩
  ·simp[aG,aF]
  ·have d1:a.depth<=4096-at1:=ae.Ax fun j hj=>by have:=pS j hj hj; omega
   have d2:b.depth<=4096-at1:=ae.Ax fun j hj=>by have:=rS j hj hj;omega
   have d3:l.depth<=4096-at1:=ae.Ax fun j hj=>by have:=uS j hj hj;omega
   rw[hdp];omega
end
theorem Ap:bm prog 35=some [.i .i64 0,.s [],.i .i64 0,.sn,.sn,.sn,.sn]:=by kernel_rfl
theorem QN:bm prog 37=some [.s [],.i .i64 0,.s [],.i .i64 0,.sn,.sn,.sn,.sn]:=by kernel_rfl
theorem JY:bm prog 93=some [.i .i64 0,.s [],.i .i64 0,.sn,.i .i64 0,.s [],.i .i64 0,.sn,.sn,.sn,.sn]:=by kernel_rfl
mutual
def dZ(strF:List Nat->Int):Ex->Bool
 |.mk k nm _ _ b a l=>nF k||((decide (1<=k)&&decide (k<=9))&&(pU strF (lD strF k nm a.len) 0 a&&(fV strF b&&fV strF l)))
def fV(strF:List Nat->Int):ae->Bool
 |.nil _=>true
 |.cons _ x l=>dZ strF x&&fV strF l
def pU(strF:List Nat->Int)(fst:Int):Nat->ae->Bool
 |_,.nil _=>true
 |i,.cons _ x l=>(decide ((i:Int)<fst)||x.atom)&&(dZ strF x&&pU strF fst (i+1) l)
end
theorem tS{strF:List Nat->Int}:∀ {l:ae},fV strF l=true↔∀ j (h:j<l.list.length),dZ strF l.list[j].2=true
 |.nil _=>by simp[fV,ae.list]
 |.cons p x l=>by
  have ih:=tS (strF:=strF) (l:=l);simp only[fV,J1,ih];constructor
  ·rintro⟨h1,h2⟩ j hj;cases j with
   |zero=>exact h1
   |succ j=>exact h2 j (by simpa[ae.list]using hj)
  ·intro h;exact⟨h 0 (by simp[ae.list]),fun j hj=>h (j+1) (by simpa[ae.list]using hj)⟩
theorem zy{strF:List Nat->Int}{fst:Int}:∀ {i:Nat}{l:ae},pU strF fst i l=true↔∀ j (h:j<l.list.length),((((i+j:Nat):Int)<fst)\/l.list[j].2.atom=true)/\dZ strF l.list[j].2=true
 |i,.nil _=>by simp[pU,ae.list]
 |i,.cons p x l=>by
  have ih:=zy (strF:=strF) (fst:=fst) (i:=i+1) (l:=l);simp only[pU,J1,Bool.or_eq_true,decide_eq_true_eq,ih];constructor
  ·rintro⟨h1,h2,h3⟩ j hj;cases j with
   |zero=>exact⟨h1,h2⟩
   |succ j =>have:=h3 j (by simpa[ae.list]using hj);rw[show i+1+j=i+(j+1) by omega]at this;exact this
  ·intro h;have h0:=h 0 (by simp[ae.list]);refine⟨h0.1,h0.2,fun j hj=>?_⟩;have:=h (j+1) (by simpa[ae.list]using hj);rw[show i+(j+1)=i+1+j by omega]at this;exact this
def xV(strF:List Nat->Int)(L:List (List AV× Ex))(i:Nat):Prop:=∀ j (h:j<L.length),j<i->dZ strF L[j].2=true
def H2(strF:List Nat->Int)(fst:Int)(L:List (List AV× Ex))(i:Nat):Prop:=∀ j (h:j<L.length),j<i->(((j:Int)<fst)\/L[j].2.atom=true)/\dZ strF L[j].2=true
def vY(strF:List Nat->Int)(o:Option (AV× St))(st:St)(x:Ex):Prop:=∃ st',o=some (.b (dZ strF x),st')/\Kp [] [] st st'
def Tv(c:Option Self)(x:Ex):Prop:=x.Wf->∀ (st:St) (N:Nat),x.size+10<=N->x.size<=1000000000->vY strF ((Tw c N).call 28 [.ag x.cells] st) st x
theorem Sb:∀ x,Tv c x:=by
 refine Ex.ind fun k nm num ps b a l hb ha hl=>?_
 intro hwf st N hN hn;have hx0:(Ex.mk k nm num ps b a l).Wf:=hwf;simp only[Ex.Wf]at hwf;obtain⟨-,⟨pb,pa,pl⟩,⟨wb,wa,wl⟩,-⟩:=hwf;obtain⟨N,rfl⟩:∃ N',N=N'+4:=⟨N-4,by omega⟩;have hsz:(Ex.mk k nm num ps b a l).size=1+b.size+a.size+l.size:=by simp only[Ex.size]
 rw[hsz]at hN hn;rw[dt rfl func28 rfl (Q1 rfl)];unfold aV;have hce:=cz (st:=st) (Ex.mk k nm num ps b a l).cells;have k0:Kp [] [] st (st.aw (Ex.mk k nm num ps b a l).cells):=.aw _ _ _;have hp:st.next<(st.aw (Ex.mk k nm num ps b a l).cells).next:=Q0 _;have hat:=fun s:St=>Hw (c:=c) (st:=s) (Ex.mk k nm num ps b a l) (N+2)
 have hfs:=fun s:St=>Sq (c:=c) (st:=s) k nm num ps b a l N
 obtain⟨p,hpe⟩:∃ p,st.next=p:=⟨_,rfl⟩;rw[hpe]at hce hp;obtain⟨s0,hs0⟩:∃ s0,st.aw (Ex.mk k nm num ps b a l).cells=s0:=⟨_,rfl⟩;rw[hs0]at k0 hp hce;have at1:∀ {s:St},Kp [] [] s0 s->H8 s p (Ex.mk k nm num ps b a l).cells k nm b a l:=fun kk=>iv (kk.ce hce hp hp (by simp) (by simp))
 have hres:dZ strF (.mk k nm num ps b a l)=(nF k||((decide (1<=k)&&decide (k<=9))&&(pU strF (lD strF k nm a.len) 0 a&&(fV strF b&&fV strF l)))):=by simp only[dZ]
 have hatom:(Ex.mk k nm num ps b a l).atom=nF k:=rfl;obtain⟨s1,hs1⟩:∃ s1,s0.aw (Ex.mk k nm num ps b a l).cells=s1:=⟨_,rfl⟩;have k1:Kp [] [] s0 s1:=by rw[<-hs1];exact .aw _ _ _
 have hat0:=hat s0;rw[hatom,hs1]at hat0;have x0:=at1 (.refl _ _ s0);have x1:=at1 k1;by_cases hA:nF k=true
 ·unfold vY;rw[hres,hA];refine⟨s1,?_,k0.trans k1⟩;rw[hA]at hat0;simp[f28,hpe,hs0,aH,x0.all,hat0,aG,aF]
 ·have hA':nF k=false:=by simpa using hA
  rw[hA']at hat0;by_cases hr1:k<1
  ·unfold vY;rw[hres,hA',decide_eq_false (by omega:¬ 1<=k)];refine⟨s1,?_,k0.trans k1⟩;simp[f28,hpe,hs0,aH,x0.all,hat0,x1.kd,hr1,aG,aF]
  ·by_cases hr2:9<k
   ·unfold vY;rw[hres,hA',decide_eq_false (by omega:¬ k<=9),J3];refine⟨s1,?_,k0.trans k1⟩;simp[f28,hpe,hs0,aH,x0.all,hat0,x1.kd,hr1,hr2,aG,aF]
   ·have hk19:(decide (1<=k)&&decide (k<=9))=true:=by simp;omega
    rw[hA',hk19]at hres;simp only[Bool.false_or,Bool.true_and]at hres;simp[f28,hpe,hs0,aH,x0.all,hat0,x1.kd,x1.a,hr1,hr2,aY underlying32 (a.bK 7) (a.bJ 7),bw];generalize hL:bf _ _ _ _=Lo;have stepA:_:=fW hL 0 a.list.length
     (fun i t s=>ab t 1=.p p 0/\ab t 20=a.slice 7/\ab t 21=.i .i64 (a.len:Int)/\ab t 22=.i .i64 (i:Int)/\Kp [] [] s0 s/\H2 strF (lD strF k nm a.len) a.list i)
     (fun t s=>ab t 1=.p p 0/\Kp [] [] s0 s/\H2 strF (lD strF k nm a.len) a.list a.list.length)
     (fun t s=>ab t 2=.b false/\Kp [] [] s0 s/\dZ strF (.mk k nm num ps b a l)=false)
     (by rw[<-ae.aC];have:=a.bZ;omega)
     ⟨by simp,by simp,by simp,by simp,k1,fun j hj h=>by omega⟩
     (by
      rintro i t s hi ⟨i1,i20,i21,i22,iK,iS⟩;clear hL;have hil:i<a.len:=by rw[ae.aC];exact hi
      have hi2:=qy a.list i (by omega);have e5:(i:Int)<(a.len:Int):=by omega
      have hmem:=Q2 hi;have hsz':=ae.dU hmem;have hln:=a.bZ;have e7:wr .i64 ((i:Int)+1)=((i+1:Nat):Int):=by rw[aZ (by omega) (by omega)];rfl
      obtain⟨r,r1,r2⟩:=eR pa (show 0+7=7 from rfl) hi;have ix:=dV underlying32 cI aH a.flat a.len i hil;rw[<-ae.cZ hil,r1,J4 r2,J5]at ix;obtain⟨wk,-⟩:=ae.sH wa _ hmem;generalize hy:a.list[i].2=y at *;obtain⟨s2,al1,al2,al3,al4⟩:=cO (z:=[.i .i64 0,.s [],.i .i64 0,.sn,.sn,.sn,.sn]) (cells:=y.cells) (by rw[y.aO];rfl) (Ex.dH wk);have K2:=iK.trans al3;have x2:=at1 K2;have l2:rd s2 s.next 0 7=some y.cells:=by
       rw[au al2,cQ];have:=oS y []
       rwa [Z4]at this
      obtain⟨s3,g1,g2⟩:=hfs s2;have c3:=g2.ce al2 al4 al4 (by simp) (by simp);have l3:rd s3 s.next 0 7=some y.cells:=by
       rw[au c3,cQ];have:=oS y []
       rwa [Z4]at this
      have hat3:=Hw (c:=c) (st:=s3) y (N+2);obtain⟨s4,hs4⟩:∃ s4,s3.aw y.cells=s4:=⟨_,rfl⟩;have k4:Kp [] [] s3 s4:=by rw[<-hs4];exact .aw _ _ _
      rw[hs4]at hat3;have c4:=k4.ce c3 (Q7 al4 g2.next) (Q7 al4 g2.next) (by simp) (by simp);have l4:rd s4 s.next 0 7=some y.cells:=by
       rw[au c4,cQ];have:=oS y []
       rwa [Z4]at this
      have hfalse:¬ ((((i:Int)<lD strF k nm a.len)\/y.atom=true)/\dZ strF y=true)->dZ strF (.mk k nm num ps b a l)=false:=by
       intro hh;rw[hres];have:pU strF (lD strF k nm a.len) 0 a=false:=by rw[Z5];intro ht;have:=zy.1 ht i hi;rw[Q8,hy]at this;exact hh this
       rw[this];rfl
      have hnext:((((i:Int)<lD strF k nm a.len)\/y.atom=true)/\dZ strF y=true)->H2 strF (lD strF k nm a.len) a.list (i+1):=by
       intro hh j hj hji;by_cases hje:j=i
       ·subst hje;rw[hy];exact hh
       ·exact iS j hj (by omega)
      generalize lD strF k nm a.len=fs at *;by_cases hge:fs<=(i:Int)
      ·cases hya:y.atom with
       |false =>
        right;rw[hya]at hat3;simp[i1,i20,i21,i22,e5,ix,aH,oS,aJ,Ap,aI cI aH,y.aO,al1,x2.all,g1,hge,l3,hat3];exact⟨_,_,⟨rfl,rfl⟩,by simp,(K2.trans g2).trans k4,hfalse fun h=>by
         rcases h.1 with h|h
         ·omega
         ·rw[hya]at h;cases h⟩
       |true =>
        rw[hya]at hat3;obtain⟨s5,h1,h2⟩:=ha _ hmem (hy▸wk) s4 (N+3) (by rw[hy];omega) (by rw[hy];omega);rw[hy]at h1;cases hyn:dZ strF y with
        |true =>left;rw[hyn]at h1;simp[i1,i20,i21,i22,e5,e7,ix,aH,oS,aJ,Ap,aI cI aH,y.aO,al1,x2.all,g1,hge,l3,l4,hat3,h1];refine⟨_,_,⟨rfl,rfl⟩,by simp[i1],by simp[i20],by simp[i21],by simp,((K2.trans g2).trans k4).trans h2,hnext ⟨.inr hya,hyn⟩⟩
        |false =>right;rw[hyn]at h1;simp[i1,i20,i21,i22,e5,ix,aH,oS,aJ,Ap,aI cI aH,y.aO,al1,x2.all,g1,hge,l3,l4,hat3,h1];exact⟨_,_,⟨rfl,rfl⟩,by simp,((K2.trans g2).trans k4).trans h2,hfalse fun h=>by rw[hyn]at h;cases h.2⟩
      ·obtain⟨s5,h1,h2⟩:=ha _ hmem (hy▸wk) s3 (N+3) (by rw[hy];omega) (by rw[hy];omega);rw[hy]at h1;cases hyn:dZ strF y with
       |true =>left;rw[hyn]at h1;simp[i1,i20,i21,i22,e5,e7,ix,aH,oS,aJ,Ap,aI cI aH,y.aO,al1,x2.all,g1,hge,l3,h1];refine⟨_,_,⟨rfl,rfl⟩,by simp[i1],by simp[i20],by simp[i21],by simp,(K2.trans g2).trans h2,hnext ⟨.inl (by omega),hyn⟩⟩
       |false =>right;rw[hyn]at h1;simp[i1,i20,i21,i22,e5,ix,aH,oS,aJ,Ap,aI cI aH,y.aO,al1,x2.all,g1,hge,l3,h1];exact⟨_,_,⟨rfl,rfl⟩,by simp,(K2.trans g2).trans h2,hfalse fun h=>by rw[hyn]at h;cases h.2⟩)
     (by
      rintro t s ⟨i1,i20,i21,i22,iK,iS⟩;clear hL;have e5:¬ (a.list.length:Int)<(a.len:Int):=by rw[ae.aC];omega
      simp[i21,i22,e5];exact⟨_,_,⟨rfl,rfl⟩,by simp[i1],iK,iS⟩)
    clear hL;rcases stepA with ⟨tA,sA,rfl,pA,kA,nA⟩|⟨tA,sA,rfl,q2,qK,qn⟩
    case inr =>unfold vY;refine⟨sA,?_,k0.trans qK⟩;rw[qn];simp[q2,aG,aF]
    case inl =>
    have xA:=at1 kA;simp[pA,xA.b,aY underlying23 (b.bK 8) (b.bJ 8),bw];generalize hL:bf _ _ _ _=Lo;have stepB:_:=fW hL 2 b.list.length
     (fun i t s=>ab t 1=.p p 0/\ab t 43=b.slice 8/\ab t 44=.i .i64 (b.len:Int)/\ab t 45=.i .i64 (i:Int)/\Kp [] [] s0 s/\xV strF b.list i)
     (fun t s=>ab t 1=.p p 0/\Kp [] [] s0 s/\xV strF b.list b.list.length)
     (fun t s=>ab t 2=.b false/\Kp [] [] s0 s/\dZ strF (.mk k nm num ps b a l)=false)
     (by rw[<-ae.aC];have:=b.bZ;omega)
     ⟨by simp[pA],by simp,by simp,by simp,kA,fun j hj h=>by omega⟩
     (by
      rintro i t s hi ⟨i1,i20,i21,i22,iK,iS⟩;clear hL;have hil:i<b.len:=by rw[ae.aC];exact hi
      have hi2:=qy b.list i (by omega);have e5:(i:Int)<(b.len:Int):=by omega
      have hmem:=Q2 hi;have hsz':=ae.dU hmem;have hln:=b.bZ;have e7:wr .i64 ((i:Int)+1)=((i+1:Nat):Int):=by rw[aZ (by omega) (by omega)];rfl
      obtain⟨r,r1,r2⟩:=eR pb (show 1+7=8 from rfl) hi;have ix:=dV (P:=prog) underlying23 dn cV b.flat b.len i hil;rw[<-ae.cZ hil,r1]at ix;obtain⟨wk,wp⟩:=ae.sH wb _ hmem;generalize hy:b.list[i].2=y at *;generalize b.list[i].1=pf at *;obtain⟨s2,al1,al2,al3,al4⟩:=cO (s:=s) (z:=[.s [],.i .i64 0,.s [],.i .i64 0,.sn,.sn,.sn,.sn]) (cells:=pf++y.cells) (by rw[Q9,r2,y.aO];rfl) (gX wp (Ex.dH wk));have K2:=iK.trans al3;have hlen:(pf++y.cells).length=8:=by rw[Q9,r2,y.aO]
      have ht:takeN 8 (pf++(y.cells++r))=some (pf++y.cells):=by
       have:=nP (pf++y.cells) r
       rwa [hlen,Z6]at this
      have l2:rd s2 s.next 1 7=some y.cells:=by rw[au al2,lJ _ _ _ (by rw[hlen];decide),Q4,r2];simp[r2,Q6,y.aO,Z7]
      have hfalse:¬ dZ strF y=true->dZ strF (.mk k nm num ps b a l)=false:=by
       intro hh;rw[hres];have:fV strF b=false:=by rw[Z5];intro ht;have:=tS.1 ht i hi;rw[hy]at this;exact hh this
       rw[this];rw[Bool.false_and,J3]
      have hnext:dZ strF y=true->xV strF b.list (i+1):=by
       intro hh j hj hji;by_cases hje:j=i
       ·subst hje;rw[hy];exact hh
       ·exact iS j hj (by omega)
      obtain⟨s5,h1,h2⟩:=hb _ hmem (hy▸wk) s2 (N+3) (by rw[hy];omega) (by rw[hy];omega);rw[hy]at h1;cases hyn:dZ strF y with
      |true =>left;rw[hyn]at h1;simp[i20,i21,i22,e5,e7,ix,cV,ht,aJ,QN,aI dn cV,r2,y.aO,al1,aH,l2,h1];refine⟨_,_,⟨rfl,rfl⟩,by simp[i1],by simp[i20],by simp[i21],by simp,K2.trans h2,hnext hyn⟩
      |false =>right;rw[hyn]at h1;simp[i20,i21,i22,e5,ix,cV,ht,aJ,QN,aI dn cV,r2,y.aO,al1,aH,l2,h1];exact⟨_,_,⟨rfl,rfl⟩,by simp,K2.trans h2,hfalse (by rw[hyn];decide)⟩)
     (by rintro t s ⟨i1,i20,i21,i22,iK,iS⟩;clear hL;simp[i21,i22,ae.aC];exact⟨_,_,⟨rfl,rfl⟩,by simp[i1],iK,iS⟩)
    clear hL;rcases stepB with ⟨tB,sB,rfl,pB,kB,nB⟩|⟨tX,sX,rfl,q2,qK,qn⟩
    case inr =>unfold vY;refine⟨sX,?_,k0.trans qK⟩;rw[qn];simp[q2,aG,aF]
    case inl =>
    have xB:=at1 kB;simp[pB,xB.l,aY underlying33 (l.bK 11) (l.bJ 11),bw];generalize hL:bf _ _ _ _=Lo;have stepC:_:=fW hL 4 l.list.length
     (fun i t s=>ab t 1=.p p 0/\ab t 55=l.slice 11/\ab t 56=.i .i64 (l.len:Int)/\ab t 57=.i .i64 (i:Int)/\Kp [] [] s0 s/\xV strF l.list i)
     (fun t s=>ab t 1=.p p 0/\Kp [] [] s0 s/\xV strF l.list l.list.length)
     (fun t s=>ab t 2=.b false/\Kp [] [] s0 s/\dZ strF (.mk k nm num ps b a l)=false)
     (by rw[<-ae.aC];have:=l.bZ;omega)
     ⟨by simp[pB],by simp,by simp,by simp,kB,fun j hj h=>by omega⟩
     (by
      rintro i t s hi ⟨i1,i20,i21,i22,iK,iS⟩;clear hL;have hil:i<l.len:=by rw[ae.aC];exact hi
      have hi2:=qy l.list i (by omega);have e5:(i:Int)<(l.len:Int):=by omega
      have hmem:=Q2 hi;have hsz':=ae.dU hmem;have hln:=l.bZ;have e7:wr .i64 ((i:Int)+1)=((i+1:Nat):Int):=by rw[aZ (by omega) (by omega)];rfl
      obtain⟨r,r1,r2⟩:=eR pl (show 4+7=11 from rfl) hi;have ix:=dV (P:=prog) underlying33 cy bU l.flat l.len i hil;rw[<-ae.cZ hil,r1]at ix;obtain⟨wk,wp⟩:=ae.sH wl _ hmem;generalize hy:l.list[i].2=y at *;generalize l.list[i].1=pf at *;obtain⟨s2,al1,al2,al3,al4⟩:=cO (s:=s) (z:=[.i .i64 0,.s [],.i .i64 0,.sn,.i .i64 0,.s [],.i .i64 0,.sn,.sn,.sn,.sn]) (cells:=pf++y.cells) (by rw[Q9,r2,y.aO];rfl) (gX wp (Ex.dH wk));have K2:=iK.trans al3;have hlen:(pf++y.cells).length=11:=by rw[Q9,r2,y.aO]
      have ht:takeN 11 (pf++(y.cells++r))=some (pf++y.cells):=by
       have:=nP (pf++y.cells) r
       rwa [hlen,Z6]at this
      have l2:rd s2 s.next 4 7=some y.cells:=by rw[au al2,lJ _ _ _ (by rw[hlen];decide),Q4,r2];simp[r2,Q6,y.aO,Z7]
      have hfalse:¬ dZ strF y=true->dZ strF (.mk k nm num ps b a l)=false:=by
       intro hh;rw[hres];have:fV strF l=false:=by rw[Z5];intro ht;have:=tS.1 ht i hi;rw[hy]at this;exact hh this
       rw[this];rw[J3,J3]
      have hnext:dZ strF y=true->xV strF l.list (i+1):=by
       intro hh j hj hji;by_cases hje:j=i
       ·subst hje;rw[hy];exact hh
       ·exact iS j hj (by omega)
      obtain⟨s5,h1,h2⟩:=hl _ hmem (hy▸wk) s2 (N+3) (by rw[hy];omega) (by rw[hy];omega);rw[hy]at h1;cases hyn:dZ strF y with
      |true =>left;rw[hyn]at h1;simp[i20,i21,i22,e5,e7,ix,bU,ht,aJ,JY,aI cy bU,r2,y.aO,al1,aH,l2,h1];refine⟨_,_,⟨rfl,rfl⟩,by simp[i1],by simp[i20],by simp[i21],by simp,K2.trans h2,hnext hyn⟩
      |false =>right;rw[hyn]at h1;simp[i20,i21,i22,e5,ix,bU,ht,aJ,JY,aI cy bU,r2,y.aO,al1,aH,l2,h1];exact⟨_,_,⟨rfl,rfl⟩,by simp,K2.trans h2,hfalse (by rw[hyn];decide)⟩)
     (by rintro t s ⟨i1,i20,i21,i22,iK,iS⟩;clear hL;simp[i21,i22,ae.aC];exact⟨_,_,⟨rfl,rfl⟩,by simp[i1],iK,iS⟩)
    clear hL;rcases stepC with ⟨tC,sC,rfl,pC,kC,nC⟩|⟨tX,sX,rfl,q2,qK,qn⟩
    case inr =>unfold vY;refine⟨sX,?_,k0.trans qK⟩;rw[qn];simp[q2,aG,aF]
    case inl =>
    have xC:=at1 kC;unfold vY;have hr:dZ strF (.mk k nm num ps b a l)=true:=by rw[hres,J1,J1];refine⟨zy.2 fun j hj=>?_,tS.2 fun j hj=>nB j hj hj,tS.2 fun j hj=>nC j hj hj⟩;rw[Q8];exact nA j hj hj
    rw[hr];refine⟨sC,?_,k0.trans kC⟩;simp[aG,aF]
theorem JM{x:List AV}{k:Bool}(h:P.underlying ty=some (.pointer e)):Go.Ev.binOp P ty k .neq (.rp x) .pn=some (.b true):=by
 show mb P ty k .neq (.rp x) .pn=_
 simp[mb,mG,ik,h,mQ,AV.uZ,orElse]
theorem aan{k:Bool}(h:P.underlying ty=some (.pointer e)):Go.Ev.binOp P ty k .neq .pn .pn=some (.b false):=by
 show mb P ty k .neq .pn .pn=_
 simp[mb,mG,ik,h,mQ,AV.uZ,orElse]
def Dz:List (List ah)->AV->Prop
 |[],w=>w=.pn
 |l::sc,w=>∃ v w',w=.rp [v,w']/\(de v (l.map .s)/\l.length<=9223372036854775807)/\Dz sc w'
def hasB(sc:List (List ah))(s:ah):Bool:=sc.any fun l=>decide (s∈l)
theorem Rv(s:ah){sc:List (List ah)}{w wv:AV}{X:List Nat}(hw:gF X st w wv)(hf:Dz sc wv)(hN:sc.length+10000000000000000002<=N):
  (Tw c N).call 68 [w,.s s] st=some (.b (hasB sc s),st):=by
 obtain⟨N,rfl⟩:∃ N',N=N'+1:=⟨N-1,by omega⟩;refine jc rfl rfl (.inr (by decide)) (.cons hw (.cons (.pure rfl) .nil)) func68 rfl (Q1 rfl) rfl ?_;unfold aV;simp[f68,bw];generalize hL:bf _ _ _ _=L;have lr:=fW hL 0 sc.length (fun i t _=>∃ w,ab t 0=w/\Dz (sc.drop i) w/\ab t 1=.s s/\hasB (sc.take i) s=false) (fun _ _=>hasB sc s=false) (fun t _=>ab t 4=.b true/\hasB sc s=true) (by omega)
  ⟨wv,by simp,by simpa using hf,by simp,by simp[hasB]⟩
  (by
   rintro i t st hi ⟨w,i0,iF,i1,iN⟩;clear hL;rw[List.drop_eq_getElem_cons hi]at iF;obtain⟨v,w',rfl,⟨h1,h2⟩,h3⟩:=iF;have hc:=fun st:St=>Hp (c:=c) (st:=st) s h1 h2 (N:=N) (by omega)
   by_cases hb:s∈sc[i]
   ·right;simp[i0,i1,JM underlying75,hc,hb];unfold hasB;exact List.any_eq_true.2 ⟨sc[i],Q2 hi,by simpa using hb⟩
   ·left;simp[i0,i1,JM underlying75,hc,hb];refine⟨h3,?_⟩;rw[<-Z8 hi];unfold hasB at *;simp only[List.any_append,iN];simpa using hb)
  (by rintro t st ⟨w,i0,iF,i1,iN⟩;clear hL;rw[List.drop_length]at iF;obtain rfl:w=.pn:=iF;simp[i0,aan underlying75];simpa using iN)
 clear hL;rcases lr with ⟨t1,s1,rfl,hT⟩|⟨t1,s1,rfl,hT,hF⟩
 ·rw[hT];simp[aG,aF]
 ·rw[hF];simp[hT,aG,aF]
def eH(fs:ah)(nm:ah)(num:Int)(pn bn an ln:Nat):Bool :=
 (fs.contains 110||decide (nm=[]))&&((fs.contains 105||decide (num=0))&&((fs.contains 112||decide (pn=0))&&((fs.contains 98||decide (bn=0))&&((fs.contains 97||decide (an=0))&&(fs.contains 99||decide (ln=0))))))
theorem ZX(k:Int)(nm:ah)(num:Int)(hp:de ps (l.map .s))(b a al:ae)(r:List AV)(hN:2<=N)(hpu:aQ ((Ex.mk k nm num ps b a al).cells++r)=true):
  (Tw c N).call 67 [.rp ((Ex.mk k nm num ps b a al).cells++r),.s [110]] st=some (.b (eH [110] nm num l.length b.len a.len al.len),st):=by
 obtain⟨N,rfl⟩:∃ N',N=N'+1:=⟨N-1,by omega⟩;refine jc (X:=[]) rfl rfl (.inr (by decide)) (.pure (by simpa[aQ,bg]using hpu)) func67 rfl (Q1 rfl) rfl ?_;unfold aV eH;have hce:=cz (st:=aK) [.s [110]];have hk:∀ x,x∈[110,105,112,98,97,99]->(Tw c N).call 105 [.s [x],.p aK.next 0] (aK.aw [.s [110]])=some (.b (([110]:ah).contains x),aK.aw [.s [110]]):=fun x hx =>
  wS (X:=[]) (by simp[tz]) hx (.ptr hce (Q0 _) (Q0 _) (by simp) (by simp) (.cons (.pure rfl) .nil)) (by omega)
 have lp:=fun st:St=>hp.sLen (st:=st) gz
 have lb:=fun st:St=>aY (st:=st) underlying23 (b.bK 8) (b.bJ 8)
 have la:=fun st:St=>aY (st:=st) underlying32 (a.bK 7) (a.bJ 7)
 have ll:=fun st:St=>aY (st:=st) underlying33 (al.bK 11) (al.bJ 11)
 by_cases h2:num=0
 case neg=>simp[f67,hk,aG,aF,Ex.cells,h2]
 by_cases h3:l.length=0
 case neg=>simp[f67,hk,lp,aG,aF,Ex.cells,h2,h3]
 by_cases h4:b.len=0
 case neg=>simp[f67,hk,lp,lb,aG,aF,Ex.cells,h2,h3,h4]
 by_cases h5:a.len=0
 case neg=>simp[f67,hk,lp,lb,la,aG,aF,Ex.cells,h2,h3,h4,h5]
 by_cases h6:al.len=0
 case neg=>simp[f67,hk,lp,lb,la,ll,aG,aF,Ex.cells,h2,h3,h4,h5,h6]
 simp[f67,hk,lp,lb,la,ll,aG,aF,Ex.cells,h2,h3,h4,h5,h6]
theorem JR(k:Int)(nm:ah)(num:Int)(hp:de ps (l.map .s))(b a al:ae)(r:List AV)(hN:2<=N)(hpu:aQ ((Ex.mk k nm num ps b a al).cells++r)=true):
  (Tw c N).call 67 [.rp ((Ex.mk k nm num ps b a al).cells++r),.s [105]] st=some (.b (eH [105] nm num l.length b.len a.len al.len),st):=by
 obtain⟨N,rfl⟩:∃ N',N=N'+1:=⟨N-1,by omega⟩;refine jc (X:=[]) rfl rfl (.inr (by decide)) (.pure (by simpa[aQ,bg]using hpu)) func67 rfl (Q1 rfl) rfl ?_;unfold aV eH;have hce:=cz (st:=aK) [.s [105]];have hk:∀ x,x∈[110,105,112,98,97,99]->(Tw c N).call 105 [.s [x],.p aK.next 0] (aK.aw [.s [105]])=some (.b (([105]:ah).contains x),aK.aw [.s [105]]):=fun x hx =>
  wS (X:=[]) (by simp[tz]) hx (.ptr hce (Q0 _) (Q0 _) (by simp) (by simp) (.cons (.pure rfl) .nil)) (by omega)
 have lp:=fun st:St=>hp.sLen (st:=st) gz
 have lb:=fun st:St=>aY (st:=st) underlying23 (b.bK 8) (b.bJ 8)
 have la:=fun st:St=>aY (st:=st) underlying32 (a.bK 7) (a.bJ 7)
 have ll:=fun st:St=>aY (st:=st) underlying33 (al.bK 11) (al.bJ 11)
 by_cases h1:nm=[]
 case neg=>simp[f67,hk,cM,aG,aF,Ex.cells,h1]
 by_cases h3:l.length=0
 case neg=>simp[f67,hk,cM,lp,aG,aF,Ex.cells,h1,h3]
 by_cases h4:b.len=0
 case neg=>simp[f67,hk,cM,lp,lb,aG,aF,Ex.cells,h1,h3,h4]
 by_cases h5:a.len=0
 case neg=>simp[f67,hk,cM,lp,lb,la,aG,aF,Ex.cells,h1,h3,h4,h5]
 by_cases h6:al.len=0
 case neg=>simp[f67,hk,cM,lp,lb,la,ll,aG,aF,Ex.cells,h1,h3,h4,h5,h6]
 simp[f67,hk,cM,lp,lb,la,ll,aG,aF,Ex.cells,h1,h3,h4,h5,h6]
theorem JN(k:Int)(nm:ah)(num:Int)(hp:de ps (l.map .s))(b a al:ae)(r:List AV)(hN:2<=N)(hpu:aQ ((Ex.mk k nm num ps b a al).cells++r)=true):
  (Tw c N).call 67 [.rp ((Ex.mk k nm num ps b a al).cells++r),.s [110,97]] st=some (.b (eH [110,97] nm num l.length b.len a.len al.len),st):=by
 obtain⟨N,rfl⟩:∃ N',N=N'+1:=⟨N-1,by omega⟩;refine jc (X:=[]) rfl rfl (.inr (by decide)) (.pure (by simpa[aQ,bg]using hpu)) func67 rfl (Q1 rfl) rfl ?_;unfold aV eH;have hce:=cz (st:=aK) [.s [110,97]];have hk:∀ x,x∈[110,105,112,98,97,99]->(Tw c N).call 105 [.s [x],.p aK.next 0] (aK.aw [.s [110,97]])=some (.b (([110,97]:ah).contains x),aK.aw [.s [110,97]]):=fun x hx =>
  wS (X:=[]) (by simp[tz]) hx (.ptr hce (Q0 _) (Q0 _) (by simp) (by simp) (.cons (.pure rfl) .nil)) (by omega)
 have lp:=fun st:St=>hp.sLen (st:=st) gz
 have lb:=fun st:St=>aY (st:=st) underlying23 (b.bK 8) (b.bJ 8)
 have la:=fun st:St=>aY (st:=st) underlying32 (a.bK 7) (a.bJ 7)
 have ll:=fun st:St=>aY (st:=st) underlying33 (al.bK 11) (al.bJ 11)
 by_cases h2:num=0
 case neg=>simp[f67,hk,aG,aF,Ex.cells,h2]
 by_cases h3:l.length=0
 case neg=>simp[f67,hk,lp,aG,aF,Ex.cells,h2,h3]
 by_cases h4:b.len=0
 case neg=>simp[f67,hk,lp,lb,aG,aF,Ex.cells,h2,h3,h4]
 by_cases h6:al.len=0
 case neg=>simp[f67,hk,lp,lb,ll,aG,aF,Ex.cells,h2,h3,h4,h6]
 simp[f67,hk,lp,lb,ll,aG,aF,Ex.cells,h2,h3,h4,h6]
theorem acL(k:Int)(nm:ah)(num:Int)(hp:de ps (l.map .s))(b a al:ae)(r:List AV)(hN:2<=N)(hpu:aQ ((Ex.mk k nm num ps b a al).cells++r)=true):
  (Tw c N).call 67 [.rp ((Ex.mk k nm num ps b a al).cells++r),.s [112,97]] st=some (.b (eH [112,97] nm num l.length b.len a.len al.len),st):=by
 obtain⟨N,rfl⟩:∃ N',N=N'+1:=⟨N-1,by omega⟩;refine jc (X:=[]) rfl rfl (.inr (by decide)) (.pure (by simpa[aQ,bg]using hpu)) func67 rfl (Q1 rfl) rfl ?_;unfold aV eH;have hce:=cz (st:=aK) [.s [112,97]];have hk:∀ x,x∈[110,105,112,98,97,99]->(Tw c N).call 105 [.s [x],.p aK.next 0] (aK.aw [.s [112,97]])=some (.b (([112,97]:ah).contains x),aK.aw [.s [112,97]]):=fun x hx =>
  wS (X:=[]) (by simp[tz]) hx (.ptr hce (Q0 _) (Q0 _) (by simp) (by simp) (.cons (.pure rfl) .nil)) (by omega)
 have lp:=fun st:St=>hp.sLen (st:=st) gz
 have lb:=fun st:St=>aY (st:=st) underlying23 (b.bK 8) (b.bJ 8)
 have la:=fun st:St=>aY (st:=st) underlying32 (a.bK 7) (a.bJ 7)
 have ll:=fun st:St=>aY (st:=st) underlying33 (al.bK 11) (al.bJ 11)
 by_cases h1:nm=[]
 case neg=>simp[f67,hk,cM,aG,aF,Ex.cells,h1]
 by_cases h2:num=0
 case neg=>simp[f67,hk,cM,aG,aF,Ex.cells,h1,h2]
 by_cases h4:b.len=0
 case neg=>simp[f67,hk,cM,lb,aG,aF,Ex.cells,h1,h2,h4]
 by_cases h6:al.len=0
 case neg=>simp[f67,hk,cM,lb,ll,aG,aF,Ex.cells,h1,h2,h4,h6]
 simp[f67,hk,cM,lb,ll,aG,aF,Ex.cells,h1,h2,h4,h6]
theorem Wu(k:Int)(nm:ah)(num:Int)(hp:de ps (l.map .s))(b a al:ae)(r:List AV)(hN:2<=N)(hpu:aQ ((Ex.mk k nm num ps b a al).cells++r)=true):
  (Tw c N).call 67 [.rp ((Ex.mk k nm num ps b a al).cells++r),.s [97]] st=some (.b (eH [97] nm num l.length b.len a.len al.len),st):=by
 obtain⟨N,rfl⟩:∃ N',N=N'+1:=⟨N-1,by omega⟩;refine jc (X:=[]) rfl rfl (.inr (by decide)) (.pure (by simpa[aQ,bg]using hpu)) func67 rfl (Q1 rfl) rfl ?_;unfold aV eH;have hce:=cz (st:=aK) [.s [97]];have hk:∀ x,x∈[110,105,112,98,97,99]->(Tw c N).call 105 [.s [x],.p aK.next 0] (aK.aw [.s [97]])=some (.b (([97]:ah).contains x),aK.aw [.s [97]]):=fun x hx =>
  wS (X:=[]) (by simp[tz]) hx (.ptr hce (Q0 _) (Q0 _) (by simp) (by simp) (.cons (.pure rfl) .nil)) (by omega)
 have lp:=fun st:St=>hp.sLen (st:=st) gz
 have lb:=fun st:St=>aY (st:=st) underlying23 (b.bK 8) (b.bJ 8)
 have la:=fun st:St=>aY (st:=st) underlying32 (a.bK 7) (a.bJ 7)
 have ll:=fun st:St=>aY (st:=st) underlying33 (al.bK 11) (al.bJ 11)
 by_cases h1:nm=[]
 case neg=>simp[f67,hk,cM,aG,aF,Ex.cells,h1]
 by_cases h2:num=0
 case neg=>simp[f67,hk,cM,aG,aF,Ex.cells,h1,h2]
 by_cases h3:l.length=0
 case neg=>simp[f67,hk,cM,lp,aG,aF,Ex.cells,h1,h2,h3]
 by_cases h4:b.len=0
 case neg=>simp[f67,hk,cM,lp,lb,aG,aF,Ex.cells,h1,h2,h3,h4]
 by_cases h6:al.len=0
 case neg=>simp[f67,hk,cM,lp,lb,ll,aG,aF,Ex.cells,h1,h2,h3,h4,h6]
 simp[f67,hk,cM,lp,lb,ll,aG,aF,Ex.cells,h1,h2,h3,h4,h6]
theorem Vr(k:Int)(nm:ah)(num:Int)(hp:de ps (l.map .s))(b a al:ae)(r:List AV)(hN:2<=N)(hpu:aQ ((Ex.mk k nm num ps b a al).cells++r)=true):
  (Tw c N).call 67 [.rp ((Ex.mk k nm num ps b a al).cells++r),.s [98,97]] st=some (.b (eH [98,97] nm num l.length b.len a.len al.len),st):=by
 obtain⟨N,rfl⟩:∃ N',N=N'+1:=⟨N-1,by omega⟩;refine jc (X:=[]) rfl rfl (.inr (by decide)) (.pure (by simpa[aQ,bg]using hpu)) func67 rfl (Q1 rfl) rfl ?_;unfold aV eH;have hce:=cz (st:=aK) [.s [98,97]];have hk:∀ x,x∈[110,105,112,98,97,99]->(Tw c N).call 105 [.s [x],.p aK.next 0] (aK.aw [.s [98,97]])=some (.b (([98,97]:ah).contains x),aK.aw [.s [98,97]]):=fun x hx =>
  wS (X:=[]) (by simp[tz]) hx (.ptr hce (Q0 _) (Q0 _) (by simp) (by simp) (.cons (.pure rfl) .nil)) (by omega)
 have lp:=fun st:St=>hp.sLen (st:=st) gz
 have lb:=fun st:St=>aY (st:=st) underlying23 (b.bK 8) (b.bJ 8)
 have la:=fun st:St=>aY (st:=st) underlying32 (a.bK 7) (a.bJ 7)
 have ll:=fun st:St=>aY (st:=st) underlying33 (al.bK 11) (al.bJ 11)
 by_cases h1:nm=[]
 case neg=>simp[f67,hk,cM,aG,aF,Ex.cells,h1]
 by_cases h2:num=0
 case neg=>simp[f67,hk,cM,aG,aF,Ex.cells,h1,h2]
 by_cases h3:l.length=0
 case neg=>simp[f67,hk,cM,lp,aG,aF,Ex.cells,h1,h2,h3]
 by_cases h6:al.len=0
 case neg=>simp[f67,hk,cM,lp,ll,aG,aF,Ex.cells,h1,h2,h3,h6]
 simp[f67,hk,cM,lp,ll,aG,aF,Ex.cells,h1,h2,h3,h6]
theorem abf(k:Int)(nm:ah)(num:Int)(hp:de ps (l.map .s))(b a al:ae)(r:List AV)(hN:2<=N)(hpu:aQ ((Ex.mk k nm num ps b a al).cells++r)=true):
  (Tw c N).call 67 [.rp ((Ex.mk k nm num ps b a al).cells++r),.s [97,99]] st=some (.b (eH [97,99] nm num l.length b.len a.len al.len),st):=by
 obtain⟨N,rfl⟩:∃ N',N=N'+1:=⟨N-1,by omega⟩;refine jc (X:=[]) rfl rfl (.inr (by decide)) (.pure (by simpa[aQ,bg]using hpu)) func67 rfl (Q1 rfl) rfl ?_;unfold aV eH;have hce:=cz (st:=aK) [.s [97,99]];have hk:∀ x,x∈[110,105,112,98,97,99]->(Tw c N).call 105 [.s [x],.p aK.next 0] (aK.aw [.s [97,99]])=some (.b (([97,99]:ah).contains x),aK.aw [.s [97,99]]):=fun x hx =>
  wS (X:=[]) (by simp[tz]) hx (.ptr hce (Q0 _) (Q0 _) (by simp) (by simp) (.cons (.pure rfl) .nil)) (by omega)
 have lp:=fun st:St=>hp.sLen (st:=st) gz
 have lb:=fun st:St=>aY (st:=st) underlying23 (b.bK 8) (b.bJ 8)
 have la:=fun st:St=>aY (st:=st) underlying32 (a.bK 7) (a.bJ 7)
 have ll:=fun st:St=>aY (st:=st) underlying33 (al.bK 11) (al.bJ 11)
 by_cases h1:nm=[]
 case neg=>simp[f67,hk,cM,aG,aF,Ex.cells,h1]
 by_cases h2:num=0
 case neg=>simp[f67,hk,cM,aG,aF,Ex.cells,h1,h2]
 by_cases h3:l.length=0
 case neg=>simp[f67,hk,cM,lp,aG,aF,Ex.cells,h1,h2,h3]
 by_cases h4:b.len=0
 case neg=>simp[f67,hk,cM,lp,lb,aG,aF,Ex.cells,h1,h2,h3,h4]
 simp[f67,hk,cM,lp,lb,aG,aF,Ex.cells,h1,h2,h3,h4]
structure Ck(st:St)(cr mr:Nat)(w:Int)(C:ah->Option AV):Prop where
 ce:∃ al,st.ce cr=some ([.m mr,.i .i64 w],cr,al)
 crl:cr<st.next
 mrl:mr<st.next
 ne:mr≠cr
 mp:cS st mr C
 err:wH w
theorem Ck.keep{cr mr:Nat}{w:Int}{C:ah->Option AV}{A B:List Nat}{st':St}(h:Ck st cr mr w C)(k:Kp A B st st')(h1:cr∉A)(h2:mr∉A)(h3:cr∉B):Ck st' cr mr w C:=by obtain⟨al,hc⟩:=h.ce;exact⟨⟨al,k.ce hc h.crl h.crl h1 h3⟩,Q7 h.crl k.next,Q7 h.mrl k.next,h.ne,h.mp.keep k h.mrl h2,h.err⟩
theorem mj{e:Int}(is:Bool)(h:Ck st cr mr w C)(he:wH e)(he0:e≠0)(hN:2<=N):
  ∃ st' w',(Tw c N).call 32 [.p cr 0,.b is,.i .i64 e] st=some (.tu [],st')/\Ck st' cr mr w' C/\Kp [cr] [cr] st st'/\(w'=0↔w=0/\is=false):=by
 obtain⟨N,rfl⟩:∃ N',N=N'+1:=⟨N-1,by omega⟩;rw[dt rfl func32 rfl (Q1 rfl)];unfold aV;obtain⟨al,hc⟩:=h.ce;have r1:=fun st:St=>MC (c:=c) (st:=st) he (N:=N) (by omega)
 have r2:=fun st:St=>MC (c:=c) (st:=st) h.err (N:=N) (by omega)
 cases is with
 |false =>
  refine⟨st,w,?_,h,.refl _ _ _,by simp⟩;simp[f32,br];rw[eJ (fl:=[(7,0)])]
  ·simp[aG,aF]
  ·kernel_rfl
  ·intro R hR;simp at hR;subst hR;rfl
 |true =>
  have hw:=bP hc 1 [.i .i64 e] (by simp) (by simp);by_cases hr:FD w<FD e
  ·refine⟨_,e,?_,?_,.ax (by simp) (by simp) (r:=cr) (l:=[.m mr,.i .i64 e]) (g:=cr),?_⟩
   ·simp[f32,br];rw[eJ (fl:=[(7,0)])]
    ·simp[r1,r2,au hc,hr,db aak Vb,hw,aG,aF]
    ·kernel_rfl
    ·intro R hR;simp[r1,r2,au hc,hr]at hR;subst hR;simp only[Z9,V0,V1];refine JG rfl rfl rfl (u:=.i .i64 w) (s:=st) ?_ (OS _ _);simp[au hc]
   ·exact⟨⟨_,cj _ _ _⟩,h.crl,h.mrl,h.ne,by obtain⟨es,k,h1,h2⟩:=h.mp;exact⟨es,k,by rw[AH h.ne];exact h1,h2⟩,he⟩
   ·simp[he0]
  ·refine⟨st,w,?_,h,.refl _ _ _,?_⟩
   ·simp[f32,br];rw[eJ (fl:=[(7,0)])]
    ·simp[r1,r2,au hc,hr,aG,aF]
    ·kernel_rfl
    ·intro R hR;simp[r1,r2,au hc,hr]at hR;subst hR;simp only[Z9,V0,V1];refine JG rfl rfl rfl (u:=.i .i64 w) (s:=st) ?_ (OS _ _);simp[au hc]
   ·simp;rintro rfl;refine hr ?_;rcases he with rfl|rfl|rfl|rfl
    ·exact absurd rfl he0
    ·decide
    ·decide
    ·decide
theorem ir{p:List AV}(h:eO 1 p):p=[.s (fD (p.headD .un))]:=by obtain⟨s,rfl⟩:=h;rfl
theorem eW(b:ae):b.names.length=b.len:=by unfold ae.names;rw[V2,ae.aC]
theorem uD:∀ l:List ah,bq (l.map .s)=true
 |[]=>rfl
 |s::l=>by simp[uD l]
theorem Gp(hb:b.Ty 1)(hl:b.len<=1000000)(hN:10000000000000000000<=N):
  ∃ w,(Tw c N).call 34 [b.slice 8] st=some (w,st)/\de w (b.names.map .s):=by
 obtain⟨N,rfl⟩:∃ N',N=N'+1:=⟨N-1,by omega⟩;have hp:aQ [b.slice 8]=true:=by simp[aQ,ae.mg hb 8]
 suffices h:∃ v s g,aV c N f34 (f34.body.getD .skip) [b.slice 8] aK=some (v,s)/\aW s 0 1 v b.names.length (b.names.map .s) g by
  obtain⟨v,s,g,h1,h2⟩:=h;obtain⟨w,h3,h4⟩:=h2.fz (Q3 0) (Q3 1) (fB.pure (jD b.names));have hw:de w (b.names.map .s):=by
   rcases h4 with ⟨rfl,h5,h6⟩|rfl
   ·exact .inl ⟨rfl,h6⟩
   ·right;rw[V2]
  exact⟨w,Em rfl rfl rfl rfl (by decide) hp func34 rfl (Q1 rfl) (hw.pure (jD _)) ⟨_,_,h1,h3⟩,hw⟩
 unfold aV;have ln:=fun st:St=>aY (st:=st) underlying23 (b.bK 8) (b.bJ 8)
 simp[f34,ln,bw];generalize hL:bf _ _ _ _=L;obtain⟨t1,s1,rfl,v,g,q3,qO⟩:=dy hL 0 b.list.length
  (fun i t s=>ab t 6=b.slice 8/\ab t 7=.i .i64 (b.len:Int)/\ab t 8=.i .i64 (i:Int)/\∃ v g,ab t 3=v/\aW s 0 1 v i ((b.names.take i).map .s) g)
  (fun t s=>∃ v g,ab t 3=v/\aW s 0 1 v b.names.length (b.names.map .s) g) (by rw[<-ae.aC];omega)
  ⟨by simp,by simp,by simp,.sn,none,by simp,by simpa using aW.nil aK 0 1⟩
  (by
   rintro i t s hi ⟨i6,i7,i8,v,g,i3,iO⟩;clear hL;have hil:i<b.len:=by rw[ae.aC];exact hi
   have hin:i<b.names.length:=by rw[eW];exact hil
   have e3:(i:Int)<(b.len:Int):=by omega
   have e4:wr .i64 ((i:Int)+1)=((i+1:Nat):Int):=by rw[aZ (by omega) (by omega)];rfl
   obtain⟨r,r1,r2⟩:=eR hb.pre (show eD 1+7=8 from rfl) hi;have ix:=dV underlying23 dn cV b.flat b.len i hil;rw[<-ae.cZ hil,r1,<-Z6]at ix;have hT:=ae.cU hb _ (Q2 hi);have hpr:=ir hT.1;have hnm:b.names[i]=fD (b.list[i].1.headD .un):=by simp[ae.names,gn]
   rw[<-hnm]at hpr;have hce:(b.list[i].1++b.list[i].2.cells).length=8:=by rw[Q9,r2,Ex.aO];rfl
   have hsc:bq (b.list[i].1++b.list[i].2.cells)=true:=gX hT.1.sc (Ex.dH hT.2.wf);have ld:=fun st:St=>kO (st:=st) (r:=r) dn kI cV hce
   have hhd:cut (b.list[i].1++b.list[i].2.cells) 0 1=some [.s b.names[i]]:=by rw[hpr];rfl
   generalize b.list[i].1++b.list[i].2.cells=cl at *;obtain⟨s2,u1,u2,u3,u4⟩:=cO (z:=jr) hce hsc;have iO2:=iO.keep u3 (by simp) (by simp);have bo:=fun(t:Tr AV) (h:ai t (.tmp 14)=.s b.names[i])=>gT (S:=Tw c N) (st:=s2) fM (x:=.tmp 14) (cs:=[.s b.names[i]]) (by rw[h];simp) rfl
   obtain⟨v',g',s3,w1,w2,w3,w4⟩:=iO2.mc fM (new:=[.s b.names[i]]) rfl rfl (by omega) (Nat.zero_le _);simp[i3,i6,i7,i8,e3,e4,ix,ld,aJ,qj,aI dn cV,hce,u1,au u2,hhd,bo,w1];refine⟨_,_,⟨rfl,rfl⟩,by simp[i6],by simp[i7],by simp,g',?_⟩;have w5:aW s3 0 1 v' (i+1) ((b.names.take (i+1)).map .s) g':=by rw[<-Z8 hin,List.map_append];exact w2
   simpa using w5)
  (by rintro t s ⟨i6,i7,i8,v,g,i3,iO⟩;clear hL;simp[i7,i8,ae.aC];refine⟨_,_,⟨rfl,rfl⟩,g,?_⟩;rw[<-ae.aC,<-eW,List.take_length]at iO;simpa[i3]using iO)
 clear hL;refine⟨v,s1,?_,g,qO⟩;simp[q3,aG,aF]
