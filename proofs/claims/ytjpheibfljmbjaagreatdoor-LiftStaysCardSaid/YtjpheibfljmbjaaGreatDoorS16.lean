/- A part of the proof. -/
import Derived.Test.YtjpheibfljmbjaaGreatDoorS15
set_option maxRecDepth 100000
set_option maxHeartbeats 4000000
open List renaming mem_cons->Q0, length_append->Q3, mem_cons_of_mem->Q4, getElem_mem->Q6, mem_append->Q8, all_cons->J3, all_nil->J4, drop_left->J6, take_append_getElem->J8, mem_singleton->J9, take_length->Z3, take_left->Z4, filter_append->Z7, length_filter_le->Z9, drop_drop->V0, append_cancel_left->V1
open Nat renaming le_of_ble_eq_true->Q1, lt_of_lt_of_le->Q2, le_refl->Q7, le_trans->J1, zero_add->Z5, add_mul->Z6, lt_succ_self->Z8, add_assoc->V2
open Option.some renaming inj->Q9
open Bool renaming and_true->J5
open Go.Proofs.Tryz
noncomputable section
open Go.Ev
namespace Go.Ev
variable {E root x : Ex}{L : List Oper}{M0 N a b g i j lo lr mn mr n r rA rE rO rR rS re tr z : Nat}{T TL U0 : List ah}{W al : List Nat}{av bv ov ps sv v w : AV}{c : Option Self}{caps cells cs l oc post pre : List AV}{cd : Code}{f : Nat->ah}{fl : List (Nat× Nat)}{fr num : Int}{nm : ah}{ops : Array Oper}{p : Ex->Bool}{s s' st st' : St}{t t' : Tr AV}{ys : List Ex}
variable {P : Program}{S : Self}{nt : Nat}
def strip(o:Oper):Oper:=⟨o.dst,o.op,o.type,o.pos,#[],o.guard⟩
def eZ(l:List Oper):List Oper:=l.map strip
theorem EB(ops:Array Oper)(i:Nat):(eZ ops.toList).toArray[i]? = (ops[i]?).map strip:=by simp[eZ]
theorem Yw(ops:Array Oper)(t:Tr AV)(o:Oper):gj ops t o=gj (eZ ops.toList).toArray t (strip o):=by grind[gj,strip,rH,EB]
theorem EI(ops:Array Oper):∀ (l:List Oper) (t:Tr AV) (st:St),bI P S nt ops l t st=bI P S nt (eZ ops.toList).toArray (eZ l) t st
 |[],t,st=>rfl
 |o::l,t,st=>by
  show(match gj ops t o with
   |some true=>o8 nt t st o.dst (da P S t st o) (bI P S nt ops l)
   |some false=>lh ⟨t,st,.un,false⟩ (eN nt t o.dst .un) fun t=>bI P S nt ops l t st
   |none=>none)=(match gj (eZ ops.toList).toArray t (strip o) with
   |some true=>o8 nt t st o.dst (da P S t st o) (bI P S nt (eZ ops.toList).toArray (eZ l))
   |some false=>lh ⟨t,st,.un,false⟩ (eN nt t o.dst .un) fun t=>bI P S nt (eZ ops.toList).toArray (eZ l) t st
   |none=>none)
  have e:bI P S nt ops l=bI P S nt (eZ ops.toList).toArray (eZ l):=by funext t st;exact EI ops l t st
  rw[<-Yw,e]
theorem Kk(ops:Array Oper)(R:List Rec)(p:Nat× Nat):recheck P S ops R p=recheck P S (eZ ops.toList).toArray R p:=by unfold recheck;rw[EB];cases R[p.1]? <;> cases R[p.2]? <;> cases ops[p.1]? <;> rfl
theorem aaW(ops:Array Oper)(k:Nat)(R:List Rec):qL ops k R=qL (eZ ops.toList).toArray k R:=by unfold qL;rw[EB,EB];cases R[k]? <;> cases ops[k]? <;> cases ops[k+1]? <;> rfl
def TN(m:nZ):List Oper× List (Nat× Nat):=(eZ m.pops.toList,m.fl)
def aaX(m:uV):List Oper× List (Nat× Nat)× List Oper× List (Nat× Nat)× Nat:=(eZ m.m.pops.toList,m.m.fl,eZ (fp m.k m.m.pops).toList,m.flB,m.k)
theorem ac8{α:Type}{p q:α->Bool}(h:∀ x,p x=q x)(l:List α):l.all p=l.all q:=by grind
theorem acD{x:Ctx}(h1:kj ops=none)(h2:vZ ops=none)(h3:(oh ops).map TN=some (L,fl))
  (hA:bR x.P x.S x.nt L.toArray L t st=.nx t' st') (cA:∀ R,bI x.P x.S x.nt L.toArray L t st=some R->fl.all (recheck x.P x.S L.toArray R)=true):kc x ops t st=.nx t' st':=by
 cases hm:oh ops with
 |none=>grind
 |some m =>
  rw[hm]at h3;have h3:(eZ m.pops.toList,m.fl)=(L,fl):=Q9 h3;obtain⟨h4,h5⟩:=Prod.mk.inj h3;unfold kc xf;rw[h1];rw[h2];show wC x.P x.S x.nt ops t st (oh ops)=_
  rw[hm];show nD x.P x.S m.pops m.fl (bI x.P x.S x.nt m.pops m.pops.toList t st)=_
  rw[EI,h4,h5];obtain⟨k1,k2⟩:=xi (P:=x.P) (S:=x.S) (nt:=x.nt) (ops:=L.toArray) L t st;cases hr:bI x.P x.S x.nt L.toArray L t st with
  |none=>grind
  |some R =>
   show cond (fl.all (recheck x.P x.S m.pops R)) (jo R) .no=_
   grind[Kk]
theorem LX{x:Ctx}{LB:List Oper}{flB:List (Nat× Nat)}{k:Nat}{tB:Tr AV}{stB:St}(h1:kj ops=none)(h2:vZ ops=none)(h3:oh ops=none)(h4:(qE ops).map aaX=some (L,fl,LB,flB,k))
  (hA:bR x.P x.S x.nt L.toArray L t st=.nx t' st') (hB:bR x.P x.S x.nt LB.toArray LB t st=.nx tB stB)
  (cA:∀ R,bI x.P x.S x.nt L.toArray L t st=some R->fl.all (recheck x.P x.S L.toArray R)=true/\qL L.toArray k R=true)
  (cB:∀ R,bI x.P x.S x.nt LB.toArray LB t st=some R->flB.all (recheck x.P x.S LB.toArray R)=true):kc x ops t st=.nx t' st':=by
 cases hm:qE ops with
 |none=>grind
 |some m =>
  rw[hm]at h4;have h4:(eZ m.m.pops.toList,m.m.fl,eZ (fp m.k m.m.pops).toList,m.flB,m.k)=(L,fl,LB,flB,k):=Q9 h4;obtain⟨q1,q2⟩:=Prod.mk.inj h4;obtain⟨q2,q3⟩:=Prod.mk.inj q2;obtain⟨q3,q4⟩:=Prod.mk.inj q3;unfold kc xf;rw[h1];rw[h2];show wC x.P x.S x.nt ops t st (oh ops)=_
  rw[h3];show yE x.P x.S x.nt t st (qE ops)=_
  rw[hm];show Ai x.P x.S m (bI x.P x.S x.nt m.m.pops m.m.pops.toList t st) (bI x.P x.S x.nt (fp m.k m.m.pops) (fp m.k m.m.pops).toList t st)=_
  rw[EI m.m.pops,EI (fp m.k m.m.pops),q1,q3];obtain⟨k1,k2⟩:=xi (P:=x.P) (S:=x.S) (nt:=x.nt) (ops:=L.toArray) L t st;obtain⟨k3,k4⟩:=xi (P:=x.P) (S:=x.S) (nt:=x.nt) (ops:=LB.toArray) LB t st;cases hr:bI x.P x.S x.nt L.toArray L t st with
  |none=>grind
  |some R =>
   cases hr2:bI x.P x.S x.nt LB.toArray LB t st with
   |none=>grind
   |some R2 =>
    show cond (m.m.fl.all (recheck x.P x.S m.m.pops R)&&(m.flB.all (recheck x.P x.S (fp m.k m.m.pops) R2)&&qL m.m.pops m.k R)) (jo R) .no=_
    grind[Kk,aaW]
end Go.Ev
namespace Go.Proofs.YtjpheibfljmbjaaGreatDoor
variable {E root x : Ex}{L : List Oper}{M0 N a b g i j lo lr mn mr n r rA rE rO rR rS re tr z : Nat}{T TL U0 : List ah}{W al : List Nat}{av bv ov ps sv v w : AV}{c : Option Self}{caps cells cs l oc post pre : List AV}{cd : Code}{f : Nat->ah}{fl : List (Nat× Nat)}{fr num : Int}{nm : ah}{ops : Array Oper}{p : Ex->Bool}{s s' st st' : St}{t t' : Tr AV}{ys : List Ex}
theorem Ox{zs:List AV}{g:Option Nat}{ty e:TypeId}(T:jv prog ty e z)(h:aW st lo z v (n+1) (cs++zs) g)(hcs:cs.length=n*z)(hz:zs.length=z)(hl:cells.length=z)(hsc:bq cells=true):
  ∃ r f s',g=some f/\lo<=r/\r<st.next/\lo<=f/\f<st.next/\indexAddr prog ty v (.i .i64 (n:Int))=some (.p r (n*z))/\wt st r (n*z) cells=some s'/\aW s' lo z v (n+1) (cs++cells) g/\Kp [r] [f] st s'/\v=.sl r 0 (n+1) z none/\∃ al,st.ce r=some (cs++zs,f,al):=by
 rcases h with ⟨-,h0,-⟩|⟨r,-,h0,-⟩|⟨r,f,al,rfl,rfl,h1,h2,h3,h4,h5,h6,h7⟩
 ·omega
 ·omega
 ·have hw:=bP h1 (n*z) cells (by rw[Q3,hcs,hz,hl];exact Q7 _) hsc;have hov:bO (cs++zs) (n*z) cells=cs++cells:=by
   rw[kg _ _ _ (by rw[Q3,hcs,hz,hl];exact Q7 _),<-hcs,Z4,hl,<-hz,List.drop_eq_nil_of_le (by simp),List.append_nil]
  rw[hov]at hw;have ix:=kQ T.und T.inf T.sz r 0 (n+1) n none (by omega);rw[Z5]at ix;exact⟨r,f,_,rfl,h4,h6,h5,h7,ix,hw,.inr (.inr ⟨r,f,[r],rfl,rfl,cj _ _ _,by rw[Q3,hcs,hl,Z6];omega,h3,h4,h5,h6,h7⟩),.ax (by simp) (by simp),rfl,al,h1⟩
def hQ:Ex->Option ah
 |.mk k _ _ _ _ a _=>if k=6 then match a.list with
  |p::_=>if p.2.kind=1 then some (iw p.2) else none
  |[]=>none else none
def fh(names:List ah)(y:Ex):Bool:=match hQ y with
 |some s=>decide (s∈names)
 |none=>false
def jV(names:List ah)(ys:List Ex):List Ex:=ys.filter (fh names)
def pw(ys:List Ex):List AV:=ys.flatMap Ex.cells
theorem Zs(ys:List Ex):(pw ys).length=ys.length*7:=by
 unfold pw;induction ys with
 |nil=>rfl
 |cons y ys ih=>rw[List.flatMap_cons,Q3,ih,y.aO,List.length_cons];omega
structure oW(re rS rA lo:Nat)(cells:List AV)(E:Ex)(done:List Ex)(W:List Nat)(s:St):Prop where
 h:∃ av g al ns alS,s.ce rA=some ([av],rA,al)/\s.ce rS=some ([.i .i64 ns],rS,alS)/\aW s lo 7 av (jV (aN E).names done).length (pw (jV (aN E).names done)) g/\W=rA::rS::g.toList
 ne:rA≠rS
 ha:rA<lo
 hs:rS<lo
 hlo:lo<=s.next
 hre:bA s W re cells
 bx:Bx s W (.ag cells) E
theorem oW.kp{done:List Ex}{a b:St}(h:oW re rS rA lo cells E done W a)(k:Kp [] [] a b):oW re rS rA lo cells E done W b:=by obtain⟨⟨av,g,al,ns,alS,h1,h2,h3,rfl⟩,h4,h5,h6,h7,h8,h9⟩:=h;exact⟨⟨av,g,al,ns,alS,k.ce h1 (by omega) (by omega) (by simp) (by simp),k.ce h2 (by omega) (by omega) (by simp) (by simp),h3.keep k (by simp) (by simp),rfl⟩,h4,h5,h6,J1 h7 k.next,h8.kw (Kw.of k),h9.kw (Kw.of k)⟩
theorem oW.skip{done:List Ex}{a:St}(h:oW re rS rA lo cells E done W a)(hx:fh (aN E).names x=false):oW re rS rA lo cells E (done++[x]) W a:=by
 obtain⟨⟨av,g,al,ns,alS,h1,h2,h3,h10⟩,h4,h5,h6,h7,h8,h9⟩:=h;have:jV (aN E).names (done++[x])=jV (aN E).names done:=by unfold jV;rw[Z7];simp[hx]
 exact⟨⟨av,g,al,ns,alS,h1,h2,by rw[this];exact h3,h10⟩,h4,h5,h6,h7,h8,h9⟩
theorem oW.Sx{done:List Ex}{a:St}(h:oW re rS rA lo cells E done W a):∃ ns s',rd a rS 0 1=some [.i .i64 ns]/\wt a rS 0 [.i .i64 (wr .i64 (ns+1))]=some s'/\oW re rS rA lo cells E done W s'/\Kw W W a s':=by obtain⟨⟨av,g,al,ns,alS,h1,h2,h3,rfl⟩,h4,h5,h6,h7,h8,h9⟩:=h;have hw:=bP h2 0 [.i .i64 (wr .i64 (ns+1))] (by simp) rfl;have k:Kp [rS] [rS] a (a.ax rS (bO [.i .i64 ns] 0 [.i .i64 (wr .i64 (ns+1))]) rS):=.ax (by simp) (by simp);have kw:Kw (rA::rS::g.toList) (rA::rS::g.toList) a (a.ax rS (bO [.i .i64 ns] 0 [.i .i64 (wr .i64 (ns+1))]) rS):=⟨k.sub (by simp) (by simp),fun _ h=>.inl h⟩;refine⟨ns,_,by rw[au h2];rfl,hw,⟨⟨av,g,al,_,[rS],k.ce h1 (by omega) (by omega) (by simp[h4]) (by simp[h4]),cj _ _ _,h3.keep k (by simp;omega) (by simp;exact .inl h6),rfl⟩,h4,h5,h6,h7,h8.kw kw,h9.kw kw⟩,kw⟩
theorem DJ{x:Nat}{l:List Nat}(h:x∈a::l):x∈a::b::l:=by
 rcases Q0.1 h with rfl|h
 ·simp
 ·exact Q4 _ (Q4 _ h)
noncomputable def yJ:Code->Code
 |.cond _ a _=>a
 |x=>x
noncomputable def w9:Array Oper:=Fre.kT (yJ (aj (aj (aj (f121.body.getD .skip)))))
noncomputable def L4:List Oper:=eZ w9.toList
theorem UP{rx:Nat}{cx:List AV}{g:Option Nat}(t3:ab t 3=.p rA 0)(t4:ab t 4=.p rx 0)(hA:s.ce rA=some ([av],rA,al))(hAl:rA<lo)(hlo:lo<=s.next)(hO:aW s lo 7 av n cs g)(hcs:cs.length=n*7)(hn:n<=5000000)(hx:bA s (rA::g.toList) rx cx)(hcx:cx.length=7)(hsc:bq cx=true):
  ∃ t' s' av' g',kc ⟨prog,Tw c N,false,f121.ntmps,N⟩ w9 t s=.nx t' s'/\s'.ce rA=some ([av'],rA,[rA])/\aW s' lo 7 av' (n+1) (cs++cx) g'/\Kp (rA::g.toList) (rA::g.toList) s s'/\(g'=g\/∃ z,g'=some z/\s.next<=z):=by
 obtain⟨v',g',s1,w1,w2,w3,w4,-,r0,m0,hr0,hr1⟩:=hO.zT lX (new:=eM) rfl rfl (by omega) hlo;obtain⟨r,f,s2,rfl,q2,q3,q4,q5,q6,q7,q8,q9,q10,al1,q11⟩:=Ox jk w2 hcs rfl hcx hsc;have hgl:=hO.fJ;have hAn:rA<s.next:=by omega
 have hrA:rA∉g.toList:=fun hh=>by have:=hgl _ (by simpa using hh);omega
 obtain⟨gx,alx,x1,x2,x3,x4,x5⟩:=hx;have A1:=w3.ce hA hAn hAn (by simp) hrA;have X1:=w3.ce x1 x2 x3 (by simp) (fun hh=>x5 (Q4 _ hh));have hne:rA≠r:=by omega
 have hnf:rA≠f:=by omega
 have A2:=q9.ce A1 (by have:=w3.next;omega) (by have:=w3.next;omega) (by simpa using hne) (by simpa using hnf);have hwA:=bP A2 0 [v'] (by simp) (by rw[q10];rfl);rw[gZ]at hwA;have eo:over [av] [v']=[v']:=rfl;rw[eo]at hwA;have k3:Kp [rA] [rA] s2 (s2.ax rA [v'] rA):=.ax (by simp) (by simp);have hwB:=bP A1 0 [v'] (by simp) (by rw[q10];rfl);rw[gZ,eo]at hwB;have kB:Kp [rA] [rA] s1 (s1.ax rA [v'] rA):=.ax (by simp) (by simp);have B1:=kB.ce q11 q3 q5 (by simp;exact fun h=>hne h.symm) (by simp;exact fun h=>hnf h.symm);have hwB2:=bP B1 (n*7) cx (by rw[Q3,hcs,hcx];exact Q7 _) hsc;have X1B:=au (o:=0) (n:=7) X1;have bo:=fun(t:Tr AV)=>gT (S:=Tw c N) (t:=t) (st:=s) lX (x:=.const (.agg #[.int .i64 0,.string ⟨#[]⟩,.int .i64 0,.slice none 0 0,.slice none 0 0,.slice none 0 0,.slice none 0 0])) (cs:=eM) (by rfl) rfl
 have rA0:rd s rA 0 1=some [av]:=by rw[au hA];rfl
 have rx0:rd s rx 0 7=some cx:=by rw[au x1,cQ,<-hcx,dD]
 have ln:=aY (st:=s) underlying32 hO.len.1 hO.len.2;have sto:=db o9 sP s2 rA 0 v' w2.cells;have stoB:=db o9 sP s1 rA 0 v' w2.cells;have sx:=aI cI aH s1 r (n*7) cx hcx;have sxB:=aI cI aH (s1.ax rA [v'] rA) r (n*7) cx hcx;have eA:∃ t',bR prog (Tw c N) f121.ntmps L4.toArray L4 t s=.nx t' (s2.ax rA [v'] rA):=by simp[L4,eZ,strip,w9,yJ,Fre.kT,aj,f121,t3,t4,rA0,aH,rx0,ln,bo,w1,q6,sx,q7,sto,hwA]
 have eB:∃ t' s',bR prog (Tw c N) f121.ntmps (lZ 6 L4).toArray (lZ 6 L4) t s=.nx t' s':=by simp[L4,lZ,eZ,strip,w9,yJ,Fre.kT,aj,f121,t3,t4,rA0,aH,rx0,ln,bo,w1,q6,stoB,hwB,sxB,hwB2]
 obtain⟨tA,eA⟩:=eA;obtain⟨tB,sB,eB⟩:=eB;have hD:=LX (x:=⟨prog,Tw c N,false,f121.ntmps,N⟩) (ops:=w9) (fl:=[]) (flB:=[]) (k:=6) (by kernel_rfl) (by kernel_rfl) (by kernel_rfl) (by kernel_rfl) eA eB
  (by intro R hR;refine⟨rfl,?_⟩;simp[L4,eZ,strip,w9,yJ,Fre.kT,aj,f121,t3,t4,rA0,aH,rx0,ln,bo,w1,q6,sx,q7,sto,hwA]at hR;subst hR;simp[qL,Eh,L4,eZ,strip,w9,yJ,Fre.kT,aj,f121,t3,AV.bW,A1,q11,bu,Ne.symm hne,Ne.symm hnf])
  (fun R _=>rfl)
 refine⟨tA,_,v',some f,hD,cj _ _ _,q8.keep k3 (by simp;omega) (by simp;exact .inl hAl),?_,?_⟩
 ·have h1:Kp (rA::g.toList) (rA::g.toList) s s1:=w3.sub (by simp) (fun x hx=>Q4 _ hx);have kw:Kw (rA::g.toList) [rA,r,f] s s1:=⟨h1,fun y hy=>by
   rcases Q0.1 hy with rfl|hy
   ·exact .inl (List.mem_cons_self ..)
   ·rcases Q0.1 hy with rfl|hy
    ·rw[hr0]at q10;cases q10;exact .inr hr1
    ·have hy:y=f:=by simpa using hy
     rcases w4 with h|⟨z,h,hz⟩
     ·left;rw[<-h,hy];simp
     ·right;cases h;omega⟩
  exact(kw.trans (⟨(q9.sub (by simp) (by simp)).trans (k3.sub (by simp) (by simp)),fun _ h=>.inl h⟩:Kw [rA,r,f] [rA,r,f] s1 _)).1
 ·rcases w4 with h|⟨z,h,hz⟩
  ·exact .inl h
  ·exact .inr ⟨z,h,hz⟩
theorem XP(hE:E.Ty)(hEs:E.size<=1000000)(h7:cells.length=7)(hroot:root.kind=7){L:Nat}(hL:L<=5000000)(hN:4000000<=N){done:List Ex}(hT:x.Ty)(hd:done.length<L)(hI:oW re rS rA lo cells E done W s)(hB:Bx s W v x)(hv:v=.ag x.cells\/x=root):
  ∃ s' W',(Tw c (N+1)).call 121 [v,.p re 0,.p rS 0,.p rA 0] s=some (.tu [],s')/\oW re rS rA lo cells E (done++[x]) W' s'/\Kw W W' s s':=by
 rw[dt rfl func121 rfl (Q1 rfl)];unfold aV;obtain⟨k,nm,num,ps,b,a,l⟩:=x;obtain⟨bv,av,lv,rfl,hb2,hb3,hb4⟩:=id hB;have c0:=cz (st:=s) [.i .i64 k,.s nm,.i .i64 num,ps,bv,av,lv];have k0:Kp [] [] s (s.aw [.i .i64 k,.s nm,.i .i64 num,ps,bv,av,lv]):=.aw _ _ _;obtain⟨rx,hrx⟩:∃ r,s.next=r:=⟨_,rfl⟩;obtain⟨s0,hs0⟩:∃ t,s.aw [.i .i64 k,.s nm,.i .i64 num,ps,bv,av,lv]=t:=⟨_,rfl⟩;rw[hrx]at c0;rw[hs0]at c0 k0;have I0:=hI.kp k0;have r0:rd s0 rx 0 1=some [.i .i64 k]:=by rw[au c0];rfl
 have r1:rd s0 rx 1 1=some [.s nm]:=by rw[au c0];rfl
 have r5:rd s0 rx 5 1=some [av]:=by rw[au c0];rfl
 have re0:rd s0 re 0 7=some cells:=by rw[I0.hre.rd,cQ,<-h7,dD]
 have hp:=fun(y:ah)=>DU (c:=c) hE hEs I0.bx y (N:=N) (by omega)
 have hm:=Jd (aN E).names;have hWn:∀ y∈W,y<rx:=fun y hy=>by
  obtain⟨⟨av,g,al,ns,alS,h1,h2,h3,rfl⟩,h4,h5,h6,h7,h8,h9⟩:=hI;rcases Q0.1 hy with rfl|hy
  ·omega
  ·rcases Q0.1 hy with rfl|hy
   ·omega
   ·have:=(h3.fJ y (by simpa using hy)).2;omega
 have nx:rx<s0.next:=by rw[<-hs0,<-hrx];exact Z8 _
 have rxW:rx∉W:=fun hh=>by have:=hWn _ hh;omega
 by_cases k1:k=1
 ·subst k1;have hno:fh (aN E).names (Ex.mk 1 nm num ps b a l)=false:=by simp[fh,hQ]
  by_cases hin:nm∈(aN E).names
  ·obtain⟨ns,s1,u1,u2,u3,u4⟩:=I0.Sx;refine⟨s1,W,?_,u3.skip hno,(Kw.of k0).trans u4⟩;have c1:=u4.ce c0 nx nx rxW rxW;have r01:rd s1 rx 0 1=some [.i .i64 1]:=by rw[au c1];rfl
   simp[f121,hrx,hs0,r0,r1,aH,re0,hp,hm,hin,u1,db nS ri,u2,br];rw[dj (by kernel_rfl)];simp[r01,aG,aF]
  ·refine⟨s0,W,?_,I0.skip hno,Kw.of k0⟩;simp[f121,hrx,hs0,r0,r1,aH,re0,hp,hm,hin,br];rw[dj (by kernel_rfl)];simp[r0,aG,aF]
 ·by_cases k6:k=6
  ·subst k6;have hv:AV.ag [.i .i64 6,.s nm,.i .i64 num,ps,bv,av,lv]=.ag (Ex.mk 6 nm num ps b a l).cells:=by
    rcases hv with hv|hv
    ·exact hv
    ·rw[<-hv]at hroot;simp[Ex.kind]at hroot
   simp only[Ex.cells,AV.ag.injEq,List.cons.injEq,and_true,true_and]at hv;obtain⟨rfl,rfl,rfl⟩:=hv;have la:=fun st:St=>aY (P:=prog) (st:=st) underlying32 (a.bK 7) (a.bJ 7)
   have hT':=hT;simp only[Ex.Ty]at hT;cases a with
   |nil f =>
    have hno:fh (aN E).names (Ex.mk 6 nm num ps b (.nil f) l)=false:=by simp[fh,hQ,ae.list]
    refine⟨s0,W,?_,I0.skip hno,Kw.of k0⟩;simp only[ae.len]at la;simp[f121,hrx,hs0,r0,br];rw[dj (by kernel_rfl)];simp[r0,r5,la,aG,aF]
   |cons p y al =>
    obtain⟨ky,ny,my,psy,by',ay,ly⟩:=y;have hp0:p=[]:=hT.2.2.2.1.1;subst hp0;have ix:=dV (P:=prog) underlying32 cI aH (ae.cons [] (Ex.mk ky ny my psy by' ay ly) al).flat (al.len+1) 0 (by omega);have hfl:(ae.cons [] (Ex.mk ky ny my psy by' ay ly) al).flat=.i .i64 ky::.s ny::.i .i64 my::psy::by'.slice 8::ay.slice 7::ly.slice 11::al.flat:=by simp[ae.flat,Ex.cells]
    have hsl:(ae.cons [] (Ex.mk ky ny my psy by' ay ly) al).slice 7=.rs (.i .i64 ky::.s ny::.i .i64 my::psy::by'.slice 8::ay.slice 7::ly.slice 11::al.flat) (al.len+1) 7:=by simp[ae.slice,Ex.cells]
    rw[hfl]at ix;rw[hsl]at la r5;simp at ix;simp only[ae.len]at la;have e1:(0:Int)<((al.len+1:Nat):Int):=by omega
    simp at e1;by_cases h1:ky=1
    ·subst h1;by_cases hin:ny∈(aN E).names
     ·have hyes:fh (aN E).names (Ex.mk 6 nm num ps b (.cons [] (Ex.mk 1 ny my psy by' ay ly) al) l)=true:=by simp[fh,hQ,ae.list,Ex.kind,iw,hin]
      have hcl:jV (aN E).names (done++[Ex.mk 6 nm num ps b (.cons [] (Ex.mk 1 ny my psy by' ay ly) al) l])=jV (aN E).names done++[Ex.mk 6 nm num ps b (.cons [] (Ex.mk 1 ny my psy by' ay ly) al) l]:=by unfold jV;rw[Z7];simp[hyes]
      obtain⟨⟨av0,g,alA,ns,alS,a1,a2,a3,rfl⟩,a4,a5,a6,a7,a8,a9⟩:=I0;have hcx:(Ex.mk 6 nm num ps b (.cons [] (Ex.mk 1 ny my psy by' ay ly) al) l).cells=[.i .i64 6,.s nm,.i .i64 num,ps,b.slice 8,(ae.cons [] (Ex.mk 1 ny my psy by' ay ly) al).slice 7,l.slice 11]:=by simp[Ex.cells]
      have hcn:(jV (aN E).names done).length<=5000000:=by have:(jV (aN E).names done).length<=done.length:=Z9 _ _;omega
      have hxA:bA s0 (rA::g.toList) rx [.i .i64 6,.s nm,.i .i64 num,ps,b.slice 8,(ae.cons [] (Ex.mk 1 ny my psy by' ay ly) al).slice 7,l.slice 11] :=
       ⟨_,_,c0,nx,nx,fun hh=>rxW (DJ hh),fun hh=>rxW (DJ hh)⟩
      have R4:=fun(t:Tr AV) (q3:ab t 3=.p rA 0) (q4:ab t 4=.p rx 0)=>UP (c:=c) (N:=N) (t:=t) (s:=s0) q3 q4 a1 a5 a7 a3 (Zs _) hcn hxA rfl (by rw[<-hcx];exact Ex.dH hT'.wf)
      have p0:∃ t,ao (aq (f121.body.getD .skip)) ⟨prog,Tw c N,false,f121.ntmps,N⟩ (tmpsOf [.ag [.i .i64 6,.s nm,.i .i64 num,ps,b.slice 8,(ae.cons [] (Ex.mk 1 ny my psy by' ay ly) al).slice 7,l.slice 11],.p re 0,.p rS 0,.p rA 0] 0 .lf) s=.nx t s0/\ab t 1=.p re 0/\ab t 3=.p rA 0/\ab t 4=.p rx 0:=by simp[aq,f121,hrx,hs0]
      obtain⟨t0,p0,p1,p3,p4⟩:=p0;have p5:∃ t,ao (aq (aj (f121.body.getD .skip))) ⟨prog,Tw c N,false,f121.ntmps,N⟩ t0 s0=.nx t s0/\ab t 1=.p re 0/\ab t 3=.p rA 0/\ab t 4=.p rx 0:=by simp[aq,aj,f121,p1,p3,p4,r0]
      obtain⟨t1,p5,p6,p7,p8⟩:=p5;have p9:∃ t,ao (aq (aj (aj (f121.body.getD .skip)))) ⟨prog,Tw c N,false,f121.ntmps,N⟩ t1 s0=.nx t s0/\ab t 3=.p rA 0/\ab t 4=.p rx 0/\ab t 43=.b true:=by simp[aq,aj,f121,br];rw[dj (by kernel_rfl)];simp[p6,p7,p8,r0,r5,la,ix,aH,re0,hp,hm,hin]
      obtain⟨t2,p9,p10,p11,p12⟩:=p9;obtain⟨t3,s3,av2,g',d1,d2,d3,d4,d5⟩:=R4 t2 p10 p11;have p13:ao (aj (aj (aj (f121.body.getD .skip)))) ⟨prog,Tw c N,false,f121.ntmps,N⟩ t2 s0=.nx t3 s3:=by
       show su (ao (yJ (aj (aj (aj (f121.body.getD .skip))))) _) _ t2 s0 (ai t2 (.tmp 43))=_
       rw[acG,p12];exact d1
      have kS:s3.ce rS=some ([.i .i64 ns],rS,alS):=d4.ce a2 (by omega) (by omega) (fun hh=>?_) (fun hh=>?_)
      ·have kw:Kw (rA::rS::g.toList) (rA::rS::g'.toList) s0 s3:=⟨d4.sub (fun x hx=>DJ hx) (fun x hx=>DJ hx),fun y hy=>by
        rcases Q0.1 hy with rfl|hy
        ·exact .inl (by simp)
        ·rcases Q0.1 hy with rfl|hy
         ·exact .inl (by simp)
         ·rcases d5 with rfl|⟨z,rfl,hz⟩
          ·exact .inl (Q4 _ (Q4 _ hy))
          ·have:y=z:=by simpa using hy
           exact .inr (by omega)⟩
       refine⟨s3,rA::rS::g'.toList,?_,⟨⟨av2,g',[rA],ns,alS,d2,kS,?_,rfl⟩,a4,a5,a6,J1 a7 d4.next,a8.kw kw,a9.kw kw⟩,(Kw.of k0).trans kw⟩
       ·show eE prog f121.results.toList (bT (ao (aq (f121.body.getD .skip)) ⟨prog,Tw c N,false,f121.ntmps,N⟩ (tmpsOf [.ag [.i .i64 6,.s nm,.i .i64 num,ps,b.slice 8,(ae.cons [] (Ex.mk 1 ny my psy by' ay ly) al).slice 7,l.slice 11],.p re 0,.p rS 0,.p rA 0] 0 .lf) s) (fun t s=>bT (ao (aq (aj (f121.body.getD .skip))) ⟨prog,Tw c N,false,f121.ntmps,N⟩ t s) (fun t s=>bT (ao (aq (aj (aj (f121.body.getD .skip)))) ⟨prog,Tw c N,false,f121.ntmps,N⟩ t s) (ao (aj (aj (aj (f121.body.getD .skip)))) ⟨prog,Tw c N,false,f121.ntmps,N⟩))))=_
        rw[p0,dK,p5,dK,p9,dK,p13];simp[f121,aG,aF]
       ·rw[hcl,Q3];have:pw (jV (aN E).names done++[Ex.mk 6 nm num ps b (.cons [] (Ex.mk 1 ny my psy by' ay ly) al) l])=pw (jV (aN E).names done)++[.i .i64 6,.s nm,.i .i64 num,ps,b.slice 8,(ae.cons [] (Ex.mk 1 ny my psy by' ay ly) al).slice 7,l.slice 11]:=by
         unfold pw;rw[List.flatMap_append,<-hcx];simp
        rw[this];exact d3
      ·rcases Q0.1 hh with h|hh
       ·exact a4 h.symm
       ·have:=(a3.fJ rS (by simpa using hh)).1;omega
      ·rcases Q0.1 hh with h|hh
       ·exact a4 h.symm
       ·have:=(a3.fJ rS (by simpa using hh)).1;omega
     ·have hno:fh (aN E).names (Ex.mk 6 nm num ps b (.cons [] (Ex.mk 1 ny my psy by' ay ly) al) l)=false:=by simp[fh,hQ,ae.list,Ex.kind,iw,hin]
      refine⟨s0,W,?_,I0.skip hno,Kw.of k0⟩;simp[f121,hrx,hs0,r0,br];rw[dj (by kernel_rfl)];simp[r0,r5,la,ix,aH,re0,hp,hm,hin,aG,aF]
    ·have hno:fh (aN E).names (Ex.mk 6 nm num ps b (.cons [] (Ex.mk ky ny my psy by' ay ly) al) l)=false:=by simp[fh,hQ,ae.list,Ex.kind,h1]
     refine⟨s0,W,?_,I0.skip hno,Kw.of k0⟩;simp[f121,hrx,hs0,r0,br];rw[dj (by kernel_rfl)];simp[r0,r5,la,ix,h1,aG,aF]
  ·have hno:fh (aN E).names (Ex.mk k nm num ps b a l)=false:=by simp[fh,hQ,k6]
   refine⟨s0,W,?_,I0.skip hno,Kw.of k0⟩;simp[f121,hrx,hs0,r0,k1,br];rw[dj (by kernel_rfl)];simp[r0,k6,aG,aF]
theorem Wr(hE:E.Ty)(hEs:E.size<=1000000)(h7:cells.length=7)(hroot:root.kind=7){L:Nat}(hL:L<=5000000):GS c 121 [.p re 0,.p rS 0,.p rA 0] 4000001 L (oW re rS rA lo cells E) root:=by
 refine⟨fun done W s hI=>?_,fun done W s s' hI hK=>hI.kp hK,fun M hM done W x v s hT hd hI hB hv=>?_⟩
 ·obtain⟨⟨av,g,al,ns,alS,h1,h2,h3,rfl⟩,h4,h5,h6,h7,h8,h9⟩:=hI;intro y hy;rcases Q0.1 hy with rfl|hy
  ·omega
  ·rcases Q0.1 hy with rfl|hy
   ·omega
   ·exact(h3.fJ y (by simpa using hy)).2
 ·obtain⟨N,rfl⟩:∃ N',M=N'+1:=⟨M-1,by omega⟩;obtain⟨s',W',e,h⟩:=XP hE hEs h7 hroot hL (N:=N) (by omega) hT hd hI hB hv;exact⟨s',W',by rw[mV func121 rfl];exact e,h⟩
theorem bA.wid{X:List Nat}(h:bA s [] r l)(k:Kp [] [] s s')(hX:∀ x,x∈X->s.next<=x):bA s' X r l:=by obtain⟨g,al,q1,q2,q3,-,-⟩:=h;exact⟨g,al,k.ce q1 q2 q3 (by simp) (by simp),Q2 q2 k.next,Q2 q3 k.next,fun hh=>by have:=hX _ hh;omega,fun hh=>by have:=hX _ hh;omega⟩
theorem cH.wid{X:List Nat}{q:ae}(h:cH s [] v z q)(k:Kp [] [] s s')(hX:∀ x,x∈X->s.next<=x):cH s' X v z q:=by
 rcases h with h|⟨h0,r,g,al,q,e1,e2,e3,e4,-,-⟩
 ·exact .inl h
 ·exact .inr ⟨h0,r,g,al,q,e1,k.ce e2 e3 e4 (by simp) (by simp),Q2 e3 k.next,Q2 e4 k.next,fun hh=>by have:=hX _ hh;omega,fun hh=>by have:=hX _ hh;omega⟩
theorem Bx.wid{X:List Nat}{v:AV}{x:Ex}{s s':St}(h:Bx s [] v x)(k:Kp [] [] s s')(hX:∀ x,x∈X->s.next<=x):Bx s' X v x:=by obtain⟨k0,nm,num,ps,b,a,l⟩:=x;obtain⟨bv,av,lv,rfl,h2,h3,h4⟩:=h;exact⟨_,_,_,rfl,h2.wid k hX,h3.wid k hX,h4.wid k hX⟩
theorem aW.cX{g:Option Nat}(h:aW s lo z v n l g):bS v=true:=by rcases h with ⟨rfl,-⟩|⟨r,rfl,-⟩|⟨r,f,al,-,rfl,-⟩<;>rfl
noncomputable def xN:Array Oper:=Fre.kT (aq (aj (aj (f79.body.getD .skip))))
theorem VK{alS:List Nat}(t2:ab t 2=.p rA 0)(t3:ab t 3=.p rS 0)(hA:s.ce rA=some ([av],rA,al))(hS:s.ce rS=some ([sv],rS,alS))(ne:rA≠rS)(ha:av.cells=some [av])(hs:sv.cells=some [sv])(hac:bS av=true)(hsc:bS sv=true):
  ∃ t' s',kc ⟨prog,Tw c N,false,f79.ntmps,N⟩ xN t s=.nx t' s'/\ab t' 2=.p rA 0/\ab t' 3=.p rS 0/\rd s' rA 0 1=some [av]/\rd s' rS 0 1=some [sv]/\Kp [rA,rS] [rA,rS] s s':=by
 have hwA:=bP hA 0 [av] (by simp) (by simp[hac]);rw[gZ]at hwA;have eo:∀ x y:AV,over [x] [y]=[y]:=fun _ _=>rfl
 rw[eo]at hwA;have kA:Kp [rA] [rA] s (s.ax rA [av] rA):=.ax (by simp) (by simp);have SA:=xW (l:=[av]) hS ne.symm ne.symm;have hwB:=bP SA 0 [sv] (by simp) (by simp[hsc]);rw[gZ,eo]at hwB;have rA0:rd s rA 0 1=some [av]:=by rw[au hA];rfl
 have rS0:rd s rS 0 1=some [sv]:=by rw[au hS];rfl
 have rS1:rd (s.ax rA [av] rA) rS 0 1=some [sv]:=by rw[au SA];rfl
 have stA:=db o9 sP s rA 0 av ha;have stS:=db nS ri (s.ax rA [av] rA) rS 0 sv hs;have eA:∃ t',bR prog (Tw c N) f79.ntmps xN xN.toList t s=.nx t' ((s.ax rA [av] rA).ax rS [sv] rS)/\ab t' 2=.p rA 0/\ab t' 3=.p rS 0:=by simp[xN,Fre.kT,aq,aj,f79,t2,t3,rA0,rS0,stA,hwA,stS,hwB]
 obtain⟨tA,eA,e2,e3⟩:=eA;have hD:kc ⟨prog,Tw c N,false,f79.ntmps,N⟩ xN t s=.nx tA ((s.ax rA [av] rA).ax rS [sv] rS):=by
  rw[eJ (fl:=[(1,3)]) (by kernel_rfl)]
  ·exact eA
  ·intro R hR;simp[xN,Fre.kT,aq,aj,f79,t2,t3,rA0,rS0,stA,hwA,stS,hwB]at hR;subst hR;simp only[J3,J4,J5];refine bV rfl rfl rfl (s:=s.ax rA [av] rA) ?_;show bH (.load 3 (.tmp 3)) prog (Tw c N) (t.set 11 (some av)) _=_
   simp[t3,rS1]
 have SB:=cj rS [sv] rS (st:=s.ax rA [av] rA);have AB:=xW (l:=[sv]) (cj rA [av] rA (st:=s)) ne ne;exact⟨tA,_,hD,e2,e3,by rw[au AB];rfl,by rw[au SB];rfl,(kA.sub (by simp) (by simp)).trans (.ax (by simp) (by simp))⟩
theorem IT{o:Nat}(h:ab t n=.p r o):t.get n=some (.p r o):=by
 unfold ab at h;cases e:t.get n with
 |none=>rw[e]at h;cases h
 |some v=>rw[e]at h;exact congrArg some h
theorem aaO:bm prog 32=some [.sn]:=by kernel_rfl
theorem P3:bm prog 3=some [.i .i64 0]:=by kernel_rfl
def letE:Ex->Ex
 |.mk _ _ _ _ b a _=>.mk 7 [] 0 .sn b a (.nil true)
theorem aaM(hT:x.Ty)(hs:x.size<=1000000)(hB:Bx st [] v x)(hN:20000000<=N):
  ∃ st' w ns lo g,(Tw c (N+1)).call 79 [v] st=some (.tu [w,.i .i64 ns],st')/\st.next<=lo/\aW st' lo 7 w (jV (aN x).names (cP (letE x))).length (pw (jV (aN x).names (cP (letE x)))) g/\Kp [] [] st st':=by
 rw[dt rfl func79 rfl (Q1 rfl)];unfold aV;obtain⟨k,nm,num,ps,b,a,l⟩:=x;have hT':=hT;simp only[Ex.Ty]at hT;have hsz:(Ex.mk k nm num ps b a l).size=1+b.size+a.size+l.size:=by simp only[Ex.size]
 have hsz2:(letE (Ex.mk k nm num ps b a l)).size=1+b.size+a.size:=by simp only[letE,Ex.size,ae.size];omega
 obtain⟨bv,av,lv,rfl,h2,h3,h4⟩:=id hB;obtain⟨re,hre⟩:∃ r,st.next=r:=⟨_,rfl⟩;obtain⟨s1,hs1⟩:∃ s,st.aw [.i .i64 k,.s nm,.i .i64 num,ps,bv,av,lv]=s:=⟨_,rfl⟩;have k1:Kp [] [] st s1:=by rw[<-hs1];exact .aw _ _ _
 have n1:s1.next=re+1:=by rw[<-hs1,<-hre];rfl
 have p1:bA s1 [] re [.i .i64 k,.s nm,.i .i64 num,ps,bv,av,lv]:=by rw[<-hs1,<-hre];exact bA.new _ _ _ (by simp)
 obtain⟨rA,hrA⟩:∃ r,s1.next=r:=⟨_,rfl⟩;obtain⟨s2,hs2⟩:∃ s,s1.aw [.sn]=s:=⟨_,rfl⟩;have k2:Kp [] [] s1 s2:=by rw[<-hs2];exact .aw _ _ _
 have n2:s2.next=rA+1:=by rw[<-hs2,<-hrA];rfl
 have c2:s2.ce rA=some ([.sn],rA,[rA]):=by rw[<-hs2,<-hrA];exact cz _
 obtain⟨rS,hrS⟩:∃ r,s2.next=r:=⟨_,rfl⟩;obtain⟨s3,hs3⟩:∃ s,s2.aw [.i .i64 0]=s:=⟨_,rfl⟩;have k3:Kp [] [] s2 s3:=by rw[<-hs3];exact .aw _ _ _
 have n3:s3.next=rS+1:=by rw[<-hs3,<-hrS];rfl
 have c3:s3.ce rS=some ([.i .i64 0],rS,[rS]):=by rw[<-hs3,<-hrS];exact cz _
 have K3:Kp [] [] st s3:=(k1.trans k2).trans k3;have hX:∀ y,y∈[rA,rS]->s1.next<=y:=by simp;omega
 have hX0:∀ y,y∈[rA,rS]->st.next<=y:=by simp;omega
 have P:=p1.wid (k2.trans k3) hX;have BX:=hB.wid K3 hX0;have r4:rd s3 re 4 1=some [bv]:=by rw[P.rd];rfl
 have r5:rd s3 re 5 1=some [av]:=by rw[P.rd];rfl
 have I0:oW re rS rA (rS+1) [.i .i64 k,.s nm,.i .i64 num,ps,bv,av,lv] (Ex.mk k nm num ps b a l) [] [rA,rS] s3 :=
  ⟨⟨.sn,none,[rA],0,[rS],k3.ce c2 (by omega) (by omega) (by simp) (by simp),c3,by simpa[jV,pw]using aW.nil s3 (rS+1) 7,rfl⟩,by omega,by omega,by omega,by omega,P,BX⟩
 have hTl:(letE (Ex.mk k nm num ps b a l)).Ty:=by simp only[letE,Ex.Ty,ae.Ty];exact⟨by omega,⟨[],.inl ⟨rfl,rfl⟩,by simp⟩,hT.2.2.1,hT.2.2.2.1,trivial⟩
 have hBl:Bx s3 [rA,rS] (.ag [.i .i64 7,.s [],.i .i64 0,.sn,bv,av,.sn]) (letE (Ex.mk k nm num ps b a l)):=by obtain⟨_,_,_,e,q2,q3,-⟩:=BX;cases e;exact⟨_,_,_,rfl,q2,q3,.inl rfl⟩
 obtain⟨s4,W4,x1,x2,x3⟩:=PF (letE (Ex.mk k nm num ps b a l)) hTl (by omega) 121 [.p re 0,.p rS 0,.p rA 0] 4000001 (letE (Ex.mk k nm num ps b a l)).size _ (letE (Ex.mk k nm num ps b a l)) (Wr (c:=c) hT' hs rfl (by rfl) (by omega)) [] _ _ s3 N (by simp) I0 hBl (.inr rfl) (by omega);obtain⟨⟨av',g,al,ns,alS,y1,y2,y3,rfl⟩,y4,y5,y6,y7,y8,y9⟩:=x2;rw[List.nil_append]at y3;have R:=fun(t:Tr AV) (q2:ab t 2=.p rA 0) (q3:ab t 3=.p rS 0)=>VK (c:=c) (N:=N) q2 q3 y1 y2 y4 y3.cells rfl (aW.cX y3) rfl
 have p0:∃ t,ao (aq (f79.body.getD .skip)) ⟨prog,Tw c N,false,f79.ntmps,N⟩ (tmpsOf [.ag [.i .i64 k,.s nm,.i .i64 num,ps,bv,av,lv]] 0 .lf) st=.nx t s3/\ab t 1=.p re 0/\ab t 2=.p rA 0/\ab t 3=.p rS 0:=by simp[aq,f79,hre,hs1,hrA,hs2,hrS,hs3,aJ,aaO,P3]
 obtain⟨t0,p0,p1,p2,p3⟩:=p0;have bd:=fun(t:Tr AV) (x y:Operand) (e1:ai t x=bv) (e2:ai t y=av)=>Oa (S:=Tw c N) (st:=s3) (t:=t) (x:=.const (.int .i64 7)) (y:=x) (z:=y) (k:=7) (b:=bv) (a:=av) rfl e1 e2 h2.cells h3.cells
 have p4:∃ t,ao (aq (aj (f79.body.getD .skip))) ⟨prog,Tw c N,false,f79.ntmps,N⟩ t0 s3=.nx t s4/\ab t 2=.p rA 0/\ab t 3=.p rS 0:=by simp[aq,aj,f79,p1,p2,p3,r4,r5,bd,x1]
 obtain⟨t1,p4,p5,p6⟩:=p4;obtain⟨t5,s5,d1,d2,d3,d4,d5,d6⟩:=R t1 p5 p6;have kE:Kp [] [] st s5:=((show Kw [] (rA::rS::g.toList) st s4 from((show Kw [] [rA,rS] st s3 from⟨K3,fun y hy=>.inr (hX0 y hy)⟩).trans x3)).trans (⟨d6.sub (by simp) (by simp),fun _ h=>.inl h⟩:Kw (rA::rS::g.toList) (rA::rS::g.toList) s4 s5)).1;refine⟨s5,av',ns,rS+1,g,?_,by omega,y3.keep d6 (by simp;omega) (by simp;omega),kE⟩;show eE prog f79.results.toList (bT (ao (aq (f79.body.getD .skip)) ⟨prog,Tw c N,false,f79.ntmps,N⟩ (tmpsOf [.ag [.i .i64 k,.s nm,.i .i64 num,ps,bv,av,lv]] 0 .lf) st) (fun t s=>bT (ao (aq (aj (f79.body.getD .skip))) ⟨prog,Tw c N,false,f79.ntmps,N⟩ t s) (fun t s=>bT (ao (aq (aj (aj (f79.body.getD .skip)))) ⟨prog,Tw c N,false,f79.ntmps,N⟩ t s) (ao (aj (aj (aj (f79.body.getD .skip)))) ⟨prog,Tw c N,false,f79.ntmps,N⟩))))=_
 have p7:ao (aq (aj (aj (f79.body.getD .skip)))) ⟨prog,Tw c N,false,f79.ntmps,N⟩ t1 s4=.nx t5 s5:=d1;rw[p0,dK,p4,dK,p7,dK];simp[aj,f79,aG,aF,oT,IT d2,IT d3,d4,d5]
def zf(st:St)(w:AV)(ys:List Ex):Prop:=∃ lo g,aW st lo 7 w ys.length (pw ys) g
theorem zf.len{ys:List Ex}{w:AV}(h:zf st w ys)(s:St):ft prog s [32] [w]=some (.i .i64 (ys.length:Int),s):=by obtain⟨lo,g,h⟩:=h;exact aY underlying32 h.len.1 h.len.2
theorem Qn:∀ (ys:List Ex) (i:Nat) (h:i<ys.length),((pw ys).drop (i*7)).take 7=ys[i].cells
 |[],i,h=>by grind
 |y::ys,0,h=>by
  show(((y.cells++pw ys).drop 0).take 7)=_
  rw[List.drop_zero,<-y.aO,Z4];rfl
 |y::ys,i+1,h=>by
  have e:(i+1)*7=y.cells.length+i*7:=by rw[y.aO];omega
  show(((y.cells++pw ys).drop ((i+1)*7)).take 7)=_
  rw[e,<-V0,J6,Qn ys i (by grind)];rfl
theorem zf.at{ys:List Ex}{w:AV}(h:zf st w ys){i:Nat}(hi:i<ys.length):
  ∃ a,indexAddr prog 32 w (.i .i64 (i:Int))=some a/\∀ {s:St},Kp [] [] st s->loadAt prog 35 s a=some (.ag ys[i].cells):=by
 obtain⟨lo,g,⟨-,h0,-⟩|⟨r,-,h0,-⟩|⟨r,f,al,rfl,rfl,h1,h2,h3,h4,h5,h6,h7⟩⟩:=h
 ·omega
 ·omega
 ·have ix:=kQ jk.und jk.inf jk.sz r 0 ys.length i none hi;rw[Z5]at ix;refine⟨_,ix,fun {s} k=>?_⟩;have hc:=k.ce h1 h6 h7 (by simp) (by simp);rw[lS cI qQ,aH,au hc,lJ _ _ _ (by grind),Qn ys i hi];rfl
def IV(c:Option Self)(g:Nat)(caps:List AV)(M0:Nat)(st:St)(ys:List Ex)(p:Ex->Bool):Prop:=∀ (M:Nat),M0<=M->∀ (s:St),Kp [] [] st s->∀ y∈ys,∃ s',nj prog (Tw c M) g (.ag y.cells::caps) s=some (.b (p y),s')/\Kp [] [] s s'
theorem abh(hD:IV c g caps M0 st ys p)(hv:zf st w ys)(hl:ys.length<=5000000)(hN:M0+6000000<=N):
  ∃ st' i,(Tw c N).call 126 [w,.f (.func g) [] caps] st=some (.i .i64 i,st')/\Kp [] [] st st'/\(0<=i↔∃ x∈ys,p x=true):=by
 obtain⟨N,rfl⟩:∃ N',N=N'+1:=⟨N-1,by omega⟩;rw[dt rfl func126 rfl (Q1 rfl)];unfold aV;simp[f126,hv.len,bw];generalize hL:bf _ _ _ _=L;have lr:=fW hL 0 ys.length
  (fun i t s1=>ab t 0=w/\ab t 1=.f (.func g) [] caps/\ab t 7=.i .i64 (ys.length:Int)/\ab t 8=.i .i64 (i:Int)/\(∀ x∈ys.take i,p x=false)/\Kp [] [] st s1)
  (fun t s1=>(∀ x∈ys,p x=false)/\Kp [] [] st s1) (fun t s1=>(∃ i:Nat,ab t 4=.i .i64 (i:Int)/\∃ x∈ys,p x=true)/\Kp [] [] st s1) (by omega)
  ⟨by simp,by simp,by simp,by simp,by simp,.refl _ _ _⟩
  (by
   rintro i t s1 hi ⟨i0,i1,il,ii,iP,iK⟩;have e5:(i:Int)<(ys.length:Int):=by omega
   have e7:wr .i64 ((i:Int)+1)=((i+1:Nat):Int):=by rw[aZ (by omega) (by omega)];rfl
   obtain⟨a0,ix,ldx⟩:=hv.at hi;have ldi:=ldx iK;obtain⟨s2,d1,d3⟩:=hD N (by omega) s1 iK ys[i] (Q6 hi);cases hd:p ys[i] with
   |true =>rw[hd]at d1;simp[i0,i1,il,ii,e5,ix,ldi,d1];exact⟨_,_,⟨rfl,rfl⟩,⟨⟨i,by simp⟩,ys[i],Q6 hi,hd⟩,iK.trans d3⟩
   |false =>
    rw[hd]at d1;simp[i0,i1,il,ii,e5,e7,ix,ldi,d1];refine⟨_,_,⟨rfl,rfl⟩,by simp[i0],by simp[i1],by simp[il],by simp,fun x hx=>?_,iK.trans d3⟩;rw[<-J8 hi]at hx;rcases Q8.1 hx with hx|hx
    ·exact iP x hx
    ·rw[J9.1 hx];exact hd)
  (by rintro t s1 ⟨i0,i1,il,ii,iP,iK⟩;simp[il,ii];exact⟨_,_,⟨rfl,rfl⟩,by rwa [Z3]at iP,iK⟩)
 rcases lr with ⟨t1,s1,rfl,hP,hK⟩|⟨t1,s1,rfl,⟨i,hT,x,h1,h2⟩,hK⟩
 ·exact⟨s1,-1,by simp[aG,aF],hK,fun h=>by omega,fun⟨x,h1,h2⟩=>by rw[hP x h1]at h2;cases h2⟩
 ·exact⟨s1,i,by simp[hT,aG,aF],hK,fun _=>⟨x,h1,h2⟩,fun _=>by omega⟩
theorem YQ(hD:IV c g caps M0 st ys p)(hv:zf st w ys)(hl:ys.length<=5000000)(hN:M0+7000000<=N):
  ∃ st',(Tw c N).call 81 [w,.f (.func g) [] caps] st=some (.b (ys.any p),st')/\Kp [] [] st st':=by
 obtain⟨N,rfl⟩:∃ N',N=N'+1:=⟨N-1,by omega⟩;rw[dt rfl func81 rfl (Q1 rfl)];unfold aV;obtain⟨s1,i,h1,h2,h3⟩:=abh hD hv hl (N:=N) (by omega);refine⟨s1,?_,h2⟩;cases hb:ys.any p with
 |true =>have h0:0<=i:=h3.2 (List.any_eq_true.1 hb);simp[f81,h1,h0,aG,aF]
 |false =>
  have h0:¬ (0<=i):=fun hh=>by grind
  simp[f81,h1,h0,aG,aF]
def gD:Ex->AV
 |.mk _ _ _ ps _ _ _=>ps
def GU(E:Ex)(s:ah):Nat:=match (aN E).list[(jy (aN E).names s 0).toNat]? with
 |some p=>(ba (gD p.2)).length
 |none=>0
def wO(E:Ex)(fr:Int)(y:Ex):Bool:=match hQ y with
 |some s=>decide (((kD y).len:Int)-1<(GU E s:Int))||decide (((kD y).len:Int)-1+fr > 32)
 |none=>false
theorem cH.YY{X:List Nat}{l:ae}(hT:l.Ty 1)(h:cH st X v 8 l)(hi:i<l.list.length):
  ∃ a a1 a2,indexAddr prog 23 v (.i .i64 (i:Int))=some a/\(∀ s,fieldAt 1 s a=some (a1,s))/\(∀ s,fieldAt 3 s a1=some (a2,s))/\∀ (A B:List Nat) (s:St),Kp A B st s->(∀ x,x∈A->x∈X)->(∀ x,x∈B->x∈X)->loadAt prog 31 s a2=some (gD l.list[i].2):=by
 have hil:i<l.len:=by rw[ae.aC];exact hi
 obtain⟨r1,r2,r3⟩:=eR hT.pre (z:=8) rfl hi;obtain⟨⟨s0,hp0⟩,-⟩:=ae.cU hT _ (Q6 hi);obtain⟨k,nm,num,ps,b,a,l5,hx⟩:∃ k nm num ps b a l5,l.list[i].2=Ex.mk k nm num ps b a l5:=by cases l.list[i].2;exact⟨_,_,_,_,_,_,_,rfl⟩
 rw[hp0,hx]at r2;have r2:l.flat.drop (i*8)=.s s0::.i .i64 k::.s nm::.i .i64 num::ps::b.slice 8::a.slice 7::l5.slice 11::r1:=by rw[r2];simp[Ex.cells]
 rcases h with rfl|⟨h0,r,g,al,q,rfl,h2,h3,h4,h5,h6⟩
 ·refine⟨.rp (l.flat.drop (i*8)),.rp ((l.flat.drop (i*8)).drop 1),.rp (((l.flat.drop (i*8)).drop 1).drop 3),?_,fun s=>rfl,fun s=>rfl,fun A B s _ _ _=>?_⟩
  ·rw[ae.cZ hil];exact dV fG.und fG.inf fG.sz l.flat l.len i hil
  ·rw[r2];simp[gD,hx]
 ·refine⟨.p r (0+i*8),.p r (0+i*8+1),.p r (0+i*8+1+3),kQ fG.und fG.inf fG.sz r 0 l.len i q hil,fun s=>rfl,fun s=>rfl,fun A B s k hA hB=>?_⟩;have hc:=k.ce h2 h3 h4 (fun hh=>h5 (hA _ hh)) (fun hh=>h6 (hB _ hh));have hf:=py hT.pre rfl;have h7:i*8+8<=l.flat.length:=by
   rw[hf];have:=Nat.mul_le_mul_right 8 (show i+1<=l.len from hil)
   rwa [Z6,Nat.one_mul]at this
  have e:0+i*8+1+3=i*8+4:=by omega
  rw[oE qS SD,au hc,e,lJ _ _ _ (by omega),<-V0,r2,hx];rfl
theorem WR{rF:Nat}(hE:E.Ty)(hEs:E.size<=1000000)(h7:cells.length=7)(hfr:0<=fr/\fr<=5000000)(hre:bA s [] re cells)(hB:Bx s [] (.ag cells) E)(hF:bA s [] rF [.i .i64 fr]){y:Ex}(hT:y.Ty)(hs:y.size<=1000000)(hy:fh (aN E).names y=true)(hN:4000000<=N):
  ∃ s',(Tw c (N+1)).call 82 [.ag y.cells,.p re 0,.p rF 0] s=some (.b (wO E fr y),s')/\Kp [] [] s s':=by
 rw[dt rfl func82 rfl (Q1 rfl)];unfold aV;obtain⟨k,nm,num,ps,b,a,l⟩:=y;have hk:k=6:=by
  by_cases h:k=6
  ·exact h
  ·simp[fh,hQ,h]at hy
 subst hk;cases a with
 |nil f=>simp[fh,hQ,ae.list]at hy
 |cons p z al =>
  simp only[Ex.Ty]at hT;have hp0:p=[]:=hT.2.2.2.1.1;subst hp0;obtain⟨kz,ny,mz,pz,bz,az,lz⟩:=z;have hkz:kz=1:=by
   by_cases h:kz=1
   ·exact h
   ·simp[fh,hQ,ae.list,Ex.kind,h]at hy
  subst hkz;have hin:ny∈(aN E).names:=by simpa[fh,hQ,ae.list,Ex.kind,iw]using hy
  obtain⟨j,hj,hj1,hj2⟩:=Pl hin;have hsz:(Ex.mk 6 nm num ps b (.cons [] (Ex.mk 1 ny mz pz bz az lz) al) l).size=1+b.size+(ae.cons [] (Ex.mk 1 ny mz pz bz az lz) al).size+l.size:=by simp only[Ex.size]
  have hal:=(ae.cons [] (Ex.mk 1 ny mz pz bz az lz) al).bZ;simp only[ae.len]at hal;obtain⟨x0,hx0⟩:∃ x,Ex.mk 6 nm num ps b (.cons [] (Ex.mk 1 ny mz pz bz az lz) al) l=x:=⟨_,rfl⟩;obtain⟨rx,hrx⟩:∃ r,s.next=r:=⟨_,rfl⟩;have hcx:x0.cells=[.i .i64 6,.s nm,.i .i64 num,ps,b.slice 8,(ae.cons [] (Ex.mk 1 ny mz pz bz az lz) al).slice 7,l.slice 11]:=by rw[<-hx0];simp[Ex.cells]
  obtain⟨s0,hs0⟩:∃ t,s.aw x0.cells=t:=⟨_,rfl⟩;have c0:=cz (st:=s) x0.cells;have k0:Kp [] [] s s0:=by rw[<-hs0];exact .aw _ _ _
  rw[hs0,hrx,hcx]at c0;have R:=hre.keep k0 (by simp) (by simp);have F:=hF.keep k0 (by simp) (by simp);have B:=hB.keep k0 (by simp) (by simp);have r5:rd s0 rx 5 1=some [(ae.cons [] (Ex.mk 1 ny mz pz bz az lz) al).slice 7]:=by rw[au c0];rfl
  have rf:rd s0 rF 0 1=some [.i .i64 fr]:=by rw[F.rd];rfl
  have re0:rd s0 re 0 7=some cells:=by rw[R.rd,cQ,<-h7,dD]
  have hp:=DU (c:=c) hE hEs B ny (N:=N) (by omega);rw[hj1]at hp;obtain⟨kE,nE,mE,pE,bE,aE,lE⟩:=E;obtain⟨bv,av,lv,hcells,q2,q3,q4⟩:=id B;cases hcells;have r4:rd s0 re 4 1=some [bv]:=by rw[R.rd];rfl
  simp only[Ex.Ty]at hE;have hj':j<bE.list.length:=by simpa[aN,ae.names]using hj
  obtain⟨a0,a1,a2,ix,f1,f2,ld⟩:=q2.YY hE.2.2.1 hj';have ldp:=ld [] [] s0 (.refl _ _ _) (by simp) (by simp);have hTj:=ae.cU hE.2.2.1 _ (Q6 hj');have hnm:jY (gD bE.list[j].2):=by
   have:=hTj.2;cases hb:bE.list[j].2 with
   |mk k1 n1 m1 p1 b1 a1 l1=>rw[hb]at this;simp only[Ex.Ty]at this;exact this.2.1
  have lnp:=hnm.sl.1.sLen (st:=s0) gz;have hpar:GU (Ex.mk kE nE mE pE bE aE lE) ny=(ba (gD bE.list[j].2)).length:=by
   unfold GU;rw[hj1];show(match bE.list[(j:Int).toNat]? with|some p=>(ba (gD p.2)).length|none=>0)=_
   rw[Int.toNat_natCast,List.getElem?_eq_getElem hj']
  have hbad:wO (Ex.mk kE nE mE pE bE aE lE) fr x0=(decide ((al.len:Int)<((ba (gD bE.list[j].2)).length:Int))||decide ((al.len:Int)+fr > 32)):=by
   rw[<-hpar,<-hx0];have e:((al.len+1:Nat):Int)-1=(al.len:Int):=by omega
   simp[wO,hQ,ae.list,Ex.kind,iw,kD,ae.len]
  have la:=aY (st:=s0) underlying32 ((ae.cons [] (Ex.mk 1 ny mz pz bz az lz) al).bK 7) ((ae.cons [] (Ex.mk 1 ny mz pz bz az lz) al).bJ 7);have hfl:(ae.cons [] (Ex.mk 1 ny mz pz bz az lz) al).flat=.i .i64 1::.s ny::.i .i64 mz::pz::bz.slice 8::az.slice 7::lz.slice 11::al.flat:=by simp[ae.flat,Ex.cells]
  have hsl:(ae.cons [] (Ex.mk 1 ny mz pz bz az lz) al).slice 7=.rs (.i .i64 1::.s ny::.i .i64 mz::pz::bz.slice 8::az.slice 7::lz.slice 11::al.flat) (al.len+1) 7:=by simp[ae.slice,Ex.cells]
  have iy:=dV (P:=prog) underlying32 cI aH (ae.cons [] (Ex.mk 1 ny mz pz bz az lz) al).flat (al.len+1) 0 (by omega);rw[hfl]at iy;rw[hsl]at la r5;simp at iy;simp only[ae.len]at la;have e1:wr .i64 (((al.len+1:Nat):Int)-1)=(al.len:Int):=by rw[aZ (by omega) (by omega)];omega
  have e2:wr .i64 ((al.len:Int)+fr)=(al.len:Int)+fr:=aZ (by omega) (by omega);simp at e1;refine⟨s0,?_,k0⟩;rw[hx0,hbad,hcx,hsl];rw[hcx,hsl]at hs0;by_cases hlt:(al.len:Int)<((ba (gD bE.list[j].2)).length:Int)
  ·simp[f82,hrx,hs0,r5,la,e1,br];rw[eJ (fl:=[(2,10)])]
   ·simp[r4,r5,iy,aH,re0,hp,ix,f1,f2,ldp,lnp,hlt,aG,aF];exact .inl (by omega)
   ·kernel_rfl
   ·intro R' hR';simp[r4,r5,iy,aH,re0,hp,ix,f1,f2,ldp,lnp,hlt]at hR';subst hR';simp only[J3,J4,J5];refine bV rfl rfl rfl (s:=s0) ?_;simp[r4]
  ·simp[f82,hrx,hs0,r5,la,e1,br];rw[eJ (fl:=[(2,10)])]
   ·simp[r4,r5,rf,e2,iy,aH,re0,hp,ix,f1,f2,ldp,lnp,hlt,aG,aF];intro hh;omega
   ·kernel_rfl
   ·intro R' hR';simp[r4,r5,rf,e2,iy,aH,re0,hp,ix,f1,f2,ldp,lnp,hlt]at hR';subst hR';simp only[J3,J4,J5];refine bV rfl rfl rfl (s:=s0) ?_;simp[r4]
theorem S5:∀ x:Ex,x.Ty->∀ y∈cP x,y.Ty/\y.size<=x.size:=by
 refine Ex.ind fun k nm num ps b a l hb ha hl=>?_
 intro hT y hy;have hT':=hT;simp only[Ex.Ty]at hT;have hsz:(Ex.mk k nm num ps b a l).size=1+b.size+a.size+l.size:=by simp only[Ex.size]
 have one:∀ (q:ae) (m:Nat),q.Ty m->(∀ p∈q.list,p.2.Ty->∀ y∈cP p.2,y.Ty/\y.size<=p.2.size)->y∈nV q->y.Ty/\y.size<=q.size:=by intro q m hq ih hy;rw[AE]at hy;obtain⟨l',h1,h2⟩:=List.mem_flatten.1 hy;obtain⟨p,h3,rfl⟩:=List.mem_map.1 h1;have h4:=ih p h3 (ae.cU hq p h3).2 y h2;have h5:=ae.dU h3;grind
 grind[cP]
theorem aa1(h:x.Ty):(letE x).Ty:=by obtain⟨k,nm,num,ps,b,a,l⟩:=x;exact⟨by omega,⟨[],.inl ⟨rfl,rfl⟩,by simp⟩,h.2.2.1,h.2.2.2.1,trivial⟩
theorem KT(x:Ex):(letE x).size<=x.size:=by obtain⟨k,nm,num,ps,b,a,l⟩:=x;grind[letE,Ex.size,ae.size]
theorem Yy{rF:Nat}(hE:E.Ty)(hEs:E.size<=1000000)(h7:cells.length=7)(hfr:0<=fr/\fr<=5000000)(hre:bA st [] re cells)(hB:Bx st [] (.ag cells) E)(hF:bA st [] rF [.i .i64 fr]):IV c 82 [.p re 0,.p rF 0] 4000001 st (jV (aN E).names (cP (letE E))) (wO E fr):=by intro M hM s hK y hy;obtain⟨N,rfl⟩:∃ N',M=N'+1:=⟨M-1,by omega⟩;obtain⟨h1,h2⟩:=List.mem_filter.1 hy;obtain⟨h3,h4⟩:=S5 _ (aa1 hE) y h1;have:=KT E;obtain⟨s',e,k⟩:=WR (c:=c) hE hEs h7 hfr (hre.keep hK (by simp) (by simp)) (hB.keep hK (by simp) (by simp)) (hF.keep hK (by simp) (by simp)) h3 (by omega) h2 (N:=N) (by omega);exact⟨s',by rw[mV func82 rfl];grind,k⟩
def zX(L:List (List AV× Ex)):Prop:=∀ p∈L,p.2.kind=5
theorem ab8{b:ae}(hT:b.Ty 1)(hb:b.len<=1000000)(t0:ab t 0=.p lr 0)(t3:ab t 3=.p re 0)(hre:bA s [] re (pre++bv::post))(hp:pre.length=4)(hB:cH s [] bv 8 b)(hN:4000000<=N):
  (∃ t' s',ao (aq (aj (aj (f53.body.getD .skip)))) ⟨prog,Tw c N,false,f53.ntmps,N⟩ t s=.nx t' s'/\ab t' 0=.p lr 0/\ab t' 3=.p re 0/\Kp [] [] s s'/\zX b.list)\/
  (∃ t' s',ao (aq (aj (aj (f53.body.getD .skip)))) ⟨prog,Tw c N,false,f53.ntmps,N⟩ t s=.rt t' s'/\ab t' 4=.b false/\Kp [] [] s s'):=by
 have rb:rd s re 4 1=some [bv]:=by rw[hre.rd,lJ _ _ _ (by simp;omega),<-hp,J6];rfl
 simp[aq,aj,f53,t3,rb,hB.len fG,bw];generalize hL:bf _ _ _ _=L;have lr:=fW hL 0 b.list.length
  (fun i t s1=>ab t 0=.p lr 0/\ab t 3=.p re 0/\ab t 22=bv/\ab t 23=.i .i64 (b.len:Int)/\ab t 24=.i .i64 (i:Int)/\zX (b.list.take i)/\Kp [] [] s s1)
  (fun t s1=>ab t 0=.p lr 0/\ab t 3=.p re 0/\zX b.list/\Kp [] [] s s1) (fun t s1=>ab t 4=.b false/\Kp [] [] s s1) (by rw[<-ae.aC];omega)
  ⟨by simp[t0],by simp[t3],by simp,by simp,by simp,by simp[zX],.refl _ _ _⟩
  (by
   rintro i t s1 hi ⟨i0,i3,i22,il,ii,iP,iK⟩;clear hL;have hil:i<b.len:=by rw[ae.aC];exact hi
   have e5:(i:Int)<(b.len:Int):=by omega
   have e7:wr .i64 ((i:Int)+1)=((i+1:Nat):Int):=by rw[aZ (by omega) (by omega)];rfl
   have hTi:=ae.cU hT _ (Q6 hi);obtain⟨a0,ix,ldx⟩:=hB.at fG kI hT.pre rfl hi;have ldi:=ldx [] [] s1 iK (by simp) (by simp);obtain⟨s5,w1,w2,w3,w4,w5,w6⟩:=IC (zs:=jr) hTi.1 hTi.2 rfl rfl s1;have sto:=aI dn cV (s1.aw jr) s1.next 0 _ w6;have rk:rd s5 s1.next 1 1=some [.i .i64 b.list[i].2.kind]:=by rw[w2.rd];obtain⟨⟨s0,hp0⟩,-⟩:=hTi;rw[hp0];cases b.list[i].2;simp[Ex.cells,Ex.kind]
   by_cases hk:b.list[i].2.kind=5
   ·left;simp[i22,il,ii,e5,e7,ix,ldi,aJ,qj,sto,w1,rk,hk];refine⟨_,_,⟨rfl,rfl⟩,by simp[i0],by simp[i3],by simp[i22],by simp[il],by simp,fun x hx=>?_,iK.trans w4⟩;rw[<-J8 hi]at hx;rcases Q8.1 hx with hx|hx
    ·exact iP x hx
    ·rw[J9.1 hx];exact hk
   ·right;simp[i22,il,ii,e5,ix,ldi,aJ,qj,sto,w1,rk,hk];exact⟨_,_,⟨rfl,rfl⟩,by simp,iK.trans w4⟩)
  (by rintro t s1 ⟨i0,i3,i22,il,ii,iP,iK⟩;clear hL;simp[il,ii,ae.aC];exact⟨_,_,⟨rfl,rfl⟩,by simp[i0],by simp[i3],by rwa [Z3]at iP,iK⟩)
 clear hL;rcases lr with ⟨t1,s1,rfl,h0,h3,hP,hK⟩|⟨t1,s1,rfl,h4,hK⟩
 ·left;exact⟨t1,s1,by simp,h0,h3,hK,hP⟩
 ·right;exact⟨t1,s1,by simp,h4,hK⟩
def allFit(fr:Int)(L:List (List AV× Ex)):Prop:=∀ p∈L,wr .i64 (((ba (gD p.2)).length:Int)+fr)<=32
theorem UX(_:0<=fr/\fr<=5000000){rF:Nat}{b:ae}(hT:b.Ty 1)(hb:b.len<=1000000)(t7:ab t 7=w)(t9:ab t 9=.p rF 0)(hF:bA s [] rF [.i .i64 fr])(t3:ab t 3=.p re 0)(hre:bA s [] re (pre++bv::post))(hp:pre.length=4)(hB:cH s [] bv 8 b)(hN:4000000<=N):
  (∃ t' s',ao (aq (aj (aj (aj (aj (aj (aj (f53.body.getD .skip)))))))) ⟨prog,Tw c N,false,f53.ntmps,N⟩ t s=.nx t' s'/\ab t' 7=w/\ab t' 9=.p rF 0/\ab t' 3=.p re 0/\Kp [] [] s s'/\allFit fr b.list)\/
  (∃ t' s',ao (aq (aj (aj (aj (aj (aj (aj (f53.body.getD .skip)))))))) ⟨prog,Tw c N,false,f53.ntmps,N⟩ t s=.rt t' s'/\ab t' 4=.b false/\Kp [] [] s s'):=by
 have rb:rd s re 4 1=some [bv]:=by rw[hre.rd,lJ _ _ _ (by simp;omega),<-hp,J6];rfl
 simp[aq,aj,f53,t3,rb,hB.len fG,bw];generalize hL:bf _ _ _ _=L;have lr:=fW hL 2 b.list.length
  (fun i t s1=>ab t 7=w/\ab t 9=.p rF 0/\ab t 3=.p re 0/\ab t 47=bv/\ab t 48=.i .i64 (b.len:Int)/\ab t 49=.i .i64 (i:Int)/\allFit fr (b.list.take i)/\Kp [] [] s s1)
  (fun t s1=>ab t 7=w/\ab t 9=.p rF 0/\ab t 3=.p re 0/\allFit fr b.list/\Kp [] [] s s1) (fun t s1=>ab t 4=.b false/\Kp [] [] s s1) (by rw[<-ae.aC];omega)
  ⟨by simp[t7],by simp[t9],by simp[t3],by simp,by simp,by simp,by simp[allFit],.refl _ _ _⟩
  (by
   rintro i t s1 hi ⟨i7,i9,i3,i22,il,ii,iP,iK⟩;clear hL;have hil:i<b.len:=by rw[ae.aC];exact hi
   have e5:(i:Int)<(b.len:Int):=by omega
   have e7:wr .i64 ((i:Int)+1)=((i+1:Nat):Int):=by rw[aZ (by omega) (by omega)];rfl
   have hTi:=ae.cU hT _ (Q6 hi);obtain⟨a0,ix,ldx⟩:=hB.at fG kI hT.pre rfl hi;have ldi:=ldx [] [] s1 iK (by simp) (by simp);obtain⟨s5,w1,w2,w3,w4,w5,w6⟩:=IC (zs:=jr) hTi.1 hTi.2 rfl rfl s1;have sto:=aI dn cV (s1.aw jr) s1.next 0 _ w6;have rk:rd s5 (s1.next) 4 1=some [gD b.list[i].2]:=by rw[w2.rd];obtain⟨⟨s0,hp0⟩,-⟩:=hTi;rw[hp0];cases b.list[i].2;simp[Ex.cells,gD]
   have hnm:jY (gD b.list[i].2):=by
    have:=hTi.2;cases hb:b.list[i].2 with
    |mk k1 n1 m1 p1 b1 a1 l1=>rw[hb]at this;simp only[Ex.Ty]at this;exact this.2.1
   have lnp:=hnm.sl.1.sLen (st:=s5) gz;have hnl:=hnm.sl.2;have rf:rd s5 rF 0 1=some [.i .i64 fr]:=by rw[((hF.keep iK (by simp) (by simp)).keep w4 (by simp) (by simp)).rd];rfl
   obtain⟨m,hm⟩:∃ m,(ba (gD b.list[i].2)).length=m:=⟨_,rfl⟩;rw[hm]at lnp hnl;obtain⟨u,hu⟩:∃ u,wr .i64 ((m:Int)+fr)=u:=⟨_,rfl⟩;by_cases hk:u<=32
   ·left;have hk':¬ (32<u):=by omega
    simp[i9,i22,il,ii,e5,e7,ix,ldi,aJ,qj,sto,w1,rk,rf,lnp,hu,hk'];refine⟨_,_,⟨rfl,rfl⟩,by simp[i7],by simp[i9],by simp[i3],by simp[i22],by simp[il],by simp,fun x hx=>?_,iK.trans w4⟩;rw[<-J8 hi]at hx;rcases Q8.1 hx with hx|hx
    ·exact iP x hx
    ·rw[J9.1 hx,hm,hu];exact hk
   ·right;have hk':32<u:=by omega
    simp[i9,i22,il,ii,e5,ix,ldi,aJ,qj,sto,w1,rk,rf,lnp,hu,hk'];exact⟨_,_,⟨rfl,rfl⟩,by simp,iK.trans w4⟩)
  (by rintro t s1 ⟨i7,i9,i3,i22,il,ii,iP,iK⟩;clear hL;simp[il,ii,ae.aC];exact⟨_,_,⟨rfl,rfl⟩,by simp[i7],by simp[i9],by simp[i3],by rwa [Z3]at iP,iK⟩)
 clear hL;rcases lr with ⟨t1,s1,rfl,h0,h9,h3,hP,hK⟩|⟨t1,s1,rfl,h4,hK⟩
 ·left;exact⟨t1,s1,by simp,h0,h9,h3,hK,hP⟩
 ·right;exact⟨t1,s1,by simp,h4,hK⟩
theorem dw{x:Ctx}(hq:cd=.seq (aq cd) (aj cd))(h:ao (aq cd) x t s=.nx t' s'):ao cd x t s=ao (aj cd) x t' s':=by
 rw[hq];show bT (ao (aq cd) x t s) (ao (aj cd) x)=_
 rw[h,dK];rfl
theorem BH{x:Ctx}(hq:cd=.seq (aq cd) (aj cd))(h:ao (aq cd) x t s=.rt t' s'):ao cd x t s=.rt t' s':=by
 rw[hq];show bT (ao (aq cd) x t s) (ao (aj cd) x)=_
 rw[h];rfl
theorem QS(n:Nat)(T:ah->Bool)(x:Ex):(fZ c n T x).length<=x.size:=by
 have h1:=ZR (fun s=>T s||decide (s∈(aN x).names)) (mM (mD c n) (aN x).list []);have h2:=Fl (mD c n) (aN x).list [];have h3:((aN x).list.map fun p=>p.2.size).sum=(aN x).size:=(ae.size_eq _).symm;have h4:(aN x).size<=x.size:=by cases x;simp only[aN,Ex.size];omega
 unfold fZ;simp only[List.length_nil]at h2;omega
structure xk(c:Option Self)(N:Nat)(T:ah->Bool)(x:Ex):Prop where
 k7:x.kind=7
 ne:(aN x).len≠0
 lam:zX (aN x).list
 zZ:allFit ((fZ c N T x).length:Int) (aN x).list
 ok:(jV (aN x).names (cP (letE x))).any (wO x ((fZ c N T x).length:Int))=false
noncomputable def dJ:Nat->Code
 |0=>f53.body.getD .skip
 |k+1=>aj (dJ k)
theorem YD(ns:List ah)(ys:List Ex):(jV ns ys).length<=ys.length:=Z9 _ _
theorem abP(hT:x.Ty)(hs:x.size<=1000000)(hB:Bx st [] v x){rest:List AV}{T:ah->Bool}(hlr:bA st [] lr (.m mn::rest))(hmp:cS st mn (jL T))(hmn:mn<st.next)(hN:20000000000000000000<=N):
  ∃ st' r,(Tw c (N+2)).call 53 [.p lr 0,v] st=some (.b r,st')/\Kp [] [] st st'/\(r=true->xk c N T x):=by
 rw[dt rfl func53 rfl (Q1 rfl)];unfold aV;obtain⟨fr,hfr⟩:∃ fr:Int,((fZ c N T x).length:Int)=fr:=⟨_,rfl⟩;have hfl:=QS (c:=c) N T x;have hfr5:0<=fr/\fr<=5000000:=by omega
 have hT0:=hT;obtain⟨k,nm,num,ps,b,a,l⟩:=x;simp only[Ex.Ty]at hT;have hsz:(Ex.mk k nm num ps b a l).size=1+b.size+a.size+l.size:=by simp only[Ex.size]
 have hbl:=b.bZ;obtain⟨bv,av,lv,rfl,h2,h3,h4⟩:=id hB;obtain⟨cells,hcl⟩:∃ cl:List AV,[AV.i .i64 k,.s nm,.i .i64 num,ps,bv,av,lv]=cl:=⟨_,rfl⟩;have hc7:cells.length=7:=by rw[<-hcl];rfl
 obtain⟨re,hre⟩:∃ r,st.next=r:=⟨_,rfl⟩;obtain⟨s1,hs1⟩:∃ s,st.aw cells=s:=⟨_,rfl⟩;have k1:Kp [] [] st s1:=by rw[<-hs1];exact .aw _ _ _
 have p1:bA s1 [] re cells:=by rw[<-hs1,<-hre];exact bA.new _ _ _ (by simp)
 rw[hcl]at hB|-;show ∃ st' r,eE prog f53.results.toList (ao (dJ 0) ⟨prog,Tw c (N+1),false,f53.ntmps,N+1⟩ (tmpsOf [.p lr 0,.ag cells] 0 .lf) st)=some (.b r,st')/\_
 have a0:∃ t,ao (aq (dJ 0)) ⟨prog,Tw c (N+1),false,f53.ntmps,N+1⟩ (tmpsOf [.p lr 0,.ag cells] 0 .lf) st=.nx t s1/\ab t 0=.p lr 0/\ab t 3=.p re 0:=by simp[dJ,aq,f53,hre,hs1]
 obtain⟨t0,a0,b0,b3⟩:=a0;rw[dw rfl a0];have r0:rd s1 re 0 1=some [.i .i64 k]:=by rw[p1.rd,<-hcl];rfl
 have r4:rd s1 re 4 1=some [bv]:=by rw[p1.rd,<-hcl];rfl
 by_cases hk:k=7/\b.len≠0
 case neg =>
  have a1:∃ t,ao (aq (dJ 1)) ⟨prog,Tw c (N+1),false,f53.ntmps,N+1⟩ t0 s1=.rt t s1/\ab t 4=.b false:=by
   by_cases hk7:k=7
   ·have hb0:b.len=0:=by
     by_cases hb:b.len=0
     ·exact hb
     ·exact absurd ⟨hk7,hb⟩ hk
    simp[dJ,aq,aj,f53,b3,r0,r4,h2.len fG,hk7,hb0]
   ·simp[dJ,aq,aj,f53,b3,r0,hk7]
  obtain⟨t1,a1,b4⟩:=a1;refine⟨s1,false,?_,k1,fun h=>by cases h⟩;rw[show aj (dJ 0)=dJ 1 from rfl,BH rfl a1];simp[f53,aG,aF,b4]
 obtain⟨rfl,hb0⟩:=hk;have a1:∃ t,ao (aq (dJ 1)) ⟨prog,Tw c (N+1),false,f53.ntmps,N+1⟩ t0 s1=.nx t s1/\ab t 0=.p lr 0/\ab t 3=.p re 0:=by simp[dJ,aq,aj,f53,b0,b3,r0,r4,h2.len fG,hb0]
 obtain⟨t1,a1,c0,c3⟩:=a1;rw[show aj (dJ 0)=dJ 1 from rfl,dw rfl a1];rcases ab8 (c:=c) (b:=b) (bv:=bv) (pre:=[.i .i64 7,.s nm,.i .i64 num,ps]) (post:=[av,lv]) hT.2.2.1 (by omega) c0 c3 (by rw[show[AV.i .i64 7,.s nm,.i .i64 num,ps]++bv::[av,lv]=cells from hcl];exact p1) rfl (h2.keep k1 (by simp) (by simp)) (N:=N+1) (by omega) with ⟨t2,s2,a2,d0,d3,k2,hlam⟩|⟨t2,s2,a2,d4,k2⟩
 case inr =>refine⟨s2,false,?_,k1.trans k2,fun h=>by cases h⟩;rw[show aj (dJ 1)=dJ 2 from rfl,BH (cd:=dJ 2) rfl a2];simp[f53,aG,aF,d4]
 rw[show aj (dJ 1)=dJ 2 from rfl,dw (cd:=dJ 2) rfl a2];have K2:=k1.trans k2;have p2:=p1.keep k2 (by simp) (by simp);have B2:=hB.keep K2 (by simp) (by simp);have ra:rd s2 re 0 7=some cells:=by rw[p2.rd,cQ,<-hc7,dD]
 obtain⟨s3,w,ns,lo,g,q1,q2,q3,k3⟩:=aaM (c:=c) hT0 hs B2 (N:=N) (by omega);obtain⟨ys,hys⟩:∃ ys,jV (aN (Ex.mk 7 nm num ps b a l)).names (cP (letE (Ex.mk 7 nm num ps b a l)))=ys:=⟨_,rfl⟩;have hyl:ys.length<=1000000:=by have h1:=YD (aN (Ex.mk 7 nm num ps b a l)).names (cP (letE (Ex.mk 7 nm num ps b a l)));have h2:=KT (Ex.mk 7 nm num ps b a l);rw[CK,hys]at h1;omega
 rw[hys]at q3;have a3:∃ t,ao (aq (dJ 3)) ⟨prog,Tw c (N+1),false,f53.ntmps,N+1⟩ t2 s2=.nx t s3/\ab t 0=.p lr 0/\ab t 3=.p re 0/\ab t 7=w/\ab t 8=.i .i64 ns:=by simp[dJ,aq,aj,f53,d0,d3,aH,ra,q1]
 obtain⟨t3,a3,e0,e3,e7,e8⟩:=a3;rw[show aj (dJ 2)=dJ 3 from rfl,dw (cd:=dJ 3) rfl a3];have lw:=aY (P:=prog) (st:=s3) underlying32 q3.len.1 q3.len.2;by_cases hns:(ys.length:Int)=ns
 case neg =>
  have a4:∃ t,ao (aq (dJ 4)) ⟨prog,Tw c (N+1),false,f53.ntmps,N+1⟩ t3 s3=.rt t s3/\ab t 4=.b false:=by simp[dJ,aq,aj,f53,e7,e8,lw,hns]
  obtain⟨t4,a4,f4⟩:=a4;refine⟨s3,false,?_,K2.trans k3,fun h=>by cases h⟩;rw[show aj (dJ 3)=dJ 4 from rfl,BH (cd:=dJ 4) rfl a4];simp[f53,aG,aF,f4]
 have a4:∃ t,ao (aq (dJ 4)) ⟨prog,Tw c (N+1),false,f53.ntmps,N+1⟩ t3 s3=.nx t s3/\ab t 0=.p lr 0/\ab t 3=.p re 0/\ab t 7=w:=by simp[dJ,aq,aj,f53,e0,e3,e7,e8,lw,hns]
 obtain⟨t4,a4,f0,f3,f7⟩:=a4;rw[show aj (dJ 3)=dJ 4 from rfl,dw (cd:=dJ 4) rfl a4];have K3:=K2.trans k3;have p3:=p2.keep k3 (by simp) (by simp);have B3:=hB.keep K3 (by simp) (by simp);have ra3:rd s3 re 0 7=some cells:=by rw[p3.rd,cQ,<-hc7,dD]
 obtain⟨s4,wf,g1,g2,g3⟩:=Ql (c:=c) hT0 hs B3 (hlr.keep K3 (by simp) (by simp)) (hmp.keep K3 hmn (by simp)) (Q2 hmn K3.next) (N:=N) (by omega);have lf:=(g2 [] (by simp)).len s4;rw[hfr]at lf;obtain⟨rF,hrF⟩:∃ r,s4.next=r:=⟨_,rfl⟩;obtain⟨s5,w1,w2,w3,w4⟩:=cO (s:=s4) (z:=[.i .i64 0]) (cells:=[.i .i64 fr]) rfl rfl;have F5:bA s5 [] rF [.i .i64 fr]:=by rw[<-hrF];exact⟨_,_,w2,w4,w4,by simp,by simp⟩
 rw[hrF]at w1;have zC3':bm prog 3=some [.i .i64 0]:=P3;have a5:∃ t,ao (aq (dJ 5)) ⟨prog,Tw c (N+1),false,f53.ntmps,N+1⟩ t4 s3=.nx t s5/\ab t 3=.p re 0/\ab t 7=w/\ab t 9=.p rF 0:=by simp[dJ,aq,aj,f53,f0,f3,f7,aH,ra3,g1,lf,aJ,zC3',hrF,db nS ri,w1]
 obtain⟨t5,a5,h3',h7,h9⟩:=a5;rw[show aj (dJ 4)=dJ 5 from rfl,dw (cd:=dJ 5) rfl a5];have K5:=(K3.trans g3).trans w3;have p5:=(p3.keep g3 (by simp) (by simp)).keep w3 (by simp) (by simp);have Q5:=(q3.keep g3 (by simp) (by simp)).keep w3 (by simp) (by simp);rcases UX (c:=c) (b:=b) (bv:=bv) (pre:=[.i .i64 7,.s nm,.i .i64 num,ps]) (post:=[av,lv]) hfr5 hT.2.2.1 (by omega) h7 h9 F5 h3' (by rw[show[AV.i .i64 7,.s nm,.i .i64 num,ps]++bv::[av,lv]=cells from hcl];exact p5) rfl (h2.keep K5 (by simp) (by simp)) (N:=N+1) (by omega) with ⟨t6,s6,a6,i7,i9,i3,k6,hfew⟩|⟨t6,s6,a6,i4,k6⟩
 case inr =>refine⟨s6,false,?_,K5.trans k6,fun h=>by cases h⟩;rw[show aj (dJ 5)=dJ 6 from rfl,BH (cd:=dJ 6) rfl a6];simp[f53,aG,aF,i4]
 rw[show aj (dJ 5)=dJ 6 from rfl,dw (cd:=dJ 6) rfl a6];have K6:=K5.trans k6;have ask:=Yy (c:=c) hT0 hs hc7 hfr5 (p5.keep k6 (by simp) (by simp)) (hB.keep K6 (by simp) (by simp)) (F5.keep k6 (by simp) (by simp));rw[hys]at ask;obtain⟨s7,j1,j2⟩:=YQ (c:=c) ask ⟨lo,g,Q5.keep k6 (by simp) (by simp)⟩ (by omega) (N:=N+1) (by omega);refine⟨s7,!(ys.any (wO (Ex.mk 7 nm num ps b a l) fr)),?_,K6.trans j2,fun h=>⟨rfl,hb0,hlam,by rw[hfr];exact hfew,by rw[hfr,hys];simpa using h⟩⟩;simp[dJ,aj,f53,i3,i7,i9,j1,aG,aF]
def bX(m:Nat):ah:=[126,108]++ja m
def dI(m:Nat):ah:=[126]++ja m
theorem MR(h:ja a=ja b):a=b:=AI (congrArg (fun l=>[126,112]++l) h)
theorem Ek(h:bX a=bX b):a=b:=MR (V1 h)
theorem Qi(h:dI a=dI b):a=b:=MR (V1 h)
theorem OU(m j:Nat):dI m≠bX j:=fun h=>by
 have h1:ja m=108::ja j:=by grind[dI,bX]
 rw[IB m]at h1;have:=(Hh m).2 108 (by grind);omega
section
open Classical
def bW(f:Nat->ah)(T:List ah):List ah:=T.filterMap fun s=>if h:∃ j,s=f j then some (dE h.choose) else none
theorem Fa(hf:∀ {a b},f a=f b->a=b):dE j∈bW f T↔f j∈T:=by
 unfold bW;rw[List.mem_filterMap];constructor
 ·rintro⟨s,hs,h⟩;split at h
  ·rename_i hh;have h1:=AI (Q9 h);rw[<-h1,<-hh.choose_spec];exact hs
  ·cases h
 ·have hh:∃ i,f j=f i:=⟨j,rfl⟩;grind
theorem GX:(bW f T).length<=T.length:=List.length_filterMap_le ..
def nM(U0:List ah)(n:Nat)(s:ah):Bool:=decide (s∈U0\/∃ j,1<=j/\j<=n/\s=bX j)
theorem LY{s:ah}:nM U0 n s=true↔s∈U0\/∃ j,1<=j/\j<=n/\s=bX j:=by simp[nM]
theorem Ms(U0:List ah)(h:n<j):nM U0 n (bX j)=decide (bX j∈U0):=by grind[nM,Ek]
theorem VD(U0:List ah)(n j:Nat):nM U0 n (dI j)=decide (dI j∈U0):=by grind[nM,OU]
theorem Nm(U0:List ah)(n:Nat):nM U0 (n+1)=fun x=>decide (x=bX (n+1))||nM U0 n x:=by grind[LY]
theorem WK(h:bX (n+1)∈U0):nM U0 (n+1)=nM U0 n:=by grind[Nm,Ms]
end
structure mK(s:St)(lr mn mu:Nat)(TL U0:List ah)(n:Nat)(ov:AV):Prop where
 ce:∃ al,s.ce lr=some ([.m mn,.m mu,ov,.i .i64 (n:Int)],lr,al)
 lt:lr<s.next/\mn<s.next/\mu<s.next
 ne:lr≠mn/\lr≠mu/\mn≠mu
 z:0<lr/\0<mn/\0<mu
 mT:cS s mn (jL fun x=>decide (x∈TL))
 mU:cS s mu (jL (nM U0 n))
 tab:mI s
theorem mK.keep{lr mn mu n:Nat}{TL U0:List ah}{ov:AV}{A B:List Nat}{s s':St}(h:mK s lr mn mu TL U0 n ov)(k:Kp A B s s')(h1:lr∉A)(h2:mn∉A)(h3:mu∉A)(h4:lr∉B)(h0:0∉A):mK s' lr mn mu TL U0 n ov:=by obtain⟨al,hc⟩:=h.ce;obtain⟨t,ht⟩:=h.tab;have hl:=h.lt;have hk:=k.next;exact⟨⟨al,k.ce hc hl.1 hl.1 h1 h4⟩,by omega,h.ne,h.z,h.mT.keep k hl.2.1 h2,h.mU.keep k hl.2.2 h3,⟨t,by rw[k.get 0 (by omega) h0];grind⟩⟩
theorem Tu{mu:Nat}(_:ov.cells=some [ov])(h:mK st lr mn mu TL U0 n ov)(hb:bD (bW bX U0) n<1000000)(hN:2000000<=N):
  ∃ st',(Tw c N).call 88 [.p lr 0] st=some (.s (bX (bD (bW bX U0) n)),st')/\mK st' lr mn mu TL U0 (bD (bW bX U0) n) ov/\Kp [lr,mu] [lr] st st':=by
 obtain⟨N,rfl⟩:∃ N',N=N'+1:=⟨N-1,by omega⟩;rw[dt rfl func88 rfl (Q1 rfl)];unfold aV;obtain⟨T,hT⟩:∃ T,bW bX U0=T:=⟨_,rfl⟩;have hTm:∀ j,dE j∈T↔bX j∈U0:=fun j=>by rw[<-hT];exact Fa Ek
 rw[hT]at hb|-;have hgt:=sW T n;simp[f88,bw];generalize hL:bf _ _ _ _=L;have lr':=fW hL 0 (bD T n-n) (fun i t s=>n+i<bD T n/\ab t 0=.p lr 0/\mK s lr mn mu TL U0 (n+i) ov/\Kp [lr,mu] [lr] st s) (fun _ _=>False) (fun t s=>ab t 2=.s (bX (bD T n))/\mK s lr mn mu TL U0 (bD T n) ov/\Kp [lr,mu] [lr] st s) (by omega)
  ⟨by omega,by simp,h,.refl _ _ _⟩
  (by
   rintro i t s hi ⟨i1,i2,iM,iK⟩;clear hL;obtain⟨al,hc⟩:=iM.ce;have lt:=iM.lt;have ne:=iM.ne;have iz:=iM.z;obtain⟨m,hm⟩:∃ m,n+i=m:=⟨_,rfl⟩;rw[hm]at iM hc i1;have e1:wr .i64 ((m:Int)+1)=((m+1:Nat):Int):=by rw[aZ (by omega) (by omega)];rfl
   have hw:=bP hc 3 [.i .i64 ((m+1:Nat):Int)] (by simp) (by simp);have K0:Kp [lr] [lr] s (s.ax lr [.m mn,.m mu,ov,.i .i64 ((m+1:Nat):Int)] lr):=.ax (by simp) (by simp);have hc1:=cj lr [.m mn,.m mu,ov,.i .i64 ((m+1:Nat):Int)] lr (st:=s);have hw':wt s lr 3 [.i .i64 ((m+1:Nat):Int)]=some (s.ax lr [.m mn,.m mu,ov,.i .i64 ((m+1:Nat):Int)] lr):=hw;obtain⟨s1,hs1⟩:∃ s1,s.ax lr [.m mn,.m mu,ov,.i .i64 ((m+1:Nat):Int)] lr=s1:=⟨_,rfl⟩;rw[hs1]at K0 hc1 hw';have T1:mI s1:=by obtain⟨ty,ht⟩:=iM.tab;exact⟨ty,by rw[K0.get 0 (by omega) (by simp;omega)];exact ht⟩
   have mT1:=iM.mT.keep K0 lt.2.1 (by simpa using ne.1.symm);have mU1:=iM.mU.keep K0 lt.2.2 (by simpa using ne.2.1.symm);have n1:=K0.next;have it:=FK (c:=c) (n:=N-1) T1 (m:=m+1) (by omega);rw[show N-1+1=N by omega]at it;have il:=Cn (m:=m+1) (by omega);have sa:=fun k=>HT (P:=prog) (ty:=9) (k:=k) (x:=[126,108]) (y:=ja (m+1)) (by simp;omega)
   have pn:[126,108]++ja (m+1)=bX (m+1):=rfl;rw[pn]at sa;have lk:=mU1.get gW (bX (m+1));rw[Ju,Ms U0 (Z8 m)]at lk;have rc0:rd s lr 3 1=some [.i .i64 (m:Int)]:=by rw[au hc];rfl
   have rc1:rd s1 lr 3 1=some [.i .i64 ((m+1:Nat):Int)]:=by rw[au hc1];rfl
   have rc2:rd s1 lr 1 1=some [.m mu]:=by rw[au hc1];rfl
   by_cases hx:m+1=bD T n
   ·right;have hnot:bX (m+1)∉U0:=fun hh=>AJ T n (by rw[<-hx];exact(hTm _).2 hh)
    obtain⟨s2,u1,u2,u3,u4⟩:=mU1.set gW (bX (m+1)) (.b true);rw[decide_eq_false hnot]at lk;rw[GG,<-Nm]at u2;have M2:mK s2 lr mn mu TL U0 (m+1) ov:=by obtain⟨ty,ht⟩:=T1;exact⟨⟨[lr],u3.ce hc1 (by omega) (by omega) (by simpa using ne.2.1) (by simp)⟩,by omega,ne,iz,mT1.keep u3 (by omega) (by simpa using ne.2.2),u2,⟨ty,by rw[u3.get 0 (by omega) (by simp;omega)];exact ht⟩⟩
    clear hw;simp at hw' rc1 it;simp[i2,rc0,rc1,rc2,e1,db nS ri,hw',it,sa,lk,u1];rw[hx]at M2|-;exact⟨_,_,⟨rfl,rfl⟩,by simp,M2,iK.trans ((K0.sub (by simp) (by simp)).trans (u3.sub (by simp) (by simp)))⟩
   ·left;have hin:=Gr T n (m+1) (by omega) (by omega);rw[hTm]at hin;rw[decide_eq_true hin]at lk;clear hw;simp at hw' rc1 it;simp[i2,rc0,rc1,rc2,e1,db nS ri,hw',it,sa,lk];exact⟨_,_,⟨rfl,rfl⟩,by omega,by simp[i2],⟨⟨_,by rw[<-V2,hm];exact hc1⟩,by omega,ne,iz,mT1,by rw[<-V2,hm,WK hin];exact mU1,T1⟩,iK.trans (K0.sub (by simp) (by simp))⟩)
  (by rintro t s ⟨i1,-⟩;omega)
 clear hL;rcases lr' with ⟨t1,s1,-,hT⟩|⟨t1,s1,rfl,h1,h2,h3⟩
 ·exact hT.elim
 ·refine⟨s1,?_,h2,h3⟩;simp[h1,aG,aF]
def kW(TL U0:List ah):Nat:=bD (bW dI (TL++U0)) 0
theorem NN(TL U0:List ah):dI (kW TL U0)∉TL/\dI (kW TL U0)∉U0:=by grind[AJ,kW,Fa,Qi]
theorem abp(TL U0:List ah):kW TL U0<=TL.length+U0.length+1:=by have h1:=(yC (bW dI (TL++U0)) _ 0 (tY _)).2.2.2;have h2:=tY (bW dI (TL++U0)) (n:=0);have h3:=GX (f:=dI) (T:=TL++U0);rw[Q3]at h3;have:rq (bW dI (TL++U0)) (bW dI (TL++U0)).length 0=kW TL U0:=rfl;omega
theorem XX{mu:Nat}(h:mK st lr mn mu TL U0 n ov)(hb:TL.length+U0.length<1000000)(hN:2000000<=N):
  ∃ st',(Tw c N).call 84 [.p lr 0] st=some (.s (dI (kW TL U0)),st')/\mK st' lr mn mu (TL++[dI (kW TL U0)]) U0 n ov/\Kp [mn] [] st st':=by
 obtain⟨N,rfl⟩:∃ N',N=N'+1:=⟨N-1,by omega⟩;rw[dt rfl func84 rfl (Q1 rfl)];unfold aV;have hle:=abp TL U0;have hgt:0<kW TL U0:=sW _ _;obtain⟨al,hc⟩:=h.ce;have rc0:rd st lr 0 1=some [.m mn]:=by rw[au hc];rfl
 have rc1:rd st lr 1 1=some [.m mu]:=by rw[au hc];rfl
 have lt:=h.lt;have ne:=h.ne;have iz:=h.z;simp[f84,bw];generalize hL:bf _ _ _ _=L;have lr':=fW hL 0 (kW TL U0) (fun i t s=>i<kW TL U0/\ab t 0=.p lr 0/\ab t 3=.i .i64 ((i+1:Nat):Int)/\s=st) (fun _ _=>False) (fun t s=>ab t 2=.s (dI (kW TL U0))/\mK s lr mn mu (TL++[dI (kW TL U0)]) U0 n ov/\Kp [mn] [] st s) (by omega)
  ⟨by omega,by simp,by simp,rfl⟩
  (by
   rintro i t s hi ⟨i1,i2,i3,rfl⟩;clear hL;have it:=FK (c:=c) (n:=N-1) h.tab (m:=i+1) (by omega);rw[show N-1+1=N by omega]at it;have il:=Cn (m:=i+1) (by omega);have sa:=fun k=>HT (P:=prog) (ty:=9) (k:=k) (x:=[126]) (y:=ja (i+1)) (by grind)
   have pn:[126]++ja (i+1)=dI (i+1):=rfl;rw[pn]at sa;have lk:=h.mT.get gW (dI (i+1));have lu:=h.mU.get gW (dI (i+1));rw[Ju]at lk lu;rw[VD]at lu;have e2:wr .i64 (((i+1:Nat):Int)+1)=((i+1+1:Nat):Int):=by rw[aZ (by omega) (by omega)];rfl
   by_cases hx:i+1=kW TL U0
   ·right;obtain⟨n1,n2⟩:=NN TL U0;rw[<-hx]at n1 n2;rw[decide_eq_false n1]at lk;rw[decide_eq_false n2]at lu;obtain⟨s2,u1,u2,u3,u4⟩:=h.mT.set gW (dI (i+1)) (.b true);have M2:mK s2 lr mn mu (TL++[dI (i+1)]) U0 n ov:=by
     obtain⟨ty,ht⟩:=h.tab;refine⟨⟨al,u3.ce hc lt.1 lt.1 (by simpa using ne.1) (by simp)⟩,by omega,ne,iz,?_,h.mU.keep u3 lt.2.2 (by simpa using ne.2.2.symm),⟨ty,by rw[u3.get 0 (by omega) (by simp;omega)];exact ht⟩⟩;rw[GG]at u2;have:(fun x=>decide (x∈TL++[dI (i+1)]))=fun x=>decide (x=dI (i+1))||decide (x∈TL):=by funext x;rw[Bool.eq_iff_iff];simp[or_comm]
     rw[this];exact u2
    simp at it;simp[i2,i3,rc0,rc1,it,sa,lk,lu,u1];rw[hx]at M2|-;exact⟨_,_,⟨rfl,rfl⟩,by simp,M2,u3⟩
   ·left;have hin:=Gr (bW dI (TL++U0)) 0 (i+1) (by omega) (by unfold kW at hi hx;omega);rw[Fa Qi,Q8]at hin;simp at it e2;by_cases h1:dI (i+1)∈TL
    ·rw[decide_eq_true h1]at lk;simp[i2,i3,rc0,it,sa,lk,e2];exact⟨_,_,⟨rfl,rfl⟩,by omega,by simp[i2],by simp,rfl⟩
    ·rw[decide_eq_false h1]at lk;rw[decide_eq_true (hin.resolve_left h1)]at lu;simp[i2,i3,rc0,rc1,it,sa,lk,lu,e2];exact⟨_,_,⟨rfl,rfl⟩,by omega,by simp[i2],by simp,rfl⟩)
  (by rintro t s ⟨i1,-⟩;omega)
 clear hL;rcases lr' with ⟨t1,s1,-,hT⟩|⟨t1,s1,rfl,h1,h2,h3⟩
 ·exact hT.elim
 ·refine⟨s1,?_,h2,h3⟩;simp[h1,aG,aF]
mutual
def _root_.Go.Ev.Ex.wt:Ex->Nat
 |.mk _ _ _ ps b a l=>(ba ps).length+(b.len+b.wt)+(a.len+a.wt)+l.kX
def _root_.Go.Ev.ae.wt:ae->Nat
 |.nil _=>0
 |.cons _ x l=>x.wt+l.wt
def _root_.Go.Ev.ae.kX:ae->Nat
 |.nil _=>0
 |.cons p x l=>(cD (p,x)).vs.length+x.wt+l.kX
end
noncomputable def fg:Code:=f20.body.getD .skip
structure fU(st s:St)(t:Tr AV)(mr tr rE rR rO:Nat)(T:List ah)(n:Nat)(sv:AV)(S:bL)(x:Ex)(oc:List AV):Prop where
 t0:ab t 0=.p mr 0
 t2:ab t 2=sv
 t4:ab t 4=.p rE 0
 t6:ab t 6=.p rR 0
 t7:ab t 7=.p rO 0
 ce:∃ al,s.ce rE=some (x.cells,rE,al)
 cr:∃ al,s.ce rR=some (iQ,rR,al)
 co:∃ al,s.ce rO=some (oc,rO,al)
 lo:st.next<=rE/\rE<rR/\rR<rO/\rO<s.next
 M:Mk s mr tr T n
 V:kP s mr tr sv S
 K:Kp [mr,tr] [mr] st s
 ml:mr<st.next/\tr<st.next
theorem GT(h:s.ce r=some (l,g,al)):s.get r=some (.ce l g):=(St.pR h).2.2.2
theorem fU.keep{n':Nat}{sv':AV}{S S':bL}{oc':List AV}(h:fU st s t mr tr rE rR rO T n sv S x oc)(k:Kp [mr,tr,rO] [mr,rO] s s')
  (h0:ab t' 0=.p mr 0) (h2:ab t' 2=sv') (h4:ab t' 4=.p rE 0) (h6:ab t' 6=.p rR 0) (h7:ab t' 7=.p rO 0) (hc:∃ al,s'.ce rO=some (oc',rO,al)) (hM:Mk s' mr tr T n') (hV:kP s' mr tr sv' S'):fU st s' t' mr tr rE rR rO T n' sv' S' x oc':=by
 obtain⟨l1,l2,l3,l4⟩:=h.lo;obtain⟨m1,m2⟩:=h.ml;obtain⟨a1,c1⟩:=h.ce;obtain⟨a2,c2⟩:=h.cr;have hn:=k.next;refine⟨h0,h2,h4,h6,h7,⟨a1,k.ce c1 (by omega) (by omega) (by simp;omega) (by simp;omega)⟩,⟨a2,k.ce c2 (by omega) (by omega) (by simp;omega) (by simp;omega)⟩,hc,⟨l1,l2,l3,by omega⟩,hM,hV,?_,h.ml⟩;refine⟨J1 h.K.next hn,fun r h1 h2=>(k.get r (Q2 h1 h.K.next) ?_).trans (h.K.get r h1 h2),fun g h1 h2=>(k.live g (Q2 h1 h.K.next) ?_).trans (h.K.live g h1 h2)⟩
 ·simp at h2|-;omega
 ·simp at h2|-;omega
theorem kP.DX{S:bL}{B:List Nat}(h:kP s mr tr sv S)(k:Kp [mr,tr,rO] B s s')(hc:s.ce rO=some (l,g,al)):kP s' mr tr sv S:=by
 rcases h with h|⟨r,h1,⟨es,q,h2,h2'⟩,h3,h4,h5,h6⟩
 ·exact .inl h
 ·refine .inr ⟨r,h1,⟨es,q,?_,h2'⟩,Q2 h3 k.next,h4,h5,h6⟩;rw[k.get r h3 ?_]
  ·exact h2
  ·have:r≠rO:=by rintro rfl;rw[GT hc]at h2;cases h2
   simp[h4,h5,this]
theorem RY{S:bL}(k:Int)(nm:ah)(num:Int)(ps:AV)(b a l:ae)(hM:Mk st mr tr T n)(hS:kP st mr tr sv S):
  ∃ t s rE rR rO,ao fg ⟨prog,Tw c N,false,f20.ntmps,N⟩ (tmpsOf [.p mr 0,.ag (Ex.mk k nm num ps b a l).cells,sv] 0 .lf) st=bT (ao (aq (aj (aj fg))) ⟨prog,Tw c N,false,f20.ntmps,N⟩ t s) (ao (aj (aj (aj fg))) ⟨prog,Tw c N,false,f20.ntmps,N⟩)/\
   fU st s t mr tr rE rR rO T n sv S (.mk k nm num ps b a l) [.i .i64 k,.s nm,.i .i64 num,.sn,.sn,.sn,.sn]:=by
 have c1:=cz (st:=st) (Ex.mk k nm num ps b a l).cells;have k1:=Kp.aw (st:=st) [] [] (Ex.mk k nm num ps b a l).cells;obtain⟨s1,hs1⟩:∃ s,st.aw (Ex.mk k nm num ps b a l).cells=s:=⟨_,rfl⟩;have n1:s1.next=st.next+1:=by rw[<-hs1];rfl
 rw[hs1]at c1 k1;have c2:=cz (st:=s1) iQ;have k2:=Kp.aw (st:=s1) [] [] iQ;obtain⟨s2,hs2⟩:∃ s,s1.aw iQ=s:=⟨_,rfl⟩;have n2:s2.next=s1.next+1:=by rw[<-hs2];rfl
 rw[hs2]at c2 k2;obtain⟨s3,u1,u2,u3,u4⟩:=cO (s:=s2) (z:=iQ) (cells:=[.i .i64 k,.s nm,.i .i64 num,.sn,.sn,.sn,.sn]) rfl rfl;have e2:=iv (k2.ce c1 (by omega) (by omega) (by simp) (by simp));have r2:rd s2 st.next 2 1=some [.i .i64 num]:=by rw[au (k2.ce c1 (by omega) (by omega) (by simp) (by simp))];rfl
 have r0:=e2.kd;have r1:=e2.nm;have bo:=fun(t:Tr AV) (h1:ai t (.tmp 25)=.i .i64 k) (h2:ai t (.tmp 27)=.s nm) (h3:ai t (.tmp 29)=.i .i64 num)=>aa0 (S:=Tw c N) (st:=s2) h1 h2 h3
 have cl:(AV.ag (Ex.mk k nm num ps b a l).cells).cells=some (Ex.mk k nm num ps b a l).cells:=j9 _;generalize hcl:(Ex.mk k nm num ps b a l).cells=cells at *;rw[show ao fg ⟨prog,Tw c N,false,f20.ntmps,N⟩ (tmpsOf [.p mr 0,.ag cells,sv] 0 .lf) st=bT (ao (aq fg) ⟨prog,Tw c N,false,f20.ntmps,N⟩ (tmpsOf [.p mr 0,.ag cells,sv] 0 .lf) st) (fun t s=>bT (ao (aq (aj fg)) ⟨prog,Tw c N,false,f20.ntmps,N⟩ t s)
  (fun t s=>bT (ao (aq (aj (aj fg))) ⟨prog,Tw c N,false,f20.ntmps,N⟩ t s) (ao (aj (aj (aj fg))) ⟨prog,Tw c N,false,f20.ntmps,N⟩))) from rfl]
 have a0:∃ t,ao (aq fg) ⟨prog,Tw c N,false,f20.ntmps,N⟩ (tmpsOf [.p mr 0,.ag cells,sv] 0 .lf) st=.nx t s2/\ab t 0=.p mr 0/\ab t 2=sv/\ab t 4=.p st.next 0/\ab t 6=.p s1.next 0:=by simp[fg,aq,f20,aJ,sQ,hs1,hs2]
 obtain⟨t1,a0,b0,b2,b4,b6⟩:=a0;have a1:∃ t,ao (aq (aj fg)) ⟨prog,Tw c N,false,f20.ntmps,N⟩ t1 s2=.nx t s3/\ab t 0=.p mr 0/\ab t 2=sv/\ab t 4=.p st.next 0/\ab t 6=.p s1.next 0/\ab t 7=.p s2.next 0:=by simp[fg,aq,aj,f20,b0,b2,b4,b6,r0,r1,r2,bo,aJ,sQ,aI cI aH,u1]
 obtain⟨t2,a1,d0,d2,d4,d6,d7⟩:=a1;have c1':=(k2.trans u3).ce c1 (by omega) (by omega) (by simp) (by simp);have kk:Kp [] [] st s3:=(k1.trans k2).trans u3;refine⟨t2,s3,st.next,s1.next,s2.next,?_,⟨d0,d2,d4,d6,d7,⟨[st.next],by rw[hcl];exact c1'⟩,⟨_,u3.ce c2 (by omega) (by omega) (by simp) (by simp)⟩,⟨_,u2⟩,⟨Q7 _,by omega,by omega,u4⟩,hM.keep kk (by simp) (by simp) (by simp) (by simp),hS.keep kk (by simp),BG kk,hM.mrl,hM.trl⟩⟩;rw[a0,dK,a1,dK]
theorem CF(h:jY v):de v ((ba v).map .s):=h.sl.1
theorem S6{S:bL}{b a l:ae}(h:fU st s t mr tr rE rR rO T n sv S (.mk 1 nm num ps b a l) [.i .i64 1,.s nm,.i .i64 num,.sn,.sn,.sn,.sn]):
  ∃ t' s',ao (aq (aj (aj fg))) ⟨prog,Tw c N,false,f20.ntmps,N⟩ t s=.rt t' s'/\ab t' 6=.p rR 0/\(∃ al,s'.ce rR=some ([.i .i64 1,.s ((S nm).getD nm),.i .i64 num,.sn,.sn,.sn,.sn],rR,al))/\Kp [mr,tr] [mr] st s'/\Mk s' mr tr T n:=by
 obtain⟨l1,l2,l3,l4⟩:=h.lo;obtain⟨m1,m2⟩:=h.ml;obtain⟨al,ce⟩:=h.ce;obtain⟨al2,cr⟩:=h.cr;obtain⟨al3,co⟩:=h.co;have r0:=(iv ce).kd;have r1:=(iv ce).nm;have fin:∀ (s1:St) (y:ah),(∃ al,s1.ce rO=some ([.i .i64 1,.s y,.i .i64 num,.sn,.sn,.sn,.sn],rO,al))->Kp [rO] [rO] s s1->∃ s',wt s1 rR 0 [.i .i64 1,.s y,.i .i64 num,.sn,.sn,.sn,.sn]=some s'/\(∃ al,s'.ce rR=some ([.i .i64 1,.s y,.i .i64 num,.sn,.sn,.sn,.sn],rR,al))/\Kp [mr,tr] [mr] st s'/\Mk s' mr tr T n:=by intro s1 y hy k1;have cr1:=k1.ce cr (by omega) (by omega) (by simp;omega) (by simp;omega);have hw:=bP cr1 0 [.i .i64 1,.s y,.i .i64 num,.sn,.sn,.sn,.sn] (by simp[iQ]) (by simp);rw[gZ,jG (by simp[iQ])]at hw;have k2:Kp [rR] [rR] s1 (s1.ax rR [.i .i64 1,.s y,.i .i64 num,.sn,.sn,.sn,.sn] rR):=.ax (by simp) (by simp);refine⟨_,hw,⟨_,cj _ _ _⟩,?_,(h.M.keep k1 (by simp;omega) (by simp;omega) (by simp;omega) (by simp;omega)).keep k2 (by simp;omega) (by simp;omega) (by simp;omega) (by simp;omega)⟩;exact dz (dz h.K k1 (by simp;omega) (by simp;omega)) k2 (by simp;omega) (by simp;omega)
 have lk:lookup prog 86 s sv (.s nm) true=some (.tu [((S nm).map AV.s).getD (.s []),.b (S nm).isSome]):=by
  rcases h.V with ⟨rfl,h1⟩|⟨r,rfl,h1,-⟩
  ·rw[TZ yw,h1];rfl
  ·rw[h1.uu yw];cases S nm<;>rfl
 cases hS:S nm with
 |none =>
  rw[hS]at lk;simp at lk;obtain⟨s',f1,f2,f3,f4⟩:=fin s nm ⟨_,co⟩ (.refl _ _ _);have ro:rd s rO 0 7=some [.i .i64 1,.s nm,.i .i64 num,.sn,.sn,.sn,.sn]:=by rw[au co];rfl
  have key:∃ t',ao (aq (aj (aj fg))) ⟨prog,Tw c N,false,f20.ntmps,N⟩ t s=.rt t' s'/\ab t' 6=.p rR 0:=by simp[fg,aq,aj,f20,h.t2,h.t4,h.t6,h.t7,r0,r1,lk,aH,ro,aI cI aH,f1]
  obtain⟨t',k1,k2⟩:=key;exact⟨t',s',k1,k2,f2,f3,f4⟩
 |some y =>
  rw[hS]at lk;simp at lk;have hw:=bP co 1 [.s y] (by simp) (by simp);simp at hw;have co1:(s.ax rO [.i .i64 1,.s y,.i .i64 num,.sn,.sn,.sn,.sn] rO).ce rO=some ([.i .i64 1,.s y,.i .i64 num,.sn,.sn,.sn,.sn],rO,[rO]):=cj _ _ _;have k1:Kp [rO] [rO] s (s.ax rO [.i .i64 1,.s y,.i .i64 num,.sn,.sn,.sn,.sn] rO):=.ax (by simp) (by simp);obtain⟨s1,hs1⟩:∃ s1,s.ax rO [.i .i64 1,.s y,.i .i64 num,.sn,.sn,.sn,.sn] rO=s1:=⟨_,rfl⟩;rw[hs1]at k1 hw co1;obtain⟨s',f1,f2,f3,f4⟩:=fin s1 y ⟨_,co1⟩ k1;have ro:rd s1 rO 0 7=some [.i .i64 1,.s y,.i .i64 num,.sn,.sn,.sn,.sn]:=by rw[au co1];rfl
  have key:∃ t',ao (aq (aj (aj fg))) ⟨prog,Tw c N,false,f20.ntmps,N⟩ t s=.rt t' s'/\ab t' 6=.p rR 0:=by simp[fg,aq,aj,f20,h.t2,h.t4,h.t6,h.t7,r0,r1,lk,db jT oO,hw,aH,ro,aI cI aH,f1]
  obtain⟨t',k1,k2⟩:=key;exact⟨t',s',k1,k2,f2,f3,f4⟩
theorem abS{S:bL}{k:Int}(hk:k≠1){b a l:ae}(h:fU st s t mr tr rE rR rO T n sv S (.mk k nm num ps b a l) oc):
  ∃ t',ao (aq (aj (aj fg))) ⟨prog,Tw c N,false,f20.ntmps,N⟩ t s=.nx t' s/\fU st s t' mr tr rE rR rO T n sv S (.mk k nm num ps b a l) oc:=by
 obtain⟨al,ce⟩:=h.ce;have r0:=(iv ce).kd;have key:∃ t',ao (aq (aj (aj fg))) ⟨prog,Tw c N,false,f20.ntmps,N⟩ t s=.nx t' s/\ab t' 0=.p mr 0/\ab t' 2=sv/\ab t' 4=.p rE 0/\ab t' 6=.p rR 0/\ab t' 7=.p rO 0:=by simp[fg,aq,aj,f20,h.t0,h.t2,h.t4,h.t6,h.t7,r0,hk]
 obtain⟨t',k1,k2,k3,k4,k5,k6⟩:=key;exact⟨t',k1,k2,k3,k4,k5,k6,h.ce,h.cr,h.co,h.lo,h.M,h.V,h.K,h.ml⟩
