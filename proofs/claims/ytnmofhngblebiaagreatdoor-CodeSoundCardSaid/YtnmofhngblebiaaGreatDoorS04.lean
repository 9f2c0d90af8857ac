/- A part of the proof. -/
import Derived.Test.YtnmofhngblebiaaGreatDoorS03
open Option renaming some->So,none->No
open Bool renaming true->Tt,false->Ff
open Nat renaming le_refl->Q0,lt_or_ge->Q1,le_of_lt->Q3,lt_trichotomy->J4,le_trans->J5,lt_of_lt_of_le->J6,ble_eq_true_of_le->Z5,blt_eq->Z8,ble_eq->Z9,zero_add->V0,eq_of_beq_eq_true->V1
open Array renaming getElem?_eq_some_iff->Q2,mem_toList_iff->Q6,getElem?_toList->Q7,getElem?_eq_getElem->Z4,mem_push->Z7,mem_of_getElem?->K8
open Go.Steps renaming one->Q4
open Ne renaming symm->Q5
open List renaming mem_cons->Q8,mem_toArray->J1,mem_map->J3,mem_cons_self->J8,nodup_cons->J9,mem_cons_of_mem->Z0,getElem?_toArray->V2
open List.cons renaming inj->Q9
open Bool renaming and_eq_true->Z3
open Option renaming map_some->Z6
noncomputable section
namespace Go.Ev
variable {A al bs:List Nat}{D Pd:Nat->Prop}{E E':Env}{H H0:Array Obj}{L:Out}{P:Program}{R:List Rec}{S:Self}{a c:Operand}{af:Array Edge}{b:Frame}{d:Option Tmp}{e ty y0:TypeId}{ex:Tmp->Prop}{f:FuncId}{fl:List (Nat×Nat)}{g g1 g2 i j n n0 nt p q r r' r2 y z:Nat}{k:List Item}{ks:List Frame}{l l1 l2:List AV}{m:kW}{mops ops pops:Array Oper}{o o':Oper}{op:BinOp}{pos:String}{st st':St}{t t':Tr AV}{v:AV}{w:World}{x:Ctx}{xb:Option (Nat×Obj)}{α:Type}{β ν σ τ:Nat->Nat}{ζ:Nat->Value}
theorem Ir(o:Oper):kind o.op<=3:=by unfold kind;grind
theorem D8(hk:kind o.op=2)(he:cC P S t st o=So (v,st')):∃l,st'=st.aj l:=by
 unfold cC at he;cases hop:o.op<;>rw[hop]at hk he<;>first|(simp only[kind]at hk;omega)|skip
 case alloc e=>
  have he:lh st (bt P e)=So (v,st'):=he;cases hz:bt P e with
  |none=>rw[hz]at he;cases he
  |some l=>rw[hz]at he;cases he;grind
 case box e x=>
  have he:lh st (ah t x).cells=So (v,st'):=he;cases hz:(ah t x).cells with
  |none=>rw[hz]at he;cases he
  |some l=>rw[hz]at he;cases he;grind
 case buildSlice ty len parts=>
  have he:oT ty len parts P S t st=So (v,st'):=he;unfold oT at he;split at he
  ·grind
  ·rename_i e hel;cases hz:bt P e with
   |none=>grind
   |some z=>
    rw[hz]at he;have⟨hle,he⟩:=dm he;cases hf:fill (nV (aq P e)) (rep len z) (eB t parts.toList)with
    |none=>rw[hf]at he;cases he
    |some l'=>rw[hf]at he;cases he;grind
 case call c=>
  have⟨callee,az,ts⟩:=c;cases callee<;>first|(simp[kind]at hk)|skip
  rename_i bb;cases bb<;>simp[kind]at hk
theorem Jv(h:dE nt t d v=So t')(x:Tmp):ab t' x=if d=So x then v else ab t x:=by
 cases d with
 |none=>cases h;simp
 |some d=>grind[dE,dm,AV.seen_eq,ab,Tr.cW]
theorem Jw{d:Tmp}(h:dE nt t (So d) v=So t'):d<nt:=by grind[dE,dm,Z8]
def ji(P:Program)(S:Self)(nt:Nat)(ops:Array Oper)(R:List Rec):Prop:=∀i o,ops[i]? = So o->zN P S nt ops o (recAt R i) (recAt R (i+1))
def kF(ops:Array Oper)(i:Nat):Prop:=∃o,ops[i]? = So o/\kind o.op=3
def dF(ops:Array Oper)(R:List Rec)(i:Nat):Prop:=∃o,ops[i]? = So o/\kind o.op=2/\(recAt R i).w=Tt
def rowAt(R:List Rec)(i:Nat):Nat:=(recAt R i).st.next
theorem QL(hR:ji P S nt ops R)(ho:ops[i]? = So o)(hk:¬kF ops i)(hk4:kind o.op<=3):
  (¬dF ops R i/\(recAt R (i+1)).st=(recAt R i).st)\/(dF ops R i/\∃l,(recAt R (i+1)).st=(recAt R i).st.aj l):=by
 obtain⟨h1,h2,h3,h4⟩:=hR i o ho;cases hw:(recAt R i).w with
 |false=>left;refine⟨λ⟨_,_,_,hw'⟩=>?_,(h3 hw).2⟩;grind
 |true=>
  have he:=h4 hw;have na:kind o.op≠2->¬dF ops R i:=λhne ⟨o',ho',hk',_⟩=>by grind
  rcases Q1 (kind o.op) 2 with hlt|hge
  ·left;rcases Q1 (kind o.op) 1 with h0|h1
   ·obtain⟨f,hf⟩:=OI (o:=o) (by omega);rw[hf]at he;exact⟨na (by omega),(ke he).2⟩
   ·have:=OJ (by omega) (Sub.refl _) he;grind
  ·right;have:kind o.op=2:=by
    rcases Q1 (kind o.op) 3 with h|h
    ·omega
    ·exact absurd ⟨o,ho,by omega⟩ hk
   exact⟨⟨o,ho,this,hw⟩,D8 this he⟩
theorem abx(hS:fC S)(hR:ji P S nt ops R)(hi:i<ops.size):(recAt R i).st.next<=(recAt R (i+1)).st.next:=by
 have ho:ops[i]? = So ops[i]:=by grind
 have⟨h1,h2,h3,h4⟩:=hR i _ ho;cases hw:(recAt R i).w with
 |false=>grind
 |true=>exact Kw hS _ _ (h4 hw)
theorem nW(hS:fC S)(hR:ji P S nt ops R)(hij:i<=j)(hj:j<=ops.size):(recAt R i).st.next<=(recAt R j).st.next:=by
 induction j with
 |zero=>grind
 |succ j ih=>grind[abx]
theorem xf(hS:fC S)(hR:ji P S nt ops R)(ha:dF ops R i)(hij:i<j)(hj:j<=ops.size):rowAt R i<(recAt R j).st.next:=by have⟨o,ho,hk,hw⟩:=ha;have⟨h1,h2,h3,h4⟩:=hR i o ho;have⟨l,hl⟩:=D8 hk (h4 hw);have:=nW hS hR (i:=i+1) (by omega) hj;rw[hl]at this;have e:((recAt R i).st.aj l).next=(recAt R i).st.next+1:=rfl;unfold rowAt;omega
theorem Rk(hS:fC S)(hR:ji P S nt ops R)(ha:dF ops R i)(hb:dF ops R j)(h:rowAt R i=rowAt R j):i=j:=by
 have lt:∀{i},dF ops R i->i<ops.size:=λ⟨o,ho,_⟩=>(Q2.1 ho).1
 rcases J4 i j with hij|hij|hij
 ·have:=xf hS hR ha hij (Q3 (lt hb));unfold rowAt at*;omega
 ·grind
 ·have:=xf hS hR hb hij (Q3 (lt ha));unfold rowAt at*;omega
theorem Bv(hS:fC S)(hR:ji P S nt ops R):∀(m:Nat),p<=m->m<=ops.size->(∀i,p<=i->i<m->¬kF ops i)->
  (∀r,(∀i,p<=i->i<m->dF ops R i->r≠rowAt R i)->(recAt R m).st.get r=(recAt R p).st.get r/\(recAt R m).st.live.get r=(recAt R p).st.live.get r)/\
  (∀i,p<=i->i<m->dF ops R i->∀l,(recAt R (i+1)).st=(recAt R i).st.aj l->(recAt R m).st.get (rowAt R i)=So (.ce l (rowAt R i))/\(recAt R m).st.live.get (rowAt R i)=So [rowAt R i]):=by
 intro m;induction m with
 |zero=>grind
 |succ m ih=>
  intro hp hm hno;rcases Q1 p (m+1)with hlt|hge
  ·have⟨ih1,ih2⟩:=ih (by omega) (by omega) (λi h1 h2=>hno i h1 (by omega));have ho:ops[m]? = So ops[m]:=by grind
   rcases QL hR ho (hno m (by omega) (by omega)) (Ir _)with ⟨hna,hst⟩|⟨ha,l,hst⟩
   ·grind
   ·have hget:∀r,(recAt R (m+1)).st.get r=if r=rowAt R m then So (.ce l (rowAt R m)) else(recAt R m).st.get r:=by
     intro r;rw[hst,St.pU];rfl
    have hlive:∀g,(recAt R (m+1)).st.live.get g=if g=rowAt R m then So [rowAt R m] else(recAt R m).st.live.get g:=by intro g;rw[hst];simp[St.aj,Tr.cW];rfl
    refine⟨λr hr=>?_,λi h1 h2 hai l' hl'=>?_⟩
    ·grind
    ·by_cases e:i=m
     ·subst e;rw[hget,hlive,if_pos rfl,if_pos rfl];rw[hst]at hl';have:=St.pU (recAt R i).st l (recAt R i).st.next;rw[hl',St.pU,if_pos rfl,if_pos rfl]at this;cases this;exact⟨rfl,rfl⟩
     ·have hlt':rowAt R i<rowAt R m:=xf hS hR hai (by omega) (by omega);have hne:rowAt R i≠rowAt R m:=by omega
      rw[hget,hlive,if_neg hne,if_neg hne];exact ih2 i h1 (by omega) hai l' hl'
  grind
theorem Bw(hR:ji P S nt ops R){x:Tmp}:∀(j:Nat),j<=ops.size->(∀i o,i<j->ops[i]? = So o->o.dst≠So x)->ab (recAt R j).t x=ab (recAt R 0).t x:=by
 intro j;induction j with
 |zero=>grind
 |succ j ih=>
  intro hj hno;have ho:ops[j]? = So ops[j]:=by grind
  have⟨h1,h2,h3,h4⟩:=hR j _ ho;grind[Jv]
theorem Jy(hR:ji P S nt ops R){x:Tmp}(ho:ops[i]? = So o)(hd:o.dst=So x):∀(j:Nat),i<j->j<=ops.size->(∀i' o',i<i'->i'<j->ops[i']? = So o'->o'.dst≠So x)->
  ab (recAt R j).t x=(recAt R i).v:=by
 intro j;induction j with
 |zero=>grind
 |succ j ih=>
  intro hij hj hno;have hoj:ops[j]? = So ops[j]:=by grind
  have⟨h1,h2,h3,h4⟩:=hR j _ hoj;grind[Jv]
structure TE(ops:Array Oper)(D:Nat->Prop)(p q:Nat):Prop where
 pq:p<=q
 qn:q<=ops.size
 before:∀i o,i<p->ops[i]? = So o->2<=kind o.op->D i
 noK:∀i,p<=i->i<q->¬kF ops i
 atq:q=ops.size\/kF ops q
 after:∀i,q<=i->kF ops i->¬D i
 start:p=0\/∃k,p=k+1/\kF ops k
structure Inv(ops:Array Oper)(R:List Rec)(nt:Nat)(E:Env)(H0:Array Obj)(ex:Tmp->Prop)(xb:Option (Nat×Obj))(D Pd:Nat->Prop)(p q:Nat)(a:Act)(H:Array Obj)(E':Env)(X:St)(β ν:Nat->Nat)(ζ:Nat->Value):Prop where
 st:Step E E' H0 H (recAt R 0).st X
 sz:a.tmps.size=nt
 slotV:∀x i o,D i->ops[i]? = So o->o.dst=So x->¬(dF ops R i/\Pd i)->Conc E' (recAt R i).v (a.tmps.getD x undef)
 slotP:∀x i o,D i->ops[i]? = So o->o.dst=So x->dF ops R i->Pd i->a.tmps.getD x undef=ζ i
 slot0:∀x,¬ex x->(∀i o,D i->ops[i]? = So o->o.dst≠So x)->Conc E' (ab (recAt R 0).t x) (a.tmps.getD x undef)
 gap:TE ops D p q
 next:X.next=(recAt R q).st.next
 freshP:∀r,(recAt R p).st.next<=r->(recAt R p).st.get r=No/\(recAt R p).st.live.get r=No
 lows:∀g al,(recAt R p).st.live.get g=So al->∀x∈al,x<(recAt R p).st.next
 undone:∀i,p<=i->i<q->dF ops R i->¬(D i/\¬Pd i)->X.get (rowAt R i)=No/\X.live.get (rowAt R i)=No/\E'.phi (rowAt R i)=No
 rest:∀r,(∀i,p<=i->i<q->dF ops R i->¬(D i/\¬Pd i)->r≠rowAt R i)->X.get r=(recAt R q).st.get r/\X.live.get r=(recAt R q).st.live.get r
 pend:∀i,D i->dF ops R i->Pd i->H0.size<=β i/\β i<H.size/\Un E' X (β i)/\(∀l,(recAt R (i+1)).st=(recAt R i).st.aj l->∀g,gE E' H ⟨β i,0,ν i⟩ (.ce l g))/\
  ∀F,F.phi (rowAt R i)=So ⟨β i,0,ν i⟩->Conc F (recAt R i).v (ζ i)
 inj:∀i i',D i->dF ops R i->Pd i->D i'->dF ops R i'->Pd i'->β i=β i'->i=i'
 xtra:∀b ob,xb=So (b,ob)->H0.size<=b/\H[b]? = So ob/\Un E' X b/\∀i,D i->dF ops R i->Pd i->β i≠b
section
variable {a:Act}{X:St}
theorem Inv.congr{Pd':Nat->Prop}(h:Inv ops R nt E H0 ex xb D Pd p q a H E' X β ν ζ)(hp:∀i,D i->dF ops R i->(Pd i↔Pd' i)):Inv ops R nt E H0 ex xb D Pd' p q a H E' X β ν ζ:=by
 have und:∀i,dF ops R i->(¬(D i/\¬Pd' i)↔¬(D i/\¬Pd i)):=λi ha=>by grind
 refine⟨h.st,h.sz,?_,?_,h.slot0,h.gap,h.next,h.freshP,h.lows,?_,?_,?_,?_,λb ob hb=>⟨(h.xtra b ob hb).1,(h.xtra b ob hb).2.1,(h.xtra b ob hb).2.2.1,λi hd ha hq=>(h.xtra b ob hb).2.2.2 i hd ha ((hp i hd ha).2 hq)⟩⟩
 ·intro x i o hd ho hx hn;exact h.slotV x i o hd ho hx λ⟨ha,hq⟩=>hn ⟨ha,(hp i hd ha).1 hq⟩
 ·intro x i o hd ho hx ha hq;exact h.slotP x i o hd ho hx ha ((hp i hd ha).2 hq)
 ·intro i h1 h2 ha hn;exact h.undone i h1 h2 ha ((und i ha).1 hn)
 ·intro r hr;exact h.rest r λi h1 h2 ha hn=>hr i h1 h2 ha ((und i ha).2 hn)
 ·intro i hd ha hq;exact h.pend i hd ha ((hp i hd ha).2 hq)
 ·intro i i' hd ha hq hd' ha' hq';exact h.inj i i' hd ha ((hp i hd ha).2 hq) hd' ha' ((hp i' hd' ha').2 hq')
theorem dF.lt(h:dF ops R i):i<ops.size:=by have⟨o,ho,_⟩:=h;grind
theorem Inv.BB(hr0:Rel E H0 (recAt R 0).st)(hS:fC S)(hR:ji P S nt ops R)(h:Inv ops R nt E H0 ex xb D Pd p q a H E' X β ν ζ){i:Nat}(hpi:p<=i)(hiq:i<q)(hA:dF ops R i)(hD:D i)(hP:Pd i):
  ∃E'' X',Inv ops R nt E H0 ex xb D (λx=>Pd x/\x≠i) p q a H E'' X' β ν ζ/\E'.le E'':=by
 have⟨k1,k2,k3,k4,k5⟩:=h.pend i hD hA hP;have⟨u1,u2,u3⟩:=h.undone i hpi hiq hA (λ⟨_,hn⟩=>hn hP);have⟨o,ho,hk,hw⟩:=id hA;have⟨l,hl⟩:=D8 hk ((hR i o ho).2.2.2 hw)
 let r:=rowAt R i
 let X':St:=⟨X.rows.set r (So (.ce l r)),X.live.set r (So [r]),X.next⟩
 have hget:∀x,X'.get x=if x=r then So (.ce l r) else X.get x:=λx=>by simp[X',St.get,Tr.cW]
 have hlive:∀g,X'.live.get g=if g=r then So [r] else X.live.get g:=λg=>by simp[X',Tr.cW]
 have⟨g1,g2⟩:=Bv hS hR q h.gap.pq h.gap.qn h.gap.noK;have hrq:r<(recAt R q).st.next:=xf hS hR hA hiq h.gap.qn;have hpr:(recAt R p).st.next<=r:=nW hS hR hpi (Q3 hA.lt);have hmem:∀g al,X.live.get g=So al->r∉al:=by
  intro g al hg hm;by_cases hex:∃i',p<=i'/\i'<q/\dF ops R i'/\g=rowAt R i'
  ·obtain⟨i',h1,h2,h3,rfl⟩:=hex;by_cases hun:D i'/\¬Pd i'
   ·have:=(h.rest (rowAt R i') (λi'' e1 e2 e3 e4 e5=>by
     grind[Rk])).2
    have⟨o',ho',hk',hw'⟩:=id h3;have⟨l',hl'⟩:=D8 hk' ((hR i' o' ho').2.2.2 hw');grind
   ·rw[(h.undone i' h1 h2 h3 hun).2.1]at hg;grind
  ·have hn:∀i',p<=i'->i'<q->dF ops R i'->g≠rowAt R i':=λi' h1 h2 h3 e=>hex ⟨i',h1,h2,h3,e⟩
   rw[(h.rest g λi' h1 h2 h3 _=>hn i' h1 h2 h3).2,(g1 g hn).2]at hg;have:=h.lows g al hg r hm;omega
 have hst:=Step.BB h.st u3 u1 (by rw[h.next];grind) hmem u2 hget rfl (λg=>by grind) (λl' g e=>by grind) k1 k3 (k4 l hl r);have hle:E'.le (E'.bind r ⟨β i,0,ν i⟩):=Env.mS u3;have hun:∀b,b≠β i->Un E' X b->Un (E'.bind r ⟨β i,0,ν i⟩) X' b:=by
  intro b hb hno;refine⟨?_,hno.2⟩;rintro⟨x,y,C,hx,hC,hCb⟩;by_cases e:x=r
  ·subst e;rw[Env.df]at hC;cases hC;exact hb hCb.symm
  ·rw[Env.cG e]at hC;refine hno.1 ⟨x,y,C,?_,hC,hCb⟩;unfold St.alive at hx|-;rw[hget,if_neg e]at hx;cases hg:X.get x with
   |none=>rw[hg]at hx;exact hx
   |some w=>
    rw[hg]at hx;cases w with
    |ce lx gx=>
     simp only at hx|-;rw[hlive]at hx;by_cases eg:gx=r
     ·rw[if_pos eg]at hx;have:mem x [r]=false:=by
       cases hm:mem x [r] with
       |false=>rfl
       |true=>rw[mem_iff]at hm;simp at hm;exact absurd hm e
      simp[this]at hx
     ·rw[if_neg eg]at hx;exact hx
    |mp=>exact hx
    |si=>exact hx
    |mi=>exact hx
    |lp=>exact hx
    |mu=>exact hx
    |ch=>exact hx
    |ty=>exact hx
 refine⟨_,X',⟨hst,h.sz,?_,?_,?_,h.gap,h.next,h.freshP,h.lows,?_,?_,?_,?_,λb ob hb=>⟨(h.xtra b ob hb).1,(h.xtra b ob hb).2.1,hun b (λe=>(h.xtra b ob hb).2.2.2 i hD hA hP e.symm) (h.xtra b ob hb).2.2.1,λi' hd ha hq=>(h.xtra b ob hb).2.2.2 i' hd ha hq.1⟩⟩,hle⟩
 ·intro x i' o' hd ho' hx hn;by_cases e:i'=i
  ·subst e;rw[h.slotP x i' o' hd ho' hx hA hP];exact k5 _ Env.df
  ·exact(h.slotV x i' o' hd ho' hx λ⟨ha,hq⟩=>hn ⟨ha,hq,e⟩).mono hle
 ·intro x i' o' hd ho' hx ha hq;exact h.slotP x i' o' hd ho' hx ha hq.1
 ·intro x hxe hx;exact(h.slot0 x hxe hx).mono hle
 ·intro i' h1 h2 ha hn;have hne:i'≠i:=by rintro rfl;exact hn ⟨hD,λ⟨_,e⟩=>e rfl⟩
  have hrne:rowAt R i'≠r:=λe=>hne (Rk hS hR ha hA e)
  have⟨v1,v2,v3⟩:=h.undone i' h1 h2 ha (λ⟨hd,hq⟩=>hn ⟨hd,λ⟨hq',_⟩=>hq hq'⟩);exact⟨by rw[hget,if_neg hrne];exact v1,by rw[hlive,if_neg hrne];exact v2,by rw[Env.cG hrne];exact v3⟩
 ·intro x hx;by_cases e:x=r
  ·subst e;rw[hget,hlive,if_pos rfl,if_pos rfl];have:=g2 i hpi hiq hA l hl;exact⟨this.1.symm,this.2.symm⟩
  ·rw[hget,hlive,if_neg e,if_neg e];refine h.rest x λi' h1 h2 ha hn=>?_
   by_cases e':i'=i
   ·subst e';exact e
   ·exact hx i' h1 h2 ha λ⟨hd,hq⟩=>hn ⟨hd,λhq'=>hq ⟨hq',e'⟩⟩
 ·intro i' hd ha hq;have⟨v1,v2,v3,v4,v5⟩:=h.pend i' hd ha hq.1;have hb:β i'≠β i:=λe=>hq.2 (h.inj i' i hd ha hq.1 hD hA hP e)
  exact⟨v1,v2,hun _ hb v3,λl' hl' g=>(v4 l' hl' g).mono hle rfl,v5⟩
 ·intro i1 i2 hd ha hq hd' ha' hq';exact h.inj i1 i2 hd ha hq.1 hd' ha' hq'.1
theorem Inv.abS(hr0:Rel E H0 (recAt R 0).st)(hS:fC S)(hR:ji P S nt ops R):∀(c:Nat),p≤c→c≤q→∀{E':Env}{X:St},Inv ops R nt E H0 ex xb D (λi=>p≤i) p q a H E' X β ν ζ →
  ∃E'' X',Inv ops R nt E H0 ex xb D (λi=>c<=i) p q a H E'' X' β ν ζ/\E'.le E'':=by
 intro c;induction c with
 |zero=>
  intro hp _ E' X h;have:p=0:=by omega
  subst this;exact⟨E',X,h,.refl _⟩
 |succ c ih=>
  intro hp hq E' X h;rcases Q1 p (c+1)with hlt|hge
  ·have⟨E1,X1,h1,l1⟩:=ih (by omega) (by omega) h;by_cases hc:dF ops R c/\D c
   ·have⟨E2,X2,h2,l2⟩:=h1.BB hr0 hS hR (by omega) (by omega) hc.1 hc.2 (Q0 c);exact⟨E2,X2,h2.congr λi _ _=>⟨λ⟨u,v⟩=>by omega,λu=>⟨by omega,by omega⟩⟩,l1.trans l2⟩
   ·refine⟨E1,X1,h1.congr λi hd ha=>⟨λu=>?_,λu=>by omega⟩,l1⟩;grind
  ·have:p=c+1:=by omega
   subst this;exact⟨E',X,h,.refl _⟩
end
section
variable {a:Act}{X:St}
theorem ot.dst(hs:ot ops bs){i j:Nat}{x y:Oper}(hx:ops[i]? = So x)(hy:ops[j]? = So y){d:Tmp}(h1:x.dst=So d)(h2:y.dst=So d):i=j:=by
 have key:∀{i j:Nat}{x y:Oper},i<j->ops[i]? = So x->ops[j]? = So y->x.dst=So d->y.dst=So d->False:=by intro i j x y hij hx hy h1 h2;have:=hs.pair i j x y hij hx hy;grind[yH,Rs]
 grind
theorem ot.bit(hs:ot ops bs){x y:Oper}(hij:i<j)(hx:ops[i]? = So x)(hy:ops[j]? = So y)
  (h:(∃d,x.dst=So d/\d∈y.looksAt ops)\/(∃d,y.dst=So d/\d∈x.looksAt ops)\/(2<=kind x.op/\kind y.op=3)):(aV bs j).testBit i=true:=by
 have:=hs.pair i j x y hij hx hy;unfold yH at this;simp at this;rcases this.2 with hb|⟨hap,hcl⟩
 ·grind
 ·have⟨e1,e2,e3⟩:=Oper.apart_spec hap;rcases h with ⟨d,hd,hm⟩|⟨d,hd,hm⟩|⟨h1,h2⟩
  ·grind
  ·grind
  ·unfold clash at hcl;have:Nat.ble 2 (kind x.op)=true:=by simpa[Z9]using h1
   simp_all
theorem Inv.Rw(hs:ot ops bs)(hR:ji P S nt ops R)(h:Inv ops R nt E H0 ex xb D (λi=>q<=i) p q a H E' X β ν ζ)(hdown:∀j,D j->∀i,(aV bs j).testBit i=Tt->D i)(ho:ops[j]? = So o)(hj:¬D j)(hrdy:∀i,(aV bs j).testBit i=Tt->D i)(hxe:∀x∈o.looksAt ops,¬ex x):∀x∈o.looksAt ops,Conc E' (ab (recAt R j).t x) (a.tmps.getD x undef):=by
 intro x hx;have hjn:j<ops.size:=(Q2.1 ho).1;by_cases hex:∃(i:Nat) (oi:Oper),ops[i]? = So oi/\oi.dst=So x
 ·have⟨i,oi,hoi,hdi⟩:=hex;rcases J4 i j with hij|hij|hij
  ·have hb:=hs.bit hij hoi ho (.inl ⟨x,hdi,hx⟩);have hDi:=hrdy i hb;have hval:ab (recAt R j).t x=(recAt R i).v:=Jy hR hoi hdi j hij (Q3 hjn) λi' o' h1 h2 h3 h4=>by
    have:=hs.dst hoi h3 hdi h4;omega
   rw[hval];refine h.slotV x i oi hDi hoi hdi ?_;rintro⟨hA,hqi⟩;have⟨oi',hoi',hk,hw⟩:=id hA;rw[hoi]at hoi';cases hoi';rcases h.gap.atq with hq|hK
   ·grind
   ·have hnD:=h.gap.after q (Q0 _) hK;have⟨oq,hoq,hkq⟩:=hK;have hne:q≠i:=by
     grind
    have hlt:q<i:=by omega
    cases hbit:(aV bs i).testBit q with
    |true=>grind
    |false=>exact hnD (hrdy q (hs.early q i oq oi hlt hoq hoi hkq hk hbit j o ho x hdi hx))
  ·subst hij;have h0:ab (recAt R i).t x=ab (recAt R 0).t x:=Bw hR i (Q3 hjn) λi' o' h1 h3 h4=>by
    have:=hs.dst hoi h3 hdi h4;omega
   rw[h0];refine h.slot0 x (hxe x hx) λi' o' hd h3 h4=>?_
   have:=hs.dst hoi h3 hdi h4;grind
  ·have h0:ab (recAt R j).t x=ab (recAt R 0).t x:=Bw hR j (Q3 hjn) λi' o' h1 h3 h4=>by
    have:=hs.dst hoi h3 hdi h4;omega
   rw[h0];refine h.slot0 x (hxe x hx) λi' o' hd h3 h4=>?_
   have:=hs.dst hoi h3 hdi h4;subst this;exact hj (hdown i hd j (hs.bit hij ho hoi (.inr (.inl ⟨x,hdi,hx⟩))))
 ·have hno:∀(i:Nat) (oi:Oper),ops[i]? = So oi->oi.dst≠So x:=λi oi h1 h2=>hex ⟨i,oi,h1,h2⟩
  rw[Bw hR j (Q3 hjn) λi o _=>hno i o];exact h.slot0 x (hxe x hx) λi o _=>hno i o
theorem Inv.add(hs:ot ops bs)(hR:ji P S nt ops R)(h:Inv ops R nt E H0 ex xb D Pd p q a H E' X β ν ζ)(ho:ops[j]? = So o)(hj:¬D j)(hnK:¬kF ops j){z:Value}
  (hC:¬dF ops R j->Conc E' (recAt R j).v z)
  (hA:dF ops R j->Pd j/\z=ζ j/\H0.size<=β j/\β j<H.size/\Un E' X (β j)/\(∀l,(recAt R (j+1)).st=(recAt R j).st.aj l->∀g,gE E' H ⟨β j,0,ν j⟩ (.ce l g))/\
   (∀F,F.phi (rowAt R j)=So ⟨β j,0,ν j⟩->Conc F (recAt R j).v (ζ j))/\(∀i,D i->dF ops R i->Pd i->β i≠β j)/\∀b ob,xb=So (b,ob)->β j≠b):
  Inv ops R nt E H0 ex xb (λi=>i=j\/D i) Pd p q (a.put o.dst z) H E' X β ν ζ:=by
 have hput:∀x,(a.put o.dst z).tmps.getD x undef=if o.dst=So x then z else a.tmps.getD x undef:=by
  intro x;cases hd:o.dst with
  |none=>simp[Act.put]
  |some d=>
   have hlt:d<nt:=by have:=(hR j o ho).2.1;rw[hd]at this;exact Jw this
   simp[Act.put];by_cases e:d=x
   ·have:d<a.tmps.size:=by rw[h.sz];grind
    grind
   grind
 have und:∀i,dF ops R i->(¬((i=j\/D i)/\¬Pd i)↔¬(D i/\¬Pd i)):=λi ha=>by grind
 refine⟨h.st,?_,?_,?_,?_,⟨h.gap.pq,h.gap.qn,λi o h1 h2 h3=>.inr (h.gap.before i o h1 h2 h3),h.gap.noK,h.gap.atq,?_,h.gap.start⟩,h.next,h.freshP,h.lows,?_,?_,?_,?_,?_⟩
 ·have:=h.sz;cases hd:o.dst with
  |none=>simpa[Act.put]using this
  |some d=>simpa[Act.put]using this
 ·intro x i oi hd hoi hx hn;rw[hput];by_cases e:i=j
  ·grind
  ·have:o.dst≠So x:=λh'=>e (hs.dst hoi ho hx h')
   rw[if_neg this];exact h.slotV x i oi (hd.resolve_left e) hoi hx hn
 ·intro x i oi hd hoi hx ha hq;rw[hput];by_cases e:i=j
  ·grind
  ·have:o.dst≠So x:=λh'=>e (hs.dst hoi ho hx h')
   rw[if_neg this];exact h.slotP x i oi (hd.resolve_left e) hoi hx ha hq
 ·intro x hxe hx;rw[hput,if_neg (hx j o (.inl rfl) ho)];exact h.slot0 x hxe λi oi hd=>hx i oi (.inr hd)
 ·rintro i h1 h2 (rfl|hd)
  ·grind
  ·exact h.gap.after i h1 h2 hd
 ·intro i h1 h2 ha hn;exact h.undone i h1 h2 ha ((und i ha).1 hn)
 ·intro r hr;exact h.rest r λi h1 h2 ha hn=>hr i h1 h2 ha ((und i ha).2 hn)
 ·rintro i (rfl|hd) ha hq
  ·grind
  ·exact h.pend i hd ha hq
 ·rintro i i' (rfl|hd) ha hq (rfl|hd') ha' hq' e
  ·rfl
  ·exact absurd e.symm ((hA ha).2.2.2.2.2.2.2.1 i' hd' ha' hq')
  ·exact absurd e ((hA ha').2.2.2.2.2.2.2.1 i hd ha hq)
  ·exact h.inj i i' hd ha hq hd' ha' hq' e
 ·intro b ob hb;have⟨u1,u2,u3,u4⟩:=h.xtra b ob hb;refine⟨u1,u2,u3,?_⟩;rintro i (rfl|hd) ha hq
  ·exact(hA ha).2.2.2.2.2.2.2.2 b ob hb
  ·exact u4 i hd ha hq
theorem Inv.other(h:Inv ops R nt E H0 ex xb D Pd p q a H E' X β ν ζ)(o:Obj):Inv ops R nt E H0 ex xb D Pd p q a (H.push o) E' X β ν ζ:=by
 refine⟨h.st.trans (Step.other h.st.rel o),h.sz,h.slotV,h.slotP,h.slot0,h.gap,h.next,h.freshP,h.lows,h.undone,h.rest,λi hd ha hq=>?_,h.inj,λb ob hb=>?_⟩
 rotate_left 1
 ·have⟨u1,u2,u3,u4⟩:=h.xtra b ob hb;grind
 have⟨v1,v2,v3,v4,v5⟩:=h.pend i hd ha hq;refine⟨v1,by grind,v3,λl hl g=>(v4 l hl g).mono (.refl _) ?_,v5⟩;grind
theorem Inv.tell(h:Inv ops R nt E H0 ex xb D Pd p q a H E' X β ν ζ)(hj:¬D j)(b n:Nat)(z:Value):
  Inv ops R nt E H0 ex xb D Pd p q a H E' X (λi=>if i=j then b else β i) (λi=>if i=j then n else ν i) (λi=>if i=j then z else ζ i):=by
 have ne:∀i,D i->i≠j:=λi hd e=>hj (e▸hd)
 refine⟨h.st,h.sz,h.slotV,λx i o hd ho hx ha hq=>?_,h.slot0,h.gap,h.next,h.freshP,h.lows,h.undone,h.rest,λi hd ha hq=>?_,λi i' hd ha hq hd' ha' hq' e=>?_,λb ob hb=>?_⟩
 ·simp only[if_neg (ne i hd)];exact h.slotP x i o hd ho hx ha hq
 ·simp[if_neg (ne i hd)];exact h.pend i hd ha hq
 ·simp[if_neg (ne i hd),if_neg (ne i' hd')]at e;exact h.inj i i' hd ha hq hd' ha' hq' e
 ·have⟨u1,u2,u3,u4⟩:=h.xtra b ob hb;grind
theorem Ek(ops:Array Oper):∀(m p:Nat),p+m=ops.size->∃q,p<=q/\q<=ops.size/\(∀i,p<=i->i<q->¬kF ops i)/\(q=ops.size\/kF ops q)
 |0,p,h=>⟨p,Q0 _,by omega,λi h1 h2=>by omega,.inl (by omega)⟩
 |m+1,p,h=>by
  by_cases hk:kF ops p
  ·grind
  ·have⟨q,h1,h2,h3,h4⟩:=Ek ops m (p+1) (by omega);grind
end
section
variable {a:Act}{X:St}
theorem aaj(h:Rel E w.heap st){ρ:Operand->Value}(hρ:∀x,Conc E (ah t x) (ρ x))(hk:kind o.op<2)(ho:cC P S t st o=So (v,st')):
  ∃z,(execOp ρ o).run P w=.ok (.value z) w/\Conc E v z:=by
 have val:∀{s:Sem Value}{z:Value},s.run P w=.ok z w->((do pure (.value (<-s)):Sem Next)).run P w=.ok (.value z) w:=by simp_all
 unfold cC at ho;cases hop:o.op<;>rw[hop]at ho hk<;>first|(simp only[kind]at hk;omega;done)|skip
 case move x=>cases ho;simp_all[execOp]
 case assign x=>cases ho;simp_all[execOp]
 case pick c a b=>
  have ho:rJ (ah t a) (ah t b) st (ah t c).gH=So (v,st'):=ho;cases hb:(ah t c).gH with
  |none=>rw[hb]at ho;cases ho
  |some bb=>
   rw[hb]at ho;have hr:=LL (P:=P) (w:=w) hb (hρ c);simp only[execOp,hop];cases bb with
   |true=>cases ho;simp_all
   |false=>cases ho;simp_all
 case build ty parts=>obtain⟨rfl,z,k1,k2⟩:=Mh (S:=S) (w:=w) hρ ho;grind[execOp]
 case load ty a=>obtain⟨hd,rfl⟩:=ke ho;grind[Iy,execOp]
 case nilCheck x=>obtain⟨rfl,k2,k3⟩:=PP ho (hρ x);grind[PM]
 case binOp op ty x y ty'=>obtain⟨hd,rfl⟩:=ke ho;obtain⟨z,k1,k2⟩:=LS (w:=w) hd (hρ x) (hρ y);grind[execOp]
 case unOp op ty x=>obtain⟨hd,rfl⟩:=ke ho;obtain⟨z,k1,k2⟩:=Sv (w:=w) hd (hρ x);simp only[execOp,hop];exact⟨z,val k1,k2⟩
 case makeInterface=>cases(ho:(No:aD)=So (v,st'))
 case makeFunc fn a b=>
  obtain⟨hf,ho⟩:=dH ho;cases ho;simp only[execOp,hop];refine⟨.func fn (a.map ρ) (b.map ρ),val rfl,?_⟩;have:=Conc.f (E:=E) fn _ _ _ _ hf (uF hρ a.toList) (uF hρ b.toList)
  rwa [yy,yy]at this
 case slice ty x lo hi mx=>obtain⟨hd,rfl⟩:=ke ho;obtain⟨z,k1,k2⟩:=RO h hd (hρ x) (yb hρ lo) (yb hρ hi) (yb hρ mx);grind[execOp]
 case fieldAddr s x n=>
  have ho:oU s x n P S t st=So (v,st'):=ho;unfold oU at ho;split at ho
  ·rename_i o' ho';obtain⟨rfl,z,k1,k2⟩:=Nl (w:=w) ho' ho (hρ x);grind[execOp]
  grind
 case field=>cases(ho:(No:aD)=So (v,st'))
 case indexAddr ty x ix=>obtain⟨hd,rfl⟩:=ke ho;obtain⟨z,k1,k2⟩:=Oi (w:=w) hd (hρ x) (hρ ix);grind[execOp]
 case index ty x ix=>obtain⟨hd,rfl⟩:=ke ho;obtain⟨z,k1,k2⟩:=Ol (w:=w) hd (hρ x) (hρ ix);grind[execOp]
 case lookup ty x ix ok=>obtain⟨hd,rfl⟩:=ke ho;obtain⟨z,k1,k2⟩:=Pg h hd (hρ x) (hρ ix);simp only[execOp,hop];grind
 case extract x n=>obtain⟨rfl,z,k1,k2⟩:=PQ (P:=P) (w:=w) ho (hρ x);simp only[execOp,hop];grind
 case call c=>
  obtain⟨callee,az,ts⟩:=c;cases callee<;>first|(simp[kind]at hk;done)|skip
  rename_i bb;cases bb<;>first|(simp[kind]at hk;done)|skip
  have ho:cP P st ts.toList (args t az.toList)=So (v,st'):=ho;unfold cP at ho;split at ho
  ·rename_i x hx;have ha:=uF hρ az.toList;rw[hx]at ha;cases ha':az.toList with
   |nil=>rw[ha']at hx;cases hx
   |cons y l=>
    rw[ha']at hx;cases l with
    |cons=>cases hx
    |nil=>
     cases hx;obtain⟨rfl,z,k1,k2⟩:=OV h (u:=ρ y) ho (hρ y) o.type;refine⟨z,?_,k2⟩;have e:az.map ρ = #[ρ y]:=by grind
     simp only[execOp,hop,resolve,invoke,e];have:=val k1;simpa[builtin]using this
  grind
def Looks(P:Program)(S:Self)(ops:Array Oper)(bs:List Nat)(R:List Rec):Prop :=
 ∀j p o,ops[j]? = So o->kind o.op=1->(recAt R j).w=Tt->(p=0\/∃k,p=k+1/\kF ops k)->
  Lv bs p j=Tt\/(∃i,kF ops i/\p<=i/\(aV bs j).testBit i=Tt)\/(p<=j/\∀i o',p<=i->i<j->ops[i]? = So o'->kind o'.op<2)\/
   ∃u,cC P S (recAt R j).t (recAt R p).st o=So ((recAt R j).v,u)
theorem Vp(hR:ji P S nt ops R):∀(j:Nat),p<=j->j<=ops.size->(∀i o',p<=i->i<j->ops[i]? = So o'->kind o'.op<2)->(recAt R j).st=(recAt R p).st:=by
 intro j;induction j with
 |zero=>grind
 |succ j ih=>
  intro hp hj hc;rcases Q1 p (j+1)with hlt|hge
  ·have ho:ops[j]? = So ops[j]:=by grind
   have hk:=hc j _ (by omega) (by omega) ho;have hnK:¬kF ops j:=λ⟨o,h1,h2⟩=>by grind
   rcases QL hR ho hnK (Ir _)with ⟨_,h⟩|⟨⟨o,h1,h2,_⟩,_⟩
   ·rw[h];exact ih (by omega) (by omega) λi o' h1 h2=>hc i o' h1 (by omega)
   ·rw[ho]at h1;cases h1;omega
  grind
theorem Inv.sub(hS:fC S)(hR:ji P S nt ops R)(h:Inv ops R nt E H0 ex xb D Pd p q a H E' X β ν ζ):Sub (recAt R p).st X:=by
 have⟨g1,g2⟩:=Bv hS hR q h.gap.pq h.gap.qn h.gap.noK;have ne:∀r,r<(recAt R p).st.next->∀i,p<=i->i<q->dF ops R i->r≠rowAt R i:=by intro r hr i h1 h2 ha;have:(recAt R p).st.next<=rowAt R i:=nW hS hR h1 (Q3 ha.lt);omega
 refine⟨λr x hx=>?_,λg al hg=>?_⟩
 ·have hr:r<(recAt R p).st.next:=by
   rcases Q1 r (recAt R p).st.next with hl|hl
   ·grind
   ·rw[(h.freshP r hl).1]at hx;grind
  rw[(h.rest r λi h1 h2 ha _=>ne r hr i h1 h2 ha).1,(g1 r (ne r hr)).1];grind
 ·have hr:g<(recAt R p).st.next:=by
   rcases Q1 g (recAt R p).st.next with hl|hl
   ·grind
   ·rw[(h.freshP g hl).2]at hg;grind
  rw[(h.rest g λi h1 h2 ha _=>ne g hr i h1 h2 ha).2,(g1 g (ne g hr)).2];grind
theorem Inv.NS(hS:bK P S)(hs:ot ops bs)(hR:ji P S nt ops R)(hL:Looks P S ops bs R)(hr0:Rel E H0 (recAt R 0).st)(hn:(recAt R ops.size).st.next<=E.top)
  (h:Inv ops R nt E H0 ex xb D (λi=>q<=i) p q a w.heap E' X β ν ζ) (hdown:∀j,D j->∀i,(aV bs j).testBit i=Tt->D i) (ho:ops[j]? = So o) (hj:¬D j) (hrdy:∀i,(aV bs j).testBit i=Tt->D i) (hxe:∀x∈o.looksAt ops,¬ex x) {j':Nat} (hmo:mops[j']? = So o') (hexe:∀ρ,execOp ρ o'=execOp ρ o) (hop':o'.op=o.op) (hdst:o'.dst=o.dst)
  (hwy:Region.wanted o' (yielded mops a.tmps)=Region.wanted o (yielded ops a.tmps)) (cs:List Frame) (rest:List Nat):
  ∃p' q' a' w' E'' X' β' ν' ζ',Inv ops R nt E H0 ex xb (λi=>i=j\/D i) (λi=>q'<=i) p' q' a' (World.heap w') E'' X' β' ν' ζ'/\a'.defers=a.defers/\(w'.os=w.os/\w'.output=w.output)/\(E'.le E''/\∀x,o.dst≠So x->a'.tmps.getD x undef=a.tmps.getD x undef) /\
   Steps P (lone (b.atR a (.inRegion mops (j'::rest)::k)) cs w) (lone (b.atR a' (.inRegion mops rest::k)) cs w'):=by
 have hsee:=h.Rw hs hR hdown ho hj hrdy hxe;obtain⟨hguard,t',ρ,hρ,hev,hex⟩:=Zk (P:=P) (S:=S) h.sz hsee;obtain⟨r1,r2,r3,r4⟩:=hR j o ho;have hw:=hwy.trans (hguard _ r1);have hjn:j<ops.size:=(Q2.1 ho).1;have skip:(recAt R j).w=Ff->∀cs rest,Steps P (lone (b.atR a (.inRegion mops (j'::rest)::k)) cs w) (lone (b.atR (a.put o.dst undef) (.inRegion mops rest::k)) cs w):=by grind[stepR_op_skip,Q4]
 have sel:∀{st:St}{r:AV×St},cC P S (recAt R j).t st o=So r->∀cs b,o.op≠.select cs b:=by intro st r _ cs b hop;have:=hs.nosel j o ho;rw[hop]at this;cases this
 have value:(recAt R j).w=Tt->∀{z:Value}{w':World}{st:St}{r:AV×St},cC P S (recAt R j).t st o=So r->(execOp ρ o).run P w=.ok (.value z) w'->
   ∀cs rest,Steps P (lone (b.atR a (.inRegion mops (j'::rest)::k)) cs w) (lone (b.atR (a.put o.dst z) (.inRegion mops rest::k)) cs w'):=by
  grind[BQ,Eu,Q4]
 have hput:∀(z:Value) x,(a.put o.dst z).tmps.getD x undef=if o.dst=So x then z else a.tmps.getD x undef:=by
  intro z x;cases hd:o.dst with
  |none=>simp[Act.put]
  |some d=>
   have hlt:d<nt:=by rw[hd]at r2;exact Jw r2
   simp[Act.put];by_cases e:d=x
   ·subst e;rw[Array.getElem?_setIfInBounds_self];have:d<a.tmps.size:=by rw[h.sz];exact hlt
    simp[this]
   grind
 have hkeep:∀(z:Value) x,o.dst≠So x->(a.put o.dst z).tmps.getD x undef=a.tmps.getD x undef:=λz x hne=>by rw[hput,if_neg hne]
 by_cases hK:kF ops j
 ·
  have hk3:kind o.op=3:=by obtain⟨o',h1,h2⟩:=hK;rw[ho]at h1;cases h1;exact h2
  have hjq:j=q:=by
   rcases J4 j q with hlt|he|hgt
   ·rcases Q1 j p with h1|h1
    ·exact absurd (h.gap.before j o h1 ho (by omega)) hj
    ·exact absurd hK (h.gap.noK j h1 hlt)
   ·exact he
   ·rcases h.gap.atq with hq|hq
    ·omega
    ·obtain⟨oq,hoq,hkq⟩:=id hq;have:=hs.bit hgt hoq ho (.inr (.inr ⟨by omega,hk3⟩));exact absurd (hrdy q this) (h.gap.after q (Q0 _) hq)
  subst hjq;have hall:∀i,p<=i->i<j->dF ops R i->D i:=by intro i h1 h2 ha;obtain⟨oi,hoi,hki,_⟩:=ha;exact hrdy i (hs.bit h2 hoi ho (.inr (.inr ⟨by omega,hk3⟩)))
  have hX:∀r,X.get r=(recAt R j).st.get r/\X.live.get r=(recAt R j).st.live.get r:=λr=>
   h.rest r λi h1 h2 ha hno=>absurd ⟨hall i h1 h2 ha,by omega⟩ hno
  have hstj:Step E E' H0 w.heap (recAt R 0).st (recAt R j).st:=h.st.ext (λr=>(hX r).1.symm) (λg=>(hX g).2.symm) (by rw[h.next];exact Q0 _);have htop:E'.top=E.top:=hstj.top;have hnj:(recAt R (j+1)).st.next≤E.top:=J5 (nW hS.up hR (by omega) (Q0 _)) hn;have core:∃E'' w' z,aR E' E'' w w' (recAt R j).st (recAt R (j+1)).st∧Conc E'' (recAt R j).v z∧
    Steps P (lone (b.atR a (.inRegion mops (j'::rest)::k)) cs w) (lone (b.atR (a.put o.dst z) (.inRegion mops rest::k)) cs w'):=by
   cases hW:(recAt R j).w with
   |false=>obtain⟨e1,e2⟩:=r3 hW;rw[e2,e1];exact⟨E',w,undef,.refl hstj.rel,.un,skip hW cs rest⟩
   |true=>
    have he:=r4 hW;have he':=he;rw[<-hev]at he';have hg:=IU (fc:=b.atR a (.inRegion mops (j'::rest)::k)) (ks:=cs) hS hstj.rel hρ he' (by rw[htop];exact hnj);rw[hex (sel he),<-hexe]at hg;rw[hW]at hw;have hnd:∀c,o'.op≠.defer c:=by rw[hop'];exact Eu he
    obtain⟨E'',w',cv,k1,k2,k3⟩:=hg;refine⟨E'',w',cv,k1,k2,?_⟩;have hf:=Frame.finish_atR b a mops j' rest k cv;rw[hmo]at hf;simp[hdst]at hf;rcases k3 with (h|⟨h,rfl⟩)|⟨f,az,h,hcall⟩|⟨l,f,tmps,x,y,h,hround⟩|⟨cases,bl,sh,h,htell⟩
    ·have:=BQ (b:=b) (k:=k) (cs:=cs) (rest:=rest) hmo hw hnd h;rw[hdst]at this;exact Q4 this
    ·have:=JW (b:=b) (k:=k) (cs:=cs) (rest:=rest) hmo hw hnd h;rw[hdst]at this;exact Q4 this
    ·refine(Q4 (RW hmo hw hnd h)).trans ?_;obtain⟨fr,h1,h2,h3⟩:=hcall;refine h1.trans ?_;rw[<-hf];exact Q4 (step_leave_returned h3)
    ·refine(Q4 (RX hmo hw hnd h)).trans ?_;rw[<-hf];exact hround
    ·obtain⟨es,hee⟩:=stepG_comm hmo hw hnd h;rw[<-hf];exact Q4 (htell _ cs es hee)
  obtain⟨E'',w',z,c1,c2,c3⟩:=core;obtain⟨q',n1,n2,n3,n4⟩:=Ek ops (ops.size-(j+1)) (j+1) (by omega);obtain⟨g1,g2⟩:=Bv hS.up hR q' n1 n2 n3;have hnq:(recAt R q').st.next<=E.top:=J5 (nW hS.up hR n2 (Q0 _)) hn
  let X2:St:=⟨(recAt R (j+1)).st.rows,(recAt R (j+1)).st.live,(recAt R q').st.next⟩
  have hst2:Step E E'' H0 w'.heap (recAt R 0).st X2:=(hstj.trans c1.toStep).ext (λ_=>rfl) (λ_=>rfl) (nW hS.up hR n1 n2);have htop2:E''.top=E.top:=by rw[c1.top,htop]
  have hrel:=c1.rel;have hafter:∀i,j<i->kF ops i->¬D i:=λi h1 h2=>h.gap.after i (by omega) h2
  have hnA:¬dF ops R j:=λ⟨o',h1,h2,_⟩=>by rw[ho]at h1;cases h1;omega
  have hI:Inv ops R nt E H0 ex xb (λi=>i=j\/D i) (λi=>j+1<=i) (j+1) q' (a.put o.dst z) w'.heap E'' X2 β ν ζ:=by
   refine⟨hst2,?_,?_,?_,?_,⟨n1,n2,?_,n3,n4,?_,.inr ⟨j,rfl,hK⟩⟩,rfl,?_,?_,?_,?_,?_,?_,?_⟩
   ·have:=h.sz;cases hd:o.dst with
    |none=>simpa[Act.put]using this
    |some d=>simpa[Act.put]using this
   ·intro x i oi hd hoi hx hno;rw[hput];by_cases e:i=j
    ·subst e;rw[ho]at hoi;cases hoi;rw[if_pos hx];exact c2
    ·have:o.dst≠So x:=λh'=>e (hs.dst hoi ho hx h')
     rw[if_neg this];refine(h.slotV x i oi (hd.resolve_left e) hoi hx λ⟨ha,hq⟩=>hno ⟨ha,by omega⟩).mono c1.le
   ·intro x i oi hd hoi hx ha hq;have e:i≠j:=by omega
    have:o.dst≠So x:=λh'=>e (hs.dst hoi ho hx h')
    rw[hput,if_neg this];exact h.slotP x i oi (hd.resolve_left e) hoi hx ha (by omega)
   ·intro x hxe hx;rw[hput,if_neg (hx j o (.inl rfl) ho)];exact(h.slot0 x hxe λi oi hd=>hx i oi (.inr hd)).mono c1.le
   ·intro i oi h1 hoi h2;by_cases e:i=j
    ·exact .inl e
    ·right;rcases Q1 i p with h3|h3
     ·exact h.gap.before i oi h3 hoi h2
     ·exact hrdy i (hs.bit (by omega) hoi ho (.inr (.inr ⟨h2,hk3⟩)))
   ·rintro i h1 h2 (rfl|hd)
    ·omega
    ·exact hafter i (by omega) h2 hd
   ·intro r hr;exact⟨hrel.freshRow r hr,hrel.freshG r hr⟩
   ·intro g al hg x hx;exact hrel.liveLt g al x hg hx
   ·intro i h1 h2 ha _;have hge:(recAt R (j+1)).st.next<=rowAt R i:=nW hS.up hR h1 (Q3 ha.lt);have hlt:=xf hS.up hR ha h2 n2;exact⟨hrel.freshRow _ hge,hrel.freshG _ hge,hrel.fresh _ hge (by rw[htop2];omega)⟩
   ·intro r hr;have:=g1 r λi h1 h2 ha=>hr i h1 h2 ha (λ⟨_,h3⟩=>h3 h1)
    exact⟨this.1.symm,this.2.symm⟩
   ·intro i hd ha hq;have e:i≠j:=by omega
    obtain⟨v1,v2,v3,v4,v5⟩:=h.pend i (hd.resolve_left e) ha (by omega);have hun:Un E' (recAt R j).st (β i):=by refine⟨?_,v3.2⟩;rintro⟨r,row,B,hr,hB,hb⟩;exact v3.1 ⟨r,row,B,by rw[<-St.Cz (λr=>(hX r).1) (λg=>(hX g).2)]at hr;exact hr,hB,hb⟩
    refine⟨v1,J6 v2 c1.fr.size,?_,λl hl g=>(v4 l hl g).mono c1.le (c1.fr.keep _ v2 hun.1),v5⟩;have:=c1.un v2 hun;refine⟨?_,this.2⟩;rintro⟨r,row,B,hr,hB,hb⟩;exact this.1 ⟨r,row,B,hr,hB,hb⟩
   ·intro i i' hd ha hq hd' ha' hq';exact h.inj i i' (hd.resolve_left (by omega)) ha (by omega) (hd'.resolve_left (by omega)) ha' (by omega)
   ·intro b ob hb;obtain⟨u1,u2,u3,u4⟩:=h.xtra b ob hb;have hlt:b<w.heap.size:=(Q2.1 u2).1;have hun:Un E' (recAt R j).st b:=by
     refine⟨?_,u3.2⟩;rintro⟨r,row,B,hr,hB,hb⟩;exact u3.1 ⟨r,row,B,by rw[<-St.Cz (λr=>(hX r).1) (λg=>(hX g).2)]at hr;exact hr,hB,hb⟩
    refine⟨u1,(c1.fr.keep _ hlt hun.1).trans u2,?_,λi hd ha hq=>u4 i (hd.resolve_left (by omega)) ha (by omega)⟩;have:=c1.un hlt hun;refine⟨?_,this.2⟩;rintro⟨r,row,B,hr,hB,hb⟩;exact this.1 ⟨r,row,B,hr,hB,hb⟩
  obtain⟨E3,X3,hI3,l3⟩:=hI.abS hr0 hS.up hR q' n1 (Q0 _);exact⟨j+1,q',_,w',E3,X3,β,ν,ζ,hI3,put_defers ..,⟨c1.os,c1.out⟩,⟨c1.le.trans l3,hkeep z⟩,c3⟩
 ·cases hW:(recAt R j).w with
  |false=>
   have hnA:¬dF ops R j:=λ⟨_,_,_,h'⟩=>by rw[hW]at h';cases h'
   refine⟨p,q,_,w,E',X,β,ν,ζ,h.add hs hR ho hj hK (λ_=>?_) (λha=>absurd ha hnA),put_defers ..,⟨rfl,rfl⟩,⟨.refl _,hkeep _⟩,skip hW cs rest⟩;rw[(r3 hW).1];exact .un
  |true=>
   have he:=r4 hW;have hk3:kind o.op≠3:=λe=>hK ⟨o,ho,e⟩
   have hkle:=Ir o;by_cases hk2:kind o.op=2
   ·
    have hA:dF ops R j:=⟨o,ho,hk2,hW⟩;have he':=he;rw[<-hev]at he';obtain⟨l,hl,z,ob,n,m1,m2,m3⟩:=YJ hρ hk2 he';have hnB:∀H:Array Obj,H.size<=w.heap.size->Rel E' H X->Un E' X w.heap.size:=by intro H hle hrel;refine hrel.Ks hle ?_;rintro⟨r,row,C,hr,hC,hb⟩;obtain⟨C',hC',hR'⟩:=hrel.rows _ _ hr;rw[hC]at hC';cases hC';have:=hR'.lt;omega
    have hjp:p<=j:=by
     rcases Q1 j p with h1|h1
     ·exact absurd (h.gap.before j o h1 ho (by omega)) hj
     ·exact h1
    have h1:=((h.other ob).tell hj w.heap.size n z).congr (Pd':=λi=>q<=i\/i=j) (λi hd _=>⟨.inl,λhh=>hh.resolve_right (λe=>hj (e▸hd))⟩);have hsame:∀l',(recAt R (j+1)).st=(recAt R j).st.aj l'->l'=l:=by intro l' hl';have e1:=St.pU (recAt R j).st l (recAt R j).st.next;rw[<-hl,hl',St.pU,if_pos rfl,if_pos rfl]at e1;cases e1;rfl
    have h2:=h1.add hs hR ho hj hK (z:=z) (λhno=>absurd hA hno) (λ_=>by
     refine⟨.inr rfl,by simp,?_,?_,?_,?_,?_,?_,?_⟩
     ·simp[];exact h.st.fr.size
     ·simp
     ·simp[];exact hnB w.heap (Q0 _) h.st.rel
     ·intro l' hl' g;have:=hsame l' hl';subst this;simp[];exact m2 g
     ·intro F hF;simp[]at hF|-;exact m3 F hF
     ·intro i hd ha hq;have hne:i≠j:=λe=>hj (e▸hd)
      have hq':q<=i:=hq.resolve_right hne;have:=(h.pend i hd ha hq').2.1;simp[if_neg hne];omega
     ·intro b ob' hb;have:=(Q2.1 (h.xtra b ob' hb).2.1).1;simp[];omega)
    have hsteps:=value hW he m1 cs rest;rcases Q1 j q with hlt|hge
    ·obtain⟨E3,X3,h3,l3⟩:=h2.BB hr0 hS.up hR hjp hlt hA (.inl rfl) (.inr rfl);refine⟨p,q,_,{w with heap:=w.heap.push ob},E3,X3,_,_,_,h3.congr λi hd _=>⟨λ⟨u,v⟩=>u.resolve_right v,λu=>⟨.inl u,by omega⟩⟩,put_defers ..,⟨rfl,rfl⟩,⟨l3,hkeep z⟩,hsteps⟩
    ·exact⟨p,q,_,{w with heap:=w.heap.push ob},E',X,_,_,_,h2.congr λi hd _=>⟨λu=>u.elim id (λe=>by omega),.inl⟩,put_defers ..,⟨rfl,rfl⟩,⟨.refl _,hkeep z⟩,hsteps⟩
   ·
    have hk01:kind o.op<2:=by omega
    have hnA:¬dF ops R j:=λ⟨o',h1,h2,_⟩=>by rw[ho]at h1;cases h1;omega
    have heX:cC P S (recAt R j).t X o=So ((recAt R j).v,X):=by
     by_cases hk0:kind o.op=0
     ·obtain⟨f,hf⟩:=OI hk0;rw[hf]at he|-;rw[(ke he).1];rfl
     ·have hk1:kind o.op=1:=by omega
      have hp:∃u,cC P S (recAt R j).t (recAt R p).st o=So ((recAt R j).v,u):=by
       rcases hL j p o ho hk1 hW h.gap.start with h1|⟨i,h1,h2,h3⟩|⟨h1,h2⟩|h1
       ·exfalso;rcases h.gap.start with h0|⟨kk,h0,hKk⟩
        ·rw[h0]at h1;cases h1
        ·rw[h0]at h1;have hb:(aV bs kk).testBit j=true:=h1;obtain⟨ok,hok,hkk⟩:=hKk;exact hj (hdown kk (h.gap.before kk ok (by omega) hok (by omega)) j hb)
       ·exfalso;have hDi:=hrdy i h3;rcases Q1 i q with h4|h4
        ·exact h.gap.noK i h2 h4 h1
        ·exact h.gap.after i h4 h1 hDi
       ·rw[<-Vp hR j h1 (Q3 hjn) h2];exact⟨_,he⟩
       ·exact h1
      obtain⟨u,hu⟩:=hp;exact OJ hk1 (h.sub hS.up hR) hu
    have heX':=heX;rw[<-hev]at heX';obtain⟨z,m1,m2⟩:=aaj h.st.rel hρ hk01 heX';exact⟨p,q,_,w,E',X,β,ν,ζ,h.add hs hR ho hj hK (λ_=>m2) (λha=>absurd ha hnA),put_defers ..,⟨rfl,rfl⟩,⟨.refl _,hkeep z⟩,value hW heX m1 cs rest⟩
end
theorem OW:∀{a b:List Nat},leq a b=Tt->a=b
 |[],[],_=>rfl
 |x::a,y::b,h=>by
  have h':@Bool.rec (λ_=>Bool) Ff (leq a b) (Nat.beq x y)=true:=h;cases hb:Nat.beq x y with
  |false=>simp_all
  |true=>
   rw[hb]at h';have e:x=y:=by simp_all
   rw[e,OW h']
 |[],_::_,h=>by cases h
 |_::_,[],h=>by cases h
theorem Yf{a b:Int}(h:oJ a b=Tt):a=b:=by cases a<;>cases b<;>simp[oJ,bh]at h<;>first|grind|cases h
theorem zT{f:AV->AV->Bool}(hf:∀a b,f a b=Tt->a=b):∀{l m:List AV},wi f l m=Tt->l=m
 |[],[],_=>rfl
 |a::l,b::m,h=>by
  unfold wi at h;cases hb:f a b with
  |false=>grind
  |true=>rw[hb]at h;rw[hf a b hb,zT hf h]
 |[],_::_,h=>by cases h
 |_::_,[],h=>by cases h
theorem ab3{a b:Option Nat}(h:JK a b=Tt):a=b:=by cases a<;>cases b<;>simp[JK,bh]at h<;>first|rfl|grind
theorem Um:∀(n:Nat) (a b:AV),pI n a b=Tt->a=b:=by
 intro n;induction n with
 |zero=>intro a b h;cases h
 |succ n ih=>
  intro a b h;unfold pI at h;split at h
  ·rfl
  ·grind
  ·simp at h;have h1:=of_decide_eq_true h.1;rw[h1,Yf h.2]
  ·rw[OW h]
  ·simp_all
  ·rfl
  ·simp_all
  ·rw[zT ih h]
  ·grind[bh,ab3]
  ·rfl
  ·simp[bh]at h;rw[h.1,h.2.1,zT ih h.2.2]
  ·simp_all
  ·rfl
  ·simp_all
  ·rfl
  ·grind[bh]
  ·rfl
  ·rw[zT ih h]
  ·rw[zT ih h]
  grind
theorem Iv{D:Nat->Prop}:∀(n:Nat),(∃i,i<n/\¬D i)->∃i,i<n/\¬D i/\∀i',i'<i->D i'
 |0,⟨i,h,_⟩=>by omega
 |n+1,h=>by
  by_cases h':∃i,i<n/\¬D i
  ·have⟨i,h1,h2,h3⟩:=Iv n h';grind
  grind
structure Perm(mops ops:Array Oper)(σ τ:Nat->Nat):Prop where
 size:mops.size=ops.size
 lt:∀i,i<ops.size->σ i<ops.size
 tlt:∀i,i<ops.size->τ i<ops.size
 st:∀i,i<ops.size->σ (τ i)=i
 ts:∀i,i<ops.size->τ (σ i)=i
 op:∀i o,ops[i]? = So o->∃o',mops[σ i]? = So o'/\(∀ρ,execOp ρ o'=execOp ρ o)/\o'.op=o.op/\o'.dst=o.dst/\∀tmps,Region.wanted o' (yielded mops tmps)=Region.wanted o (yielded ops tmps)
theorem Perm.refl:Perm ops ops id id :=
 ⟨rfl,λ_ h=>h,λ_ h=>h,λ_ _=>rfl,λ_ _=>rfl,λi o ho=>⟨o,ho,λ_=>rfl,rfl,rfl,λ_=>rfl⟩⟩
theorem adW(hg:o.guard=(o'.guard.map λg=>(τ g.1,g.2)))(hr:∀(g:Nat ×Bool),o'.guard=So g→(mops[g.1]?).bind (·.dst)=(ops[τ g.1]?).bind (·.dst))(tmps:Array Value) :
  Region.wanted o' (yielded mops tmps)=Region.wanted o (yielded ops tmps):=by
 grind[Region.wanted,yielded]
theorem ot.LV(hs:ot ops bs):∀(j:Nat) (i:Nat) (o:Oper),ops[j]? = So o->(aV bs j).testBit i=Tt->i<j:=by
 intro j;induction j using Nat.strongRecOn with
 |ind j ih=>intro i o ho hb;have⟨e,he,hbi,h⟩:=hs.bef j o i ho hb;have hlt:=hs.edge j o ho e he hbi;grind
theorem Zg(hedge:∀j o,mops[j]? = So o->∀e∈o.after,Region.binds .any e=Tt->e.on<j):
  ∀(fuel t:Nat) (listed:Array Bool) (U:List Nat),listed.size=mops.size->U.Nodup->U.length=fuel->(∀i,i∈U↔i<mops.size/\listed.getD i Ff=Ff)->
   (Region.linearise.go .any mops fuel t listed []).Nodup/\(∀i,i∈Region.linearise.go .any mops fuel t listed []↔i∈U)/\
   ∀pre j post o,Region.linearise.go .any mops fuel t listed []=pre++j::post->mops[j]? = So o->∀e∈o.after,Region.binds .any e=Tt->listed.getD e.on Ff=Tt\/e.on∈pre:=by
 intro fuel;induction fuel with
 |zero=>grind[Region.linearise.go]
 |succ fuel ih=>
  intro t listed U hsz hnd hlen hU;have hex:∃i,i<mops.size/\¬listed.getD i Ff=true:=by
   cases hLL:U with
   |nil=>grind
   |cons x l=>grind[J8]
  have⟨i0,hi0,hu0,hall0⟩:=Iv mops.size hex;have hr0':i0∈Region.ready .any mops listed:=by refine mem_ready.2 ⟨?_,mops[i0],by grind,λe he hb=>hall0 e.on (hedge i0 _ (by grind) e he hb)⟩;grind
  have hgo:Region.linearise.go .any mops (fuel+1) t listed []=(match (Region.ready .any mops listed)[t % (Region.ready .any mops listed).length]? with
   |some i=>Region.linearise.go .any mops fuel (t / (Region.ready .any mops listed).length) (listed.setIfInBounds i Tt) [i]
   |none=>[].reverse):=by
   rfl
  rw[hgo];cases hi:(Region.ready .any mops listed)[t % (Region.ready .any mops listed).length]? with
  |none=>grind[Nat.mod_lt]
  |some j=>
   simp only[];rw[linearise_go_acc,List.reverse_singleton,List.singleton_append];have hjr:j∈Region.ready .any mops listed:=List.mem_of_getElem? hi;have⟨hj0,o,ho,hal⟩:=mem_ready.1 hjr;have hjn:j<mops.size:=(Q2.1 ho).1;have hjl:j<listed.size:=by omega
   have hj:listed.getD j Ff=false:=by simp at hj0|-;simp[hjl]at hj0|-;exact hj0
   have hset:∀i,(listed.setIfInBounds j Tt).getD i Ff=Tt↔i=j\/listed.getD i Ff=true:=by
    intro i;by_cases e:i=j
    ·subst e;simp;simp[hjl]
    ·rw[getD_set_ne Ff (Q5 e)];simp[e]
   have hjU:j∈U:=(hU j).2 ⟨hjn,hj⟩;have⟨k1,k2,k3⟩:=ih (t / (Region.ready .any mops listed).length) (listed.setIfInBounds j Tt) (U.erase j) (by simpa using hsz) (hnd.erase j) (by rw[List.length_erase_of_mem hjU];omega) (by
    intro i;rw[hnd.mem_erase_iff,hU i];constructor
    ·rintro⟨h1,h2,h3⟩;refine⟨h2,?_⟩;rw[getD_set_ne Ff (Q5 h1)];exact h3
    ·rintro⟨h1,h2⟩;have hne:i≠j:=by
      rintro rfl;have:=(hset i).2 (.inl rfl);rw[this]at h2;cases h2
     rw[getD_set_ne Ff (Q5 hne)]at h2;exact⟨hne,h1,h2⟩)
   refine⟨J9.2 ⟨λhm=>?_,k1⟩,λi=>?_,?_⟩
   ·have:=(k2 j).1 hm;rw[hnd.mem_erase_iff]at this;exact this.1 rfl
   ·rw[Q8,k2 i,hnd.mem_erase_iff];constructor
    ·rintro(rfl|h)
     ·exact hjU
     ·exact h.2
    ·intro h;by_cases e:i=j
     ·exact .inl e
     ·exact .inr ⟨e,h⟩
   ·intro pre j1 post o1 hL ho1 e he hb;cases pre with
    |nil=>have h1:j=j1:=(Q9 hL).1;subst h1;rw[ho]at ho1;cases ho1;exact .inl (hal e he hb)
    |cons x pre=>
     obtain⟨rfl,hL'⟩:=Q9 hL;rcases k3 pre j1 post o1 hL' ho1 e he hb with h|h
     ·rcases(hset e.on).1 h with h|h
      ·exact .inr (by rw[h];exact J8 ..)
      ·exact .inl h
     ·exact .inr (Z0 _ h)
theorem Ix(hedge:∀j o,mops[j]? = So o->∀e∈o.after,Region.binds .any e=Tt->e.on<j)(t:Nat):
  (Region.linearise .any mops t).Nodup/\(∀i,i∈Region.linearise .any mops t↔i<mops.size)/\
   ∀pre j post o,Region.linearise .any mops t=pre++j::post->mops[j]? = So o->∀e∈o.after,Region.binds .any e=Tt->e.on∈pre:=by
 have hlf:∀i,(Array.replicate mops.size Ff).getD i Ff=false:=by simp[Array.getElem?_replicate];grind
 have⟨h1,h2,h3⟩:=Zg hedge mops.size t (Array.replicate mops.size Ff) (List.range mops.size) (by simp) List.nodup_range (by simp) (by grind);refine⟨h1,λi=>by rw[<-List.mem_range];exact h2 i,λpre j post o hL ho e he hb=>(h3 pre j post o hL ho e he hb).resolve_left λh=>?_⟩;grind
theorem sched(hS:bK P S)(hs:ot ops bs)(hR:ji P S nt ops R)(hL:Looks P S ops bs R)(hr0:Rel E H0 (recAt R 0).st)(hn:(recAt R ops.size).st.next<=E.top)(hp:Perm mops ops σ τ):
  ∀(L:List Nat) (D:Nat->Prop),L.Nodup->(∀i,i∈L↔i<ops.size/\¬D i)->
   (∀pre j post o,L=pre++j::post->ops[τ j]? = So o->∀e∈o.after,Region.binds .any e=Tt->D (σ e.on)\/σ e.on∈pre)->
   (∀j,j<ops.size->D (σ j)->∀i,(aV bs j).testBit i=Tt->D (σ i))->
   ∀{p q:Nat}{a:Act}{w:World}{E':Env}{X:St}{β ν:Nat->Nat}{ζ:Nat->Value},Inv ops R nt E H0 (λ_=>False) No (λi=>i<ops.size/\D (σ i)) (λi=>q<=i) p q a w.heap E' X β ν ζ->
   ∃E'' a' w',Step E E'' H0 (World.heap w') (recAt R 0).st (recAt R ops.size).st/\bX E'' nt (recAt R ops.size).t a'.tmps/\a'.defers=a.defers/\(w'.os=w.os/\w'.output=w.output)/\
    Steps P (lone (b.atR a (.inRegion mops L::k)) ks w) (lone (b.atR a' k) ks w'):=by
 intro L;induction L with
 |nil=>
  intro D hnd hLD hord hdown p q a w E' X β ν ζ h;have hall:∀i,i<ops.size->i<ops.size/\D (σ i):=by intro i hi;refine⟨hi,Classical.byContradiction λhc=>?_⟩;have:=(hLD (σ i)).2 ⟨hp.lt i hi,hc⟩;grind
  have hq:q=ops.size:=by
   rcases h.gap.atq with h1|h1
   ·grind
   ·have hlt:q<ops.size:=by obtain⟨o,ho,_⟩:=h1;grind
    exact absurd (hall q hlt) (h.gap.after q (Q0 _) h1)
  subst hq;have hX:∀r,X.get r=(recAt R ops.size).st.get r/\X.live.get r=(recAt R ops.size).st.live.get r:=λr=>
   h.rest r λi h1 h2 ha hno=>absurd ⟨hall i h2,by omega⟩ hno
  refine⟨E',a,w,h.st.ext (λr=>(hX r).1.symm) (λg=>(hX g).2.symm) (by rw[h.next];grind),⟨h.sz,λx=>?_⟩,rfl,⟨rfl,rfl⟩,?_⟩
  ·by_cases hex:∃(i:Nat) (oi:Oper),ops[i]? = So oi/\oi.dst=So x
   ·obtain⟨i,oi,hoi,hdi⟩:=hex;have hin:i<ops.size:=(Q2.1 hoi).1;have hval:ab (recAt R ops.size).t x=(recAt R i).v:=Jy hR hoi hdi ops.size hin (Q0 _) λi' o' h1 h2 h3 h4=>by
     have:=hs.dst hoi h3 hdi h4;omega
    rw[hval];exact h.slotV x i oi (hall i hin) hoi hdi λ⟨_,hq⟩=>by omega
   ·have hno:∀(i:Nat) (oi:Oper),ops[i]? = So oi->oi.dst≠So x:=λi oi h1 h2=>hex ⟨i,oi,h1,h2⟩
    rw[Bw hR ops.size (Q0 _) λi o _=>hno i o];exact h.slot0 x (λh=>h) λi o _=>hno i o
  ·exact Q4 stepR_region_end
 |cons j' L ih=>
  intro D hnd hLD hord hdown p q a w E' X β ν ζ h;obtain⟨hj'n,hj'D⟩:=(hLD j').1 (J8 ..);have hjn:τ j'<ops.size:=hp.tlt j' hj'n;have hsj:σ (τ j')=j':=hp.st j' hj'n;have ho:ops[τ j']? = So ops[τ j']:=by grind
  generalize ops[τ j']=o at ho;obtain⟨o',hmo,hexe,hop,hdst,hwy⟩:=hp.op _ _ ho;rw[hsj]at hmo;have hdn:∀j,(j<ops.size/\D (σ j))->∀i,(aV bs j).testBit i=Tt->i<ops.size/\D (σ i):=λj hj i hb=>by have:=hs.LV j i ops[j] (by grind) hb;grind
  have hrdy:∀i,(aV bs (τ j')).testBit i=Tt->i<ops.size/\D (σ i):=by
   intro i hb;have hlt:=hs.LV _ i o ho hb;refine⟨by omega,?_⟩;obtain⟨e,he,hbi,h1⟩:=hs.bef _ o i ho hb;have hD:D (σ e.on):=(hord [] j' L o rfl ho e he hbi).resolve_right (by simp);rcases h1 with rfl|h1
   ·grind
   ·have:=hs.edge _ o ho e he hbi;exact hdown e.on (by omega) hD i h1
  obtain⟨p',q',a',w',E'',X',β',ν',ζ',hI,hdf,hos,-,hst⟩:=h.NS hS hs hR hL hr0 hn hdn ho (λhd=>hj'D (by grind)) hrdy (λ_ _ h=>h) hmo hexe hop hdst (hwy _) ks L;have hfun:(λi=>i=τ j'\/(i<ops.size/\D (σ i)))=λi=>i<ops.size/\(σ i=j'\/D (σ i)):=funext λi=>propext ⟨λhh=>by
   rcases hh with rfl|hh
   ·exact⟨hjn,.inl hsj⟩
   ·exact⟨hh.1,.inr hh.2⟩,λhh=>by
   rcases hh with ⟨h1,h2|h2⟩
   ·exact .inl (by rw[<-h2,hp.ts i h1])
   ·exact .inr ⟨h1,h2⟩⟩
  rw[hfun]at hI;have hnd':=J9.1 hnd;obtain⟨E3,a3,w3,k1,k2,k3,kos,k4⟩:=ih (λi=>i=j'\/D i) hnd'.2 (by
   intro i;constructor
   ·intro hi;have:=(hLD i).1 (Z0 _ hi);refine⟨this.1,?_⟩;rintro(rfl|hd)
    ·exact hnd'.1 hi
    ·exact this.2 hd
   ·rintro⟨h1,h2⟩;have:=(hLD i).2 ⟨h1,λhd=>h2 (.inr hd)⟩;rcases Q8.1 this with rfl|this
    ·exact absurd (.inl rfl) h2
    ·exact this) (by
   intro pre j post o1 hL1 ho1 e he hb;rcases hord (j'::pre) j post o1 (by rw[hL1];rfl) ho1 e he hb with h1|h1
   ·exact .inl (.inr h1)
   ·rcases Q8.1 h1 with h1|h1
    ·exact .inl (.inl h1)
    ·exact .inr h1) (by
   intro j hj hd i hb;rcases hd with hd|hd
   ·right;have:j=τ j':=by rw[<-hd,hp.ts j hj]
    subst this;exact(hrdy i hb).2
   ·exact .inr (hdown j hj hd i hb)) hI
  exact⟨E3,a3,w3,k1,k2,by rw[k3,hdf],⟨kos.1.trans hos.1,kos.2.trans hos.2⟩,hst.trans k4⟩
theorem QT(hsz:R.length=ops.size+1)(h:fl.all (recheck P S ops R)=Tt)(ho:ops[j]? = So o)(hm:(j,p)∈fl)(hp:p<=ops.size)(hw:(recAt R j).w=Tt):
  ∃u,cC P S (recAt R j).t (recAt R p).st o=So ((recAt R j).v,u):=by
 have h1:=List.all_eq_true.1 h _ hm;have hjn:j<ops.size:=(Q2.1 ho).1;have at':∀i,i<=ops.size->R[i]? = So (recAt R i):=by grind[recAt]
 unfold recheck at h1;rw[at' j (by omega),at' p hp]at h1;simp[ho,E8,hw]at h1;unfold Fk at h1;split at h1
 ·rcases Bool.or_eq_true _ _▸h1 with h1|h1
  ·grind[Um]
  ·have h1:@decide _ (Classical.propDecidable _)=true:=h1;grind
 grind
theorem Hu(hS:bK x.P x.S){id:Nat}(hper:Perm mops ops σ τ)
  (hedge:∀j o,mops[j]? = So o->∀e∈o.after,Region.binds .any e=Tt->e.on<j) {a:Act} (hr:Rel E w.heap st) (ht:bX E x.nt t a.tmps) (hm:Marks n0 b.defers E w.heap st a.defers)
  (hlin:∀pre j post o,Region.linearise .any mops (w.tape w.drawn (.order b.fn id))=pre++j::post->ops[τ j]? = So o->∀e∈o.after,Region.binds .any e=Tt->σ e.on∈pre) (hp:kQ ops=So fl) (hl:(nG x.P x.S ops fl (cj x.P x.S x.nt ops ops.toList t st)).lim E.top):cL x.P ks n0 E x.nt b w st (lone (b.atR a (.code (.region id mops Tt)::k)) ks w) k (nG x.P x.S ops fl (cj x.P x.S x.nt ops ops.toList t st)):=by
 unfold kQ at hp;cases hb:kJ ops.toList [] with
 |none=>grind
 |some bs=>
  rw[hb]at hp;simp only at hp;cases hd:uX ops bs [] ops.toList bs with
  |false=>grind
  |true=>
   rw[hd]at hp;simp at hp;generalize hks:ops.toList.map (λo=>kind o.op)=ks at hp;have hks':∀(i:Nat) (o:Oper),ops[i]? = So o->ks[i]? = So (kind o.op):=by grind
   have hksr:∀(i m:Nat),ks[i]? = So m->∃o,ops[i]? = So o/\kind o.op=m:=by grind
   have hfl:=hp;unfold nG at hl|-;cases hrc:cj x.P x.S x.nt ops ops.toList t st with
   |none=>trivial
   |some R=>
    rw[hrc]at hl;simp only at hl|-;cases hall:fl.all (recheck x.P x.S ops R)with
    |false=>trivial
    |true=>
     rw[hall]at hl;obtain⟨e1,e2,e3,e4⟩:=Fa hrc;have hsz:R.length=ops.size+1:=by grind
     rw[Iu hsz]at hl|-;have hn:(recAt R ops.size).st.next<=E.top:=hl;have hs:=settled hb hd;have hR:ji x.P x.S x.nt ops R:=λi o ho=>e4 i o (by grind)
     have hL:Looks x.P x.S ops bs R:=by
      intro j p o ho hk hw hp;have hpn:p<=ops.size:=by
       rcases hp with rfl|⟨kk,rfl,o',h1,_⟩
       ·omega
       ·have:=(Q2.1 h1).1;omega
      cases hpin:pinned ks bs j p with
      |true=>
       unfold pinned at hpin;simp at hpin;rcases hpin with h1|h1|⟨h1,h2⟩
       ·grind
       ·obtain⟨i,k1,k2,k3⟩:=Gx h1;obtain⟨o',k4,k5⟩:=hksr i 3 k1;exact .inr (.inl ⟨i,⟨o',k4,k5⟩,by omega,by grind⟩)
       grind[Z9,GY]
      |false=>
       refine .inr (.inr (.inr (QT hsz hall ho ?_ hpn hw)));rw[<-hfl];have hmem:p∈(0::qg ks 0):=by
        rcases hp with rfl|⟨kk,rfl,o',h1,h2⟩
        ·simp
        ·have hk3:ks[kk]? = So 3:=by grind
         have:=JV (k:=0) hk3;grind
       have:=HT (ks:=ks) (bs:=bs) (l:=ks) (k:=0) (j:=j) (by grind) hmem (by grind);grind
     have hr0:Rel E w.heap (recAt R 0).st:=by grind
     obtain⟨q,n1,n2,n3,n4⟩:=Ek ops ops.size 0 (by omega);obtain⟨g1,g2⟩:=Bv hS.up hR q n1 n2 n3
     let X:St:=⟨(recAt R 0).st.rows,(recAt R 0).st.live,(recAt R q).st.next⟩
     have hI:Inv ops R x.nt E w.heap (λ_=>False) No (λi=>i<ops.size/\False) (λi=>q<=i) 0 q a w.heap E X (λ_=>0) (λ_=>0) (λ_=>undef):=by
      refine⟨(Step.refl hr0).ext (λ_=>rfl) (λ_=>rfl) (nW hS.up hR n1 n2),ht.1,λx i o hd=>hd.2.elim,λx i o hd=>hd.2.elim,λy _ _=>?_,⟨n1,n2,λi o h=>by omega,n3,n4,λi _ _ hd=>hd.2,.inl rfl⟩,rfl,?_,?_,?_,?_,λi hd=>hd.2.elim,λi i' hd=>hd.2.elim,λb ob hb=>by cases hb⟩
      ·rw[e2];exact ht.2 y
      ·intro r h;exact⟨hr0.freshRow r h,hr0.freshG r h⟩
      ·intro g al hg y hy;exact hr0.liveLt g al y hg hy
      ·intro i h1 h2 ha _;have hge:(recAt R 0).st.next<=rowAt R i:=nW hS.up hR h1 (Q3 ha.lt);have hlt:=xf hS.up hR ha h2 n2;have hq:=nW hS.up hR n2 (Q0 _);exact⟨hr0.freshRow _ hge,hr0.freshG _ hge,hr0.fresh _ hge (by omega)⟩
      ·intro r h;have:=g1 r λi h1 h2 ha=>h i h1 h2 ha (λ⟨h3,_⟩=>h3.2)
       exact⟨this.1.symm,this.2.symm⟩
     obtain⟨l1,l2,l3⟩:=Ix hedge (w.tape w.drawn (.order b.fn id));obtain⟨E'',a',w',k1,k2,k3,kos,k4⟩:=sched hS hs hR hL hr0 hn hper (Region.linearise .any mops (w.tape w.drawn (.order b.fn id))) (λ_=>False) l1 (λi=>by rw[l2,hper.size];simp) (by intro pre j post o hL1 ho e he hbi;right;exact hlin pre j post o hL1 ho e he hbi) (λj _ hd=>hd.elim) (w:={w with drawn:=w.drawn+1}) hI;rw[e3]at k1;refine⟨E'',a',w',⟨k1,kos.1,kos.2⟩,k2,by rw[k3];exact hm.step k1,?_⟩;refine(Q4 stepR_region_draw).trans ?_;have hsch:Region.schedule (x.P.follows .mixedOrders) mops (w.tape w.drawn (.order b.fn id))=Region.linearise .any mops (w.tape w.drawn (.order b.fn id)):=by simp[Region.schedule,hS.mixed]
     rw[hsch];omega
theorem MR(hS:bK x.P x.S){id:Nat}(hper:Perm mops ops σ τ)
  (hedge:∀j o,mops[j]? = So o->∀e∈o.after,Region.binds .any e=Tt->e.on<j)
  (hord:∀j o o',mops[j]? = So o'->ops[τ j]? = So o->∀e∈o.after,Region.binds .any e=Tt->∃e'∈o'.after,Region.binds .any e'=Tt/\e.on=τ e'.on) {a:Act} (hr:Rel E w.heap st) (ht:bX E x.nt t a.tmps) (hm:Marks n0 b.defers E w.heap st a.defers) (hp:kQ ops=So fl) (hl:(nG x.P x.S ops fl (cj x.P x.S x.nt ops ops.toList t st)).lim E.top):cL x.P ks n0 E x.nt b w st (lone (b.atR a (.code (.region id mops Tt)::k)) ks w) k (nG x.P x.S ops fl (cj x.P x.S x.nt ops ops.toList t st)):=by
 have⟨l1,l2,l3⟩:=Ix hedge (w.tape w.drawn (.order b.fn id));refine Hu hS hper hedge hr ht hm (λpre j post o hL1 ho e he hbi=>?_) hp hl;have hjm:j<mops.size:=(l2 j).1 (by grind);have⟨e',he',hbi',h1⟩:=hord j o mops[j] (by grind) ho e he hbi;rw[h1,hper.st _ (by rw[<-hper.size];grind)];grind
theorem MV(hb:kJ ops.toList []=So bs):∀j o,ops[j]? = So o->∀e∈o.after,Region.binds .any e=Tt->e.on<j:=by have⟨_,_,h3⟩:=CM hb;simp_all
theorem Wh(hS:bK x.P x.S){id:Nat}{a:Act}(hr:Rel E w.heap st)(ht:bX E x.nt t a.tmps)(hm:Marks n0 b.defers E w.heap st a.defers)(hp:kQ ops=So fl)(hl:(Ah x.P x.S x.nt ops t st (So fl)).lim E.top):cL x.P ks n0 E x.nt b w st (lone (b.atR a (.code (.region id ops Tt)::k)) ks w) k (Ah x.P x.S x.nt ops t st (So fl)):=by
 have hb:∃bs,kJ ops.toList []=So bs:=by grind[kQ]
 have⟨bs,hb⟩:=hb;exact MR hS .refl (MV hb) (λj o o' h1 h2 e he hbi=>by grind) hr ht hm hp hl
theorem QY{ops:Array Oper}{τ:List Nat}:∀{σ:List Nat}{l:List Oper},reorder ops τ σ=So l->l.length=σ.length/\∀i o,l[i]? = So o->∃o',ops[aV σ i]? = So o'/\o=JC τ o'
 |[],l,h=>by cases h;grind
 |s::σ,l,h=>by
  unfold reorder at h;cases ho:ops[s]? with
  |none=>grind
  |some o'=>
   cases hr:reorder ops τ σ with
   |none=>grind
   |some r=>have⟨h1,h2⟩:=QY hr;grind[aV]
theorem Qi{n:Nat}{σ τ:List Nat}:∀{k:Nat},Bn n σ τ k=Tt->∀i,i<k->aV σ i<n/\aV τ i<n/\aV σ (aV τ i)=i/\aV τ (aV σ i)=i
 |0,_,i,hi=>by omega
 |k+1,h,i,hi=>by
  unfold Bn at h;simp at h;by_cases e:i=k
  ·grind
  ·exact Qi h.2 i (by omega)
theorem N5{n:Nat}:∀{l:List Oper},AC n l=Tt->∀o∈l,∀(g:Nat×Bool),o.guard=So g->g.1<n
 |[],_,o,ho=>by grind
 |x::l,h,o,ho=>by
  unfold AC at h;simp at h;rcases Q8.1 ho with rfl|ho
  ·intro g hg;simp_all[N2]
  ·exact N5 h.2 o ho
theorem abT(τ:List Nat)(g:Option (Nat×Bool)):QX τ g=g.map λg=>(aV τ g.1,g.2):=by cases g<;>rfl
theorem Qo{σ:List Nat}(hb:kJ ops.toList []=So bs)(h:EL ops σ=So m):kQ m.pops=So m.fl/\Perm ops m.pops (aV m.σ) (aV m.τ)/\
  (∀j o,ops[j]? = So o->∀e∈o.after,Region.binds .any e=Tt->e.on<j)/\
  ∀j o o',ops[j]? = So o'->m.pops[aV m.τ j]? = So o->∀e∈o.after,Region.binds .any e=Tt->∃e'∈o'.after,Region.binds .any e'=Tt/\e.on=aV m.τ e'.on:=by
 simp[EL,Qp]at h;generalize (List.range ops.size).map (λi=>Ij i σ 0)=τ at h;unfold Qq at h;cases hre:reorder ops τ σ with
 |none=>grind
 |some l=>
  rw[hre]at h;simp only at h;unfold Qr at h;cases hpl:kQ l.toArray with
  |none=>grind
  |some fl=>
   rw[hpl]at h;cases hc:(Nat.beq l.toArray.size ops.size&&(Bn ops.size σ τ ops.size&&AC ops.size ops.toList))with
   |false=>grind
   |true=>
    rw[hc]at h;cases h;simp only[Z3,Nat.beq_eq]at hc;have⟨hsz,hpo,hgi⟩:=hc;have hP:=Qi hpo;have⟨r1,r2⟩:=QY hre;have hl:∀(i:Nat) (o:Oper),l.toArray[i]? = So o->∃o',ops[aV σ i]? = So o'/\o=JC τ o':=λi o hi=>r2 i o (by grind)
    refine⟨hpl,⟨hsz.symm,λi hi=>?_,λi hi=>?_,λi hi=>?_,λi hi=>?_,λi o ho=>?_⟩,MV hb,λj o o' ho' ho e he hbi=>?_⟩
    ·grind
    ·grind
    ·grind
    ·grind
    ·obtain⟨o',h1,rfl⟩:=hl i o ho;refine⟨o',h1,λρ=>rfl,rfl,rfl,adW (abT τ o'.guard) λg hg=>?_⟩;have hgn:=N5 hgi o' (Q6.2 (K8 h1)) g hg;have hτ:=(hP g.1 hgn).2.1;obtain⟨o2,h2⟩:∃o2,l.toArray[aV τ g.1]? = So o2:=⟨_,Z4 (by omega)⟩;obtain⟨o3,h3,rfl⟩:=hl _ _ h2;rw[(hP g.1 hgn).2.2.1]at h3;rw[h2,h3];rfl
    ·obtain⟨o2,h2,rfl⟩:=hl _ _ ho;have hj:j<ops.size:=(Q2.1 ho').1;rw[(hP j hj).2.2.1,ho']at h2;cases h2;have he':e∈(o'.after.toList.map (QW τ)).toArray:=he;rw[J1,J3]at he';obtain⟨e',h4,rfl⟩:=he';exact⟨e',Q6.1 h4,hbi,rfl⟩
theorem abc(h:tK ops=So m):kQ m.pops=So m.fl/\Perm ops m.pops (aV m.σ) (aV m.τ)/\
  (∀j o,ops[j]? = So o->∀e∈o.after,Region.binds .any e=Tt->e.on<j)/\
  ∀j o o',ops[j]? = So o'->m.pops[aV m.τ j]? = So o->∀e∈o.after,Region.binds .any e=Tt->∃e'∈o'.after,Region.binds .any e'=Tt/\e.on=aV m.τ e'.on:=by
 grind[tK,Qo]
theorem abb{x:Nat}(h:Bo ops x y=So m):kQ m.pops=So m.fl/\Perm ops m.pops (aV m.σ) (aV m.τ)/\
  (∀j o,ops[j]? = So o->∀e∈o.after,Region.binds .any e=Tt->e.on<j)/\
  ∀j o o',ops[j]? = So o'->m.pops[aV m.τ j]? = So o->∀e∈o.after,Region.binds .any e=Tt->∃e'∈o'.after,Region.binds .any e'=Tt/\e.on=aV m.τ e'.on:=by
 grind[Bo,Qo]
theorem Wj(hS:bK x.P x.S){id:Nat}{a:Act}(hr:Rel E w.heap st)(ht:bX E x.nt t a.tmps)(hm:Marks n0 b.defers E w.heap st a.defers)
  (hl:(Ai x.P x.S x.nt t st (tK ops)).lim E.top):cL x.P ks n0 E x.nt b w st (lone (b.atR a (.code (.region id ops Tt)::k)) ks w) k (Ai x.P x.S x.nt t st (tK ops)):=by
 cases hp:tK ops with
 |none=>trivial
 |some m=>rw[hp]at hl;have⟨h1,h2,h3,h4⟩:=abc hp;exact MR hS h2 h3 h4 hr ht hm h1 hl
section
variable {l:List Oper}
@[simp] theorem adj(t:Tr AV)(n m:Nat)(v:AV):ab (t.set n (So v)) m=if m=n then v else ab t m:=by unfold ab;rw[Tr.cW];by_cases h:m=n<;>simp[h]
@[simp] theorem ahq(m:Nat):ab .lf m=.un:=by unfold ab;rw[Tr.vm]
@[simp] theorem afy(t:Tr AV)(k:Nat):ah t (.tmp k)=ab t k:=rfl
@[simp] theorem Nd(t:Tr AV)(k:IntKind)(n:Int):ah t (.const (.int k n))=.i k n:=rfl
@[simp] theorem afr(t:Tr AV)(b:Bool):ah t (.const (.bool b))=.b b:=rfl
@[simp] theorem Ws(t:Tr AV):ah t (.const (.pointer No))=.pn:=rfl
@[simp] theorem afx(t:Tr AV):ah t (.const (.slice No 0 0))=.sn:=rfl
@[simp] theorem afs(t:Tr AV):ah t (.const (.chan No))=.cn:=rfl
@[simp] theorem afu(t:Tr AV)(f:FuncId):ah t (.func f)=.f (.func f) [] []:=rfl
@[simp] theorem aeP(t:Tr AV):args t []=[]:=rfl
@[simp] theorem aeO(t:Tr AV)(o:Operand)(l:List Operand):args t (o::l)=ah t o::args t l:=rfl
@[simp] theorem afq:ao .skip x t st=.nx t st:=rfl
def wU(l:List Oper):Bool:=match l with
 |[o]=>match o.op with|.alloc _=>Ff|_=>Tt
 |_=>Tt
theorem abP(h:wU ops.toList=Tt):oV x ops t st=bw x.P x.S x.nt ops ops.toList t st:=by
 unfold oV;split
 ·rename_i o e;unfold Fe;split
  ·rename_i e' ho;simp only[wU,ho]at h;grind
  ·rfl
 ·rfl
theorem abR(h:ops.toList=[o])(ho:o.op=.alloc e)(hs:yY x.P e=Ff):oV x ops t st=bw x.P x.S x.nt ops ops.toList t st:=by
 unfold oV;split
 ·rename_i o' e';rw[h]at e';cases e';unfold Fe;split
  ·rename_i e1 ho1;rw[ho]at ho1;cases ho1;unfold JB;split
   ·unfold xe;rw[hs]
   ·rfl
  ·rfl
 ·rfl
def kN(o:Op):Bool:=match o with|.alloc _=>Tt|_=>Ff
theorem nP{o:Op}(h:∀e,o≠.alloc e):kN o=false:=by unfold kN;grind
@[simp] theorem afM:kN (.assign a)=false:=nP (by grind)
@[simp] theorem afV:kN (.move a)=false:=nP (by grind)
@[simp] theorem afN{b:Operand}{t u:TypeId}:kN (.binOp op t a b u)=false:=nP (by grind)
@[simp] theorem afY{op:UnOp}{t:TypeId}:kN (.unOp op t a)=false:=nP (by grind)
@[simp] theorem afO{t:TypeId}:kN (.box t a)=false:=nP (by grind)
@[simp] theorem afP{c:Call}:kN (.call c)=false:=nP (by grind)
@[simp] theorem afX{t:TypeId}{b:Operand}:kN (.store t a b)=false:=nP (by grind)
@[simp] theorem afR{t:TypeId}:kN (.load t a)=false:=nP (by grind)
@[simp] theorem afU{t:TypeId}{b:Operand}:kN (.mapUpdate t a b c)=false:=nP (by grind)
@[simp] theorem afS{t:TypeId}{b:Operand}{c:Bool}:kN (.lookup t a b c)=false:=nP (by grind)
@[simp] theorem afQ:kN (.extract a n)=false:=nP (by grind)
@[simp] theorem afT{t:TypeId}{a:Option Operand}:kN (.makeMap t a)=false:=nP (by grind)
@[simp] theorem afW{t:TypeId}:kN (.range t a)=false:=nP (by grind)
@[simp] theorem ahb:wU []=true:=by exact id rfl
@[simp] theorem ahc:wU [o]=!kN o.op:=by unfold wU kN;simp only;split<;>exact id rfl
@[simp] theorem ahd{p:Oper}{l:List Oper}:wU (o::p::l)=true:=by exact id rfl
theorem HG{id:Nat}:ao (.region id ops Ff) x t st=oV x ops t st:=rfl
theorem ba{b:Code}:ao (.loop b) x t st=aQ (ao b x) x.n t st:=rfl
@[simp] theorem afn{id:Nat}(h:wU ops.toList=Tt):ao (.region id ops Ff) x t st=bw x.P x.S x.nt ops ops.toList t st:=abP h
theorem aY{id:Nat}:ao (.region id ops Tt) x t st=qW x ops t st:=rfl
@[simp] theorem afp{a b:Code}:ao (.seq a b) x t st=bW (ao a x t st) (ao b x):=rfl
@[simp] theorem afl{a b:Code}:ao (.cond c a b) x t st=wB (ao a x) (ao b x) t st (ah t c):=rfl
@[simp] theorem afk{id:Nat}{b:Code}:ao (.block id b) x t st=pL id (ao b x t st):=rfl
@[simp] theorem afm{id:Nat}:ao (.exit id) x t st=.ex id t st:=rfl
@[simp] theorem afo:ao .ret x t st=.rt t st:=rfl
@[simp] theorem dN(k:Tr AV->St->Out):bW (.nx t st) k=k t st:=rfl
@[simp] theorem ahr(k:Tr AV->St->Out)(i:Nat):bW (.ex i t st) k=.ex i t st:=rfl
@[simp] theorem adk(k:Tr AV->St->Out):bW (.rt t st) k=.rt t st:=rfl
@[simp] theorem aff(a b:Tr AV->St->Out)(c:Bool):wB a b t st (.b c)=if c=Tt then a t st else b t st:=by cases c<;>rfl
@[simp] theorem ae1(id:Nat):pL id (.nx t st)=.nx t st:=rfl
@[simp] theorem ae2(id:Nat):pL id (.rt t st)=.rt t st:=rfl
@[simp] theorem ae0(id i:Nat):pL id (.ex i t st)=if i=id then .nx t st else .ex i t st:=by unfold pL;simp[bh];by_cases h:i=id<;>simp[h]
theorem tw(b:Tr AV->St->Out)(n:Nat):aQ b (n+1) t st=bW (b t st) (aQ b n):=rfl
@[simp] theorem afz:bw P S nt ops [] t st=.nx t st:=rfl
@[simp] theorem Wu{op:Op}:bw P S nt ops (⟨d,op,ty,pos,af,No⟩::l) t st=oS nt t d (cO op P S t st) (bw P S nt ops l):=rfl
@[simp] theorem Nf{op:Op}{b:Bool}:bw P S nt ops (⟨d,op,ty,pos,af,So (j,b)⟩::l) t st =
  mc P S nt ⟨d,op,ty,pos,af,So (j,b)⟩ t st (bw P S nt ops l) (tj ops t j b):=rfl
@[simp] theorem agF{k:Tr AV->St->Out}:oS nt t d (So (v,st')) k=iz (dE nt t d v) λt=>k t st':=rfl
@[simp] theorem PZ{k:Tr AV->Out}:iz (So t) k=k t:=Tr.seen_eq t k
@[simp] theorem ahe:dE nt t No v=So t:=rfl
@[simp] theorem ahf{d:Tmp}:dE nt t (So d) v=if d<nt then So (t.set d (So v)) else none:=by
 unfold dE;simp[AV.seen_eq];by_cases h:d<nt
 ·rw[if_pos h,show Nat.blt d nt=Tt by simpa using h]
 ·rw[if_neg h,show Nat.blt d nt=Ff by rw[Bool.eq_false_iff];simpa using h]
@[simp] theorem agD{k:Tr AV->St->Out}:mc P S nt o t st k (So Tt)=oS nt t o.dst (cO o.op P S t st) k:=rfl
@[simp] theorem agC{k:Tr AV->St->Out}:mc P S nt o t st k (So Ff)=iz (dE nt t o.dst .un) λt=>k t st:=rfl
@[simp] theorem afD{b:Bool}:tj ops t j b=match ops.toList[j]? with|some g=>(match g.dst with|some d=>AB b (t.get d)|none=>No)|none=>none:=by unfold tj;rw[Q7];cases ops[j]? <;> rfl
@[simp] theorem afE{b:Bool}{d:Tmp}:AB b (t.get d)=match ab t d with|.b y=>So (y==b)|.un=>So Ff|_=>none:=by
 unfold ab;cases h:t.get d with
 |none=>rfl
 |some v=>cases v<;>rfl
@[simp] theorem agZ:cO (.move a) P S t st=So (ah t a,st):=rfl
@[simp] theorem agI:cO (.assign a) P S t st=So (ah t a,st):=rfl
@[simp] theorem ag1{b:Operand}:cO (.pick c a b) P S t st=rJ (ah t a) (ah t b) st (ah t c).gH:=rfl
@[simp] theorem aha(a b:AV)(c:Bool):rJ a b st (So c)=So (if c=Tt then a else b,st):=by cases c<;>rfl
@[simp] theorem aeQ(c:Bool):(AV.b c).gH=So c:=rfl
@[simp] theorem ag0:cO (.nilCheck a) P S t st=notNil st (ah t a):=rfl
@[simp] theorem agd(r o:Nat):notNil st (.p r o)=So (.p r o,st):=rfl
@[simp] theorem age(c:List AV):notNil st (.rp c)=So (.rp c,st):=rfl
@[simp] theorem agP{s:TypeId}:cO (.fieldAddr s a n) P S t st=match bE P s n with|some o=>fieldAt o st (ah t a)|none=>none:=rfl
@[simp] theorem afA(r k o:Nat):fieldAt o st (.p r k)=So (.p r (k+o),st):=rfl
@[simp] theorem afB(c:List AV)(o:Nat):fieldAt o st (.rp c)=So (.rp (c.drop o),st):=rfl
@[simp] theorem agT:cO (.load ty a) P S t st=cX st (loadAt P ty st (ah t a)):=rfl
@[simp] theorem afC:cX st (So v)=So (v,st):=rfl
theorem ry{o:Nat}(h:aN P ty=Tt)(ha:cw P ty=Ff):loadAt P ty st (.p r o)=oneOf (rd st r o 1):=by unfold loadAt;rw[h,ha];rfl
theorem wN{c:List AV}(h:aN P ty=Tt)(ha:cw P ty=Ff):loadAt P ty st (.rp c)=oneOf (cut c 0 1):=by unfold loadAt;rw[h,ha];rfl
theorem cu{o:Nat}(h:aN P ty=Tt)(ha:cw P ty=Tt):loadAt P ty st (.p r o)=uA (rd st r o (aq P ty)):=by unfold loadAt;rw[h,ha];rfl
theorem Pa{c:List AV}(h:aN P ty=Tt)(ha:cw P ty=Tt):loadAt P ty st (.rp c)=uA (cut c 0 (aq P ty)):=by unfold loadAt;rw[h,ha];rfl
theorem ai{o:Nat}{l:List AV}(h:st.ce r=So (l,g,al)):rd st r o n=cut l o n:=by unfold rd;rw[h]
@[simp] theorem eV(l:List AV)(n:Nat):cut l 0 n=takeN n l:=by cases l<;>rfl
@[simp] theorem VW(v:AV)(l:List AV)(o n:Nat):cut (v::l) (o+1) n=cut l o n:=rfl
@[simp] theorem ahp(l:List AV):takeN 0 l=So []:=by cases l<;>rfl
@[simp] theorem aho(v:AV)(l:List AV):takeN 1 (v::l)=So [v]:=by cases l<;>rfl
@[simp] theorem agG(v:AV):oneOf (So [v])=So v:=rfl
@[simp] theorem aar{b:Operand}:cO (.store ty a b) P S t st=done (storeAt P ty st (ah t a) (ah t b)):=rfl
@[simp] theorem afh:done (So st')=So (.un,st'):=rfl
theorem bN(h:aN P ty=Tt)(hs:aq P ty=1):∀(st:St) (r o:Nat) (v:AV),v.cells=So [v]->storeAt P ty st (.p r o) v=wt st r o [v]:=by
 intro st r o v hv;show vO P ty st r o v.cells=_
 rw[hv];simp[vO,h,hs]
@[simp] theorem CZ(k:IntKind)(n:Int):(.i k n:AV).cells=So [.i k n]:=by rw[AV.nD]
@[simp] theorem af1(k:IntKind)(n:Int):bR (.i k n)=true:=rfl
@[simp] theorem ae5(x:Bool):(.b x:AV).cells=So [.b x]:=by rw[AV.nD]
@[simp] theorem afZ(x:Bool):bR (.b x)=true:=rfl
@[simp] theorem ae8(r o:Nat):(.p r o:AV).cells=So [.p r o]:=by rw[AV.nD]
@[simp] theorem af4(r o:Nat):bR (.p r o)=true:=rfl
@[simp] theorem ae9 : (.pn:AV).cells=So [.pn]:=by rw[AV.nD]
@[simp] theorem af5 : bR (.pn)=true:=rfl
@[simp] theorem afd : (.sn:AV).cells=So [.sn]:=by rw[AV.nD]
@[simp] theorem aga : bR (.sn)=true:=rfl
@[simp] theorem afb(c:List AV)(n z:Nat):(.rs c n z:AV).cells=So [.rs c n z]:=by rw[AV.nD]
@[simp] theorem af7(c:List AV)(n z:Nat):bR (.rs c n z)=true:=rfl
@[simp] theorem afa(c:List AV):(.rp c:AV).cells=So [.rp c]:=by rw[AV.nD]
@[simp] theorem af6(c:List AV):bR (.rp c)=true:=rfl
@[simp] theorem ae6(r:Nat):(.c r:AV).cells=So [.c r]:=by rw[AV.nD]
@[simp] theorem af0(r:Nat):bR (.c r)=true:=rfl
@[simp] theorem afc(r o n z:Nat)(c:Option Nat):(.sl r o n z c:AV).cells=So [.sl r o n z c]:=by rw[AV.nD]
@[simp] theorem af9(r o n z:Nat)(c:Option Nat):bR (.sl r o n z c)=true:=rfl
@[simp] theorem C0(l:List Nat):(.s l:AV).cells=So [.s l]:=by rw[AV.nD]
@[simp] theorem af8(l:List Nat):bR (.s l)=true:=rfl
@[simp] theorem Mr(r:Nat):(.m r:AV).cells=So [.m r]:=by rw[AV.nD]
@[simp] theorem af2(r:Nat):bR (.m r)=true:=rfl
@[simp] theorem ae7 : (.mn:AV).cells=So [.mn]:=by rw[AV.nD]
@[simp] theorem af3 : bR (.mn)=true:=rfl
@[simp] theorem gh(l:List AV):(AV.ag l).cells=So l:=by rw[AV.nD]
@[simp] theorem aeM:bH []=true:=rfl
@[simp] theorem aeL(v:AV)(l:List AV):bH (v::l)=(bR v&&bH l):=by show(@Bool.rec (λ_=>Bool) Ff (bH l) (bR v))=_;cases bR v<;>rfl
@[simp] theorem pY(l vs:List α):aW l 0 vs=over l vs:=by cases l<;>rfl
@[simp] theorem ag8(x:α)(l vs:List α)(o:Nat):aW (x::l) (o+1) vs=x::aW l o vs:=rfl
@[simp] theorem ag7(l:List α):over l []=l:=by cases l<;>rfl
@[simp] theorem aaL(x v:α)(l vs:List α):over (x::l) (v::vs)=v::over l vs:=rfl
def St.aG(st:St)(r:Nat)(l:List AV)(g:Nat):St:=⟨st.rows.set r (So (.ce l g)),st.live.set g (So [r]),st.next⟩
theorem c9{l:List AV}(h:st.ce r=So (l,g,al)):∀(o:Nat) (vs:List AV),o+vs.length<=l.length->bH vs=Tt->wt st r o vs=So (st.aG r (aW l o vs) g):=by intro o vs hl hv;unfold wt;rw[h];have:Nat.ble (o+vs.length) l.length=true:=Z5 hl;simp[this,hv];rfl
@[simp] theorem agJ{b:Operand}:cO (.binOp op ty a b y0) P S t st=cX st (binOp P ty (kh a||kh b) op (ah t a) (ah t b)):=rfl
@[simp] theorem ag6{op:UnOp}:cO (.unOp op y0 a) P S t st=cX st (Go.Ev.unOp op (ah t a)):=rfl
@[simp] theorem ahu(b:Bool):Go.Ev.unOp .not (.b b)=So (.b !b):=rfl
section
variable {c:Bool}{k:IntKind}{a b:Int}
theorem OF(k:IntKind):tv k k=true:=by simp[tv]
theorem uJ:binOp P ty c op (.i k a) (.i k b)=AH op k a k b (Il op k a b):=by
 show AH op k a k b (BE op k a k b)=_
 unfold BE;rw[OF]
@[simp] theorem aeS:binOp P ty c .add (.i k a) (.i k b)=So (.i k (wr k (a+b))):=uJ
@[simp] theorem aeZ:binOp P ty c .sub (.i k a) (.i k b)=So (.i k (wr k (a-b))):=uJ
@[simp] theorem aeX:binOp P ty c .lss (.i k a) (.i k b)=So (.b (decide (a<b))):=by rw[uJ];show So (AV.b (lH a b))=_;rw[nM]
@[simp] theorem aeV:binOp P ty c .gtr (.i k a) (.i k b)=So (.b (decide (b<a))):=by rw[uJ];show So (AV.b (lH b a))=_;rw[nM]
@[simp] theorem aeW:binOp P ty c .leq (.i k a) (.i k b)=So (.b (decide (a<=b))):=by rw[uJ];show So (AV.b (!lH b a))=_;rw[nM];by_cases h:a<=b<;>simp[h]<;>omega
@[simp] theorem aeU:binOp P ty c .geq (.i k a) (.i k b)=So (.b (decide (b<=a))):=by rw[uJ];show So (AV.b (!lH a b))=_;rw[nM];by_cases h:b<=a<;>simp[h]<;>omega
@[simp] theorem aeT:binOp P ty c .eql (.i k a) (.i k b)=So (.b (decide (a=b))):=by rw[uJ];show So (AV.b (oJ a b))=_;rw[rh]
@[simp] theorem aeY:binOp P ty c .neq (.i k a) (.i k b)=So (.b (decide (a≠b))):=by rw[uJ];show So (AV.b (!oJ a b))=_;rw[rh];simp
end
theorem aP{n:Int}(h1:-9223372036854775808<=n)(h2:n<=9223372036854775807):wr .i64 n=n:=by grind[xJ,IntWalk.i64_in]
@[simp] theorem agL{f:FuncId}{az:Array Operand}{ts:Array TypeId}:cO (.call {callee:=.value (.func f),args:=az,argTypes:=ts}) P S t st=pN P S f (args t az.toList) st:=by
 show sY P S st (args t az.toList) (.f (.func f) [] [])=_
 simp[sY]
theorem uP{fn:Func}{c:Code}{az:List AV}(h:P.funcs[f]? = So fn)(hb:fn.body=So c):pN P S f az st=S.call f az st:=by grind[pN,CU]
@[simp] theorem agS{az:Array Operand}{ts:Array TypeId}:cO (.call {callee:=.builtin .len,args:=az,argTypes:=ts}) P S t st=cP P st ts.toList (args t az.toList):=rfl
theorem bg(h:P.underlying ty=So (.slice e))(hl:lenOf v=So n)(ht:kO v=Ff):cP P st [ty] [v]=So (.i .i64 (n:Int),st):=by simp[cP,qQ,h,hl,ht,int64]
@[simp] theorem agO:cO (.extract a n) P S t st=nth n st (ah t a):=rfl
@[simp] theorem agf(l:List AV)(n:Nat):nth n st (.tu l)=cX st l[n]?:=rfl
@[simp] theorem agR{b:Operand}:cO (.indexAddr ty a b) P S t st=cX st (indexAddr P ty (ah t a) (ah t b)):=rfl
theorem dP(he:P.underlying ty=So (.slice e))(hi:aN P e=Tt)(hz:aq P e=z):∀(c:List AV) (n k:Nat),k<n->indexAddr P ty (.rs c n z) (.i .i64 (k:Int))=So (.rp (c.drop (k*z))):=by
 intro c n k hk;show(match dO P ty with|some e=>(@Bool.rec (λ_=>_) No (So (AV.rp (c.drop (k*z)))) (Nat.blt k n&&aN P e&&Nat.beq (aq P e) z))|none=>No)=_
 have:Nat.blt k n=true:=Z5 hk;simp[dO,he,this,hi,hz]
theorem wH(he:P.underlying ty=So (.slice e))(hi:aN P e=Tt)(hz:aq P e=z):∀(r o n k:Nat) (c:Option Nat),k<n->indexAddr P ty (.sl r o n z c) (.i .i64 (k:Int))=So (.p r (o+k*z)):=by
 intro r o n k c hk;show(match dO P ty with|some e=>(@Bool.rec (λ_=>_) No (So (AV.p r (o+k*z))) (Nat.blt k n&&aN P e&&Nat.beq (aq P e) z))|none=>No)=_
 have:Nat.blt k n=true:=Z5 hk;simp[dO,he,this,hi,hz]
theorem x8{l:List AV}(h:st.ce r=So (l,g,al)):st.get r=So (.ce l g)/\st.live.get g=So al/\mem r al=true:=by grind[St.ce,dH]
theorem Hb{l:List AV}(h:st.ce r=So (l,g,al)):st.get r=So (.ce l g):=(x8 h).1
theorem dA(r:Nat)(l:List AV)(g:Nat):(st.aG r l g).ce r=So (l,g,[r]):=by simp_all[St.aG,St.ce,St.get,Tr.cW,mem]
theorem BI{l:List AV}(h:r'≠r):(st.aG r l g).get r'=st.get r':=by simp[St.aG,St.get,Tr.cW,h]
theorem yO(r:Nat)(w:Row):(st.put r w).get r=So w:=by rw[St.get_put,if_pos rfl]
structure zF(A:List Nat)(st st':St):Prop where
 next:st.next<=st'.next
 get:∀r,r<st.next->r∉A->st'.get r=st.get r
 live:∀g,g<st.next->g∉A->st'.live.get g=st.live.get g
theorem Zl{b:Tr AV->St->Out}{id m:Nat}{Inv:Nat->Tr AV->St->Prop}{Q:Tr AV->St->Prop}
  (step:∀i t st,i<m->Inv i t st->∃t' st',b t st=.nx t' st'/\Inv (i+1) t' st') (last:∀t st,Inv m t st->∃t' st',b t st=.ex id t' st'/\Q t' st'):
  ∀(k n i:Nat) (t:Tr AV) (st:St),i+k=m->k<n->Inv i t st->∃t' st',aQ b n t st=.ex id t' st'/\Q t' st':=by
 intro k;induction k with
 |zero=>
  intro n i t st hi hn hI;obtain⟨n,rfl⟩:∃n',n=n'+1:=⟨n-1,by omega⟩;have:i=m:=by omega
  subst this;have⟨t',st',h1,h2⟩:=last t st hI;exact⟨t',st',by rw[tw,h1];rfl,h2⟩
 |succ k ih=>intro n i t st hi hn hI;obtain⟨n,rfl⟩:∃n',n=n'+1:=⟨n-1,by omega⟩;have⟨t',st',h1,h2⟩:=step i t st (by omega) hI;have⟨t2,st2,h3,h4⟩:=ih n (i+1) t' st' (by omega) (by omega) h2;exact⟨t2,st2,by rw[tw,h1];exact h3,h4⟩
theorem cD{b:Tr AV->St->Out}(hL:aQ b n t st=L)(id m:Nat)(Inv:Nat->Tr AV->St->Prop)(Q:Tr AV->St->Prop)(hn:m<n)(h0:Inv 0 t st)
  (step:∀i t st,i<m->Inv i t st->∃t' st',b t st=.nx t' st'/\Inv (i+1) t' st') (last:∀t st,Inv m t st->∃t' st',b t st=.ex id t' st'/\Q t' st'):∃t' st',L=.ex id t' st'/\Q t' st':=by
 subst hL;exact Zl step last m n 0 t st (V0 _) hn h0
theorem gV{b:Tr AV->St->Out}(hL:aQ b n t st=L)(id m:Nat)(Inv:Nat->Tr AV->St->Prop)(Q R:Tr AV->St->Prop)(hn:m<n)(h0:Inv 0 t st)
  (step:∀i t st,i<m->Inv i t st->(∃t' st',b t st=.nx t' st'/\Inv (i+1) t' st')\/∃t' st',b t st=.rt t' st'/\R t' st') (last:∀t st,Inv m t st->∃t' st',b t st=.ex id t' st'/\Q t' st'):
  (∃t' st',L=.ex id t' st'/\Q t' st')\/∃t' st',L=.rt t' st'/\R t' st':=by
 have key:∀(k n i:Nat) (t:Tr AV) (st:St),i+k=m->k<n->Inv i t st->(∃t' st',aQ b n t st=.ex id t' st'/\Q t' st')\/∃t' st',aQ b n t st=.rt t' st'/\R t' st':=by
  intro k;induction k with
  |zero=>
   intro n i t st hi hn hI;obtain⟨n,rfl⟩:∃n',n=n'+1:=⟨n-1,by omega⟩;have:i=m:=by omega
   subst this;have⟨t',st',h1,h2⟩:=last t st hI;exact .inl ⟨t',st',by rw[tw,h1];rfl,h2⟩
  |succ k ih=>
   intro n i t st hi hn hI;obtain⟨n,rfl⟩:∃n',n=n'+1:=⟨n-1,by omega⟩;rcases step i t st (by omega) hI with ⟨t',st',h1,h2⟩|⟨t',st',h1,h2⟩
   ·rcases ih n (i+1) t' st' (by omega) (by omega) h2 with ⟨t2,st2,h3,h4⟩|⟨t2,st2,h3,h4⟩
    ·exact .inl ⟨t2,st2,by rw[tw,h1];exact h3,h4⟩
    ·exact .inr ⟨t2,st2,by rw[tw,h1];exact h3,h4⟩
   ·exact .inr ⟨t',st',by rw[tw,h1];rfl,h2⟩
 grind
theorem AS{b:Tr AV->St->Out}(hL:aQ b n t st=L)(id m:Nat)(Inv:Nat->Tr AV->St->Prop)(Q:Tr AV->St->Prop)(hn:m<n)(h0:Inv 0 t st)
  (step:∀i t st,i<m->Inv i t st->(∃t' st',b t st=.nx t' st'/\Inv (i+1) t' st')\/∃t' st',b t st=.ex id t' st'/\Q t' st') (last:∀t st,Inv m t st->∃t' st',b t st=.ex id t' st'/\Q t' st'):
  ∃t' st',L=.ex id t' st'/\Q t' st':=by
 have key:∀(k n i:Nat) (t:Tr AV) (st:St),i+k=m->k<n->Inv i t st->∃t' st',aQ b n t st=.ex id t' st'/\Q t' st':=by
  intro k;induction k with
  |zero=>
   intro n i t st hi hn hI;obtain⟨n,rfl⟩:∃n',n=n'+1:=⟨n-1,by omega⟩;have:i=m:=by omega
   subst this;have⟨t',st',h1,h2⟩:=last t st hI;exact⟨t',st',by rw[tw,h1];rfl,h2⟩
  |succ k ih=>
   intro n i t st hi hn hI;obtain⟨n,rfl⟩:∃n',n=n'+1:=⟨n-1,by omega⟩;rcases step i t st (by omega) hI with ⟨t',st',h1,h2⟩|⟨t',st',h1,h2⟩
   ·have⟨t2,st2,h3,h4⟩:=ih n (i+1) t' st' (by omega) (by omega) h2;exact⟨t2,st2,by rw[tw,h1];exact h3,h4⟩
   ·exact⟨t',st',by rw[tw,h1];rfl,h2⟩
 grind
def cz(v:AV)(l:List AV):Prop:=(v=.sn/\l=[])\/v=.rs l l.length 1
theorem cz.len{l:List AV}(h:cz v l):lenOf v=So l.length:=by rcases h with ⟨rfl,rfl⟩|rfl<;>rfl
theorem cz.text{l:List AV}(h:cz v l):kO v=false:=by rcases h with ⟨rfl,rfl⟩|rfl<;>rfl
theorem gY:∀l:List AV,takeN l.length l=So l
 |[]=>rfl
 |v::l=>by simp[takeN,gY l]
@[simp] theorem agH{az:Array Operand}{ts:Array TypeId}:cO (.call {callee:=.builtin .append,args:=az,argTypes:=ts}) P S t st=fD P st ts.toList (args t az.toList):=rfl
theorem bq(l:List AV):(st.aj l).ce st.next=So (l,st.next,[st.next]):=by simp_all[St.aj,St.ce,St.get,Tr.cW,mem]
theorem zF.aj(A:List Nat)(l:List AV):zF A st (st.aj l):=
 ⟨Nat.le_succ _,λr h _=>by grind[St.pU],λg h _=>by grind[St.aj,Tr.cW]⟩
theorem Wq{c:Code}(hd:defers 4 c=Ff):qX x c=ao c x:=by unfold qX;rw[hd]
@[simp] theorem aht(n:Nat):tmpsOf [] n t=t:=rfl
@[simp] theorem ahs(v:AV)(l:List AV)(n:Nat):tmpsOf (v::l) n t=tmpsOf l (n+1) (t.set n (So v)):=rfl
@[simp] theorem afi(l:List ResultVar):fN P l (.nx t st)=nY P l t st:=rfl
@[simp] theorem afj(l:List ResultVar):fN P l (.rt t st)=nY P l t st:=rfl
@[simp] theorem abV(k:Tmp):oW P t st (.tmp k)=So (ab t k):=rfl
theorem bf(l:List ResultVar):nY P l t st=match aO (oW P t st) l with|some [v]=>So (v,st)|some vs=>So (.tu vs,st)|none=>none:=rfl
end
structure Kp(A B:List Nat)(st st':St):Prop where
 next:st.next<=st'.next
 get:∀r,r<st.next->r∉A->st'.get r=st.get r
 live:∀g,g<st.next->g∉B->st'.live.get g=st.live.get g
theorem Kp.refl(A B:List Nat)(st:St):Kp A B st st:=⟨Q0 _,λ_ _ _=>rfl,λ_ _ _=>rfl⟩
theorem Kp.trans{A B:List Nat}{a b c:St}(h:Kp A B a b)(k:Kp A B b c):Kp A B a c :=
 ⟨J5 h.next k.next,λr h1 h2=>(k.get r (J6 h1 h.next) h2).trans (h.get r h1 h2),λr h1 h2=>(k.live r (J6 h1 h.next) h2).trans (h.live r h1 h2)⟩
theorem Kp.sub{B A' B':List Nat}{a b:St}(h:Kp A B a b)(h1:∀x,x∈A->x∈A')(h2:∀x,x∈B->x∈B'):Kp A' B' a b :=
 ⟨h.next,λr k1 k2=>h.get r k1 λhh=>k2 (h1 _ hh),λr k1 k2=>h.live r k1 λhh=>k2 (h2 _ hh)⟩
theorem Kp.aG{A B:List Nat}{r:Nat}{l:List AV}{g:Nat}(h1:r∈A)(h2:g∈B):Kp A B st (st.aG r l g):=
 ⟨Q0 _,λr' _ h=>BI λe=>h (e▸h1),λg' _ h=>by grind[St.aG,Tr.cW]⟩
theorem Kp.put{A B:List Nat}{r:Nat}{w:Row}(h1:r∈A):Kp A B st (st.put r w):=
 ⟨Q0 _,λr' _ h=>by grind[St.get_put],λ_ _ _=>rfl⟩
theorem Kp.aj(A B:List Nat)(l:List AV):Kp A B st (st.aj l):=⟨(zF.aj [] l).next,λr h _=>(zF.aj [] l).get r h (by simp),λg h _=>(zF.aj [] l).live g h (by simp)⟩
theorem Kp.ce{A B:List Nat}{st st':St}(h:Kp A B st st'){r:Nat}{l:List AV}{g:Nat}{al:List Nat}(hc:st.ce r=So (l,g,al))(h1:r<st.next)(h2:g<st.next)(h3:r∉A)(h4:g∉B):st'.ce r=So (l,g,al):=by have⟨k1,k2,k3⟩:=x8 hc;unfold St.ce;rw[h.get r h1 h3,k1];simp only;rw[h.live g h2 h4,k2];simp_all
theorem E9{nt:Nat}{ops:Array Oper}:∀(l:List Oper) (t:Tr AV) (st:St),(cj P S nt ops l t st=No->bw P S nt ops l t st=.no)/\(∀R,cj P S nt ops l t st=So R->R≠[]/\bw P S nt ops l t st=jQ R)
 |[],t,st=>⟨λh=>(by cases h),λR h=>by cases h;exact⟨by simp,rfl⟩⟩
 |o::l,t,st=>by
  have e1:bw P S nt ops (o::l) t st=mc P S nt o t st (bw P S nt ops l) (gL ops t o):=rfl;have e2:cj P S nt ops (o::l) t st=(match gL ops t o with
   |some Tt=>rT nt t st o.dst (cC P S t st o) (cj P S nt ops l)
   |some Ff=>lL ⟨t,st,.un,Ff⟩ (dE nt t o.dst .un) λt=>cj P S nt ops l t st
   |none=>No):=rfl
  have rt:∀(r:Rec) (q:Option (Tr AV)) (st':St),(lL r q (λt=>cj P S nt ops l t st')=No→iz q (λt=>bw P S nt ops l t st') = .no) ∧
    (∀R,lL r q (λt=>cj P S nt ops l t st')=So R->R≠[]/\iz q (λt=>bw P S nt ops l t st')=jQ R):=by
   intro r q st';cases q with
   |none=>exact⟨λ_=>rfl,λR h=>by cases h⟩
   |some t'=>
    rw[PZ];obtain⟨i1,i2⟩:=E9 l t' st';show(tF r (cj P S nt ops l t' st')=No->_)/\(∀R,tF r (cj P S nt ops l t' st')=So R->_)
    cases hr:cj P S nt ops l t' st' with
    |none=>exact⟨λ_=>i1 hr,λR h=>by cases h⟩
    |some R0=>
     obtain⟨j1,j2⟩:=i2 R0 hr;refine⟨λh=>(by cases h),λR h=>?_⟩;cases h;refine⟨by simp,?_⟩;rw[j2];cases R0 with
     |nil=>grind
     |cons a R1=>rfl
  rw[e1,e2];cases gL ops t o with
  |none=>exact⟨λ_=>rfl,λR h=>by grind⟩
  |some b=>
   cases b with
   |false=>exact rt _ _ _
   |true=>
    show(rT nt t st o.dst (cC P S t st o) (cj P S nt ops l)=No->oS nt t o.dst (cC P S t st o) (bw P S nt ops l)=.no)/\_
    cases hv:cC P S t st o with
    |none=>exact⟨λ_=>rfl,λR h=>by cases h⟩
    |some p=>obtain⟨v,st'⟩:=p;have:=rt ⟨t,st,v,Tt⟩ (dE nt t o.dst v) st';refine⟨this.1,λR h=>?_⟩;refine⟨(this.2 R h).1,?_⟩;rw[<-(this.2 R h).2];simp_all[cC]
theorem ft(hp:kQ ops=So fl)(hc:∀R,cj x.P x.S x.nt ops ops.toList t st=So R->fl.all (recheck x.P x.S ops R)=Tt):
  qW x ops t st=bw x.P x.S x.nt ops ops.toList t st:=by
 unfold qW;rw[hp];show nG x.P x.S ops fl (cj x.P x.S x.nt ops ops.toList t st)=_
 obtain⟨h1,h2⟩:=E9 ops.toList t st;cases hr:cj x.P x.S x.nt ops ops.toList t st with
 |none=>rw[h1 hr];rfl
 |some R=>
  show cond (fl.all (recheck x.P x.S ops R)) (jQ R) .no=_
  grind
theorem bP(hp:kQ ops=So []):qW x ops t st=bw x.P x.S x.nt ops ops.toList t st:=ft hp λ_ _=>rfl
section
variable {X:List Nat}{a:AV}{cells cs:List AV}
theorem Km:∀(n:Nat) (l:List AV),n<=l.length->takeN n l=So (l.take n)
 |0,l,_=>by simp
 |n+1,[],h=>by grind
 |n+1,v::l,h=>by simp[takeN,Km n l (by simpa using h)]
end
theorem Tr.Ry{α:Type}(v w:Option α):∀(p q:List Bool) (t:Tr α),p≠q->Tr.fS p v (Tr.fS q w t)=Tr.fS q w (Tr.fS p v t)
 |[],[],t,h=>absurd rfl h
 |[],b::q,.lf,_=>by cases b<;>rfl
 |[],b::q,.nd o l r,_=>by cases b<;>rfl
 |b::p,[],.lf,_=>by cases b<;>rfl
 |b::p,[],.nd o l r,_=>by cases b<;>rfl
 |a::p,b::q,t,h=>by
  have ih:=λt:Tr α=>Tr.Ry v w p q t
  cases t with
  |lf=>
   cases a<;>cases b
   ·have hpq:p≠q:=λe=>h (by rw[e])
    show Tr.nd No .lf (Tr.fS p v (Tr.fS q w .lf))=Tr.nd No .lf (Tr.fS q w (Tr.fS p v .lf))
    rw[ih _ hpq]
   ·rfl
   ·rfl
   ·have hpq:p≠q:=λe=>h (by rw[e])
    show Tr.nd No (Tr.fS p v (Tr.fS q w .lf)) .lf=Tr.nd No (Tr.fS q w (Tr.fS p v .lf)) .lf
    rw[ih _ hpq]
  |nd o l r=>
   cases a<;>cases b
   ·have hpq:p≠q:=λe=>h (by rw[e])
    show Tr.nd o l (Tr.fS p v (Tr.fS q w r))=Tr.nd o l (Tr.fS q w (Tr.fS p v r))
    rw[ih _ hpq]
   ·rfl
   ·rfl
   ·have hpq:p≠q:=λe=>h (by rw[e])
    show Tr.nd o (Tr.fS p v (Tr.fS q w l)) r=Tr.nd o (Tr.fS q w (Tr.fS p v l)) r
    rw[ih _ hpq]
theorem Tr.set_comm(t:Tr α){m:Nat}(h:n≠m)(v w:Option α):(t.set n v).set m w=(t.set m w).set n v:=by grind[Tr.set,Tr.Ry,SV]
theorem BH{l':List AV}{g':Nat}(h:st.ce r'=So (l',g',al))(hr:r'≠r)(hg:g'≠g):(st.aG r l g).ce r'=So (l',g',al):=by have⟨k1,k2,k3⟩:=x8 h;grind[St.ce,BI,St.aG,Tr.cW]
theorem zt{o:Nat}(h:st.ce r=So (l,g,al))(vs:List AV):wt st r o vs=if o+vs.length<=l.length/\bH vs=Tt then So (st.aG r (aW l o vs) g) else none:=by
 by_cases hc:o+vs.length<=l.length/\bH vs=Tt
 ·rw[if_pos hc,c9 h o vs hc.1 hc.2]
 ·rw[if_neg hc];unfold wt;rw[h];have:(Nat.ble (o+vs.length) l.length&&bH vs)=false:=by
   simp_all
  simp[this]
theorem ab9{r1:Nat}(hr:r1≠r2)(hg:g1≠g2):(st.aG r1 l1 g1).aG r2 l2 g2=(st.aG r2 l2 g2).aG r1 l1 g1:=by grind[St.aG,Tr.set_comm]
theorem aef{r1 o1 o2:Nat}{v1 v2:List AV}{a1 a2:List Nat}(h1:st.ce r1=So (l1,g1,a1))(h2:st.ce r2=So (l2,g2,a2))(hr:r1≠r2)(hg:g1≠g2):
  (match wt st r1 o1 v1 with|some s=>wt s r2 o2 v2|none=>No)=(match wt st r2 o2 v2 with|some s=>wt s r1 o1 v1|none=>No):=by
 rw[zt h1,zt h2];by_cases c1:o1+v1.length<=l1.length/\bH v1=Tt
 ·by_cases c2:o2+v2.length<=l2.length/\bH v2=Tt
  ·rw[if_pos c1,if_pos c2];simp only;rw[zt (BH h2 (Q5 hr) (Q5 hg)),zt (BH h1 hr hg),if_pos c2,if_pos c1,ab9 hr hg]
  ·rw[if_pos c1,if_neg c2];simp only;rw[zt (BH h2 (Q5 hr) (Q5 hg)),if_neg c2]
 ·by_cases c2:o2+v2.length<=l2.length/\bH v2=Tt
  ·rw[if_neg c1,if_pos c2];simp only;rw[zt (BH h1 hr hg),if_neg c1]
  grind
def Ld(o o':Oper):Prop:=o.op=o'.op/\o.dst=o'.dst/\o.guard=o'.guard
def Cr:List Oper->List Oper->Prop
 |[],[]=>True
 |o::l,o'::l'=>Ld o o'/\Cr l l'
 |_,_=>False
theorem N1{w:Bool}:tj ops t j w=match (ops[j]?).bind (λo:Oper=>o.dst)with|some d=>AB w (t.get d)|none=>none:=by grind[tj]
theorem Ng{nt:Nat}{ops ops':Array Oper}(hd:∀j:Nat,(ops[j]?).bind (λo:Oper=>o.dst)=(ops'[j]?).bind (λo:Oper=>o.dst)):∀(l l':List Oper) (t:Tr AV) (st:St),Cr l l'->bw P S nt ops l t st=bw P S nt ops' l' t st
 |[],[],_,_,_=>rfl
 |[],_::_,_,_,h=>h.elim
 |_::_,[],_,_,h=>h.elim
 |⟨d,op,ty,ps,af,g⟩::l,⟨d',op',ty',ps',af',g'⟩::l',t,st,h=>by
  have⟨⟨h1,h2,h3⟩,h4⟩:=h;subst h1;subst h2;subst h3;have ih:=λt st=>Ng (nt:=nt) hd l l' t st h4
  have hk:bw P S nt ops l=bw P S nt ops' l':=funext λt=>funext λst=>ih t st
  cases g with
  |none=>simp_all
  |some jb=>rw[Nf,Nf,hk,N1,N1,hd];rfl
theorem abO:∀(pre rest:List Oper) (t:Tr AV) (st:St) (R:List Rec),cj P S nt ops (pre++rest) t st=So R->
  ∃r,R[pre.length]? = So r/\∀rest',bw P S nt ops (pre++rest') t st=bw P S nt ops rest' r.t r.st:=by
 have head:∀(l:List Oper) (t:Tr AV) (st:St) (R:List Rec),cj P S nt ops l t st=So R->∃r,R[0]? = So r/\r.t=t/\r.st=st:=by
  intro l t st R h;have onr:∀(r:Rec) (q:Option (Tr AV)) (k:Tr AV->Option (List Rec)),lL r q k=So R->R[0]? = So r:=by
   intro r q k h;cases q with
   |none=>cases h
   |some t=>
    have h:tF r (k t)=So R:=h;cases hk:k t with
    |none=>rw[hk]at h;cases h
    |some l=>rw[hk]at h;cases h;rfl
  cases l with
  |nil=>cases h;simp_all
  |cons o l=>
   have h:(match gL ops t o with
    |some Tt=>rT nt t st o.dst (cC P S t st o) (cj P S nt ops l)
    |some Ff=>lL ⟨t,st,.un,Ff⟩ (dE nt t o.dst .un) λt=>cj P S nt ops l t st
    |none=>No)=So R:=h
   cases hg:gL ops t o with
   |none=>grind
   |some b=>
    rw[hg]at h;cases b with
    |false=>grind
    |true=>
     cases he:cC P S t st o with
     |none=>rw[he]at h;cases h
     |some p=>rw[he]at h;exact⟨_,onr _ _ _ h,rfl,rfl⟩
 intro pre;induction pre with
 |nil=>grind
 |cons o pre ih=>
  intro rest t st R h;have h:(match gL ops t o with
   |some Tt=>rT nt t st o.dst (cC P S t st o) (cj P S nt ops (pre++rest))
   |some Ff=>lL ⟨t,st,.un,Ff⟩ (dE nt t o.dst .un) λt=>cj P S nt ops (pre++rest) t st
   |none=>No)=So R:=h
  have e1:∀rest',bw P S nt ops (o::pre++rest') t st=mc P S nt o t st (bw P S nt ops (pre++rest')) (gL ops t o):=λ_=>rfl
  have tl:∀(r:Rec) (q:Option (Tr AV)) (st':St),lL r q (λt=>cj P S nt ops (pre++rest) t st')=So R->∃r',R[pre.length+1]? = So r'/\∀rest',iz q (λt=>bw P S nt ops (pre++rest') t st')=bw P S nt ops rest' r'.t r'.st:=by
   intro r q st' h;cases q with
   |none=>cases h
   |some t'=>
    have h:tF r (cj P S nt ops (pre++rest) t' st')=So R:=h;cases hk:cj P S nt ops (pre++rest) t' st' with
    |none=>rw[hk]at h;cases h
    |some R'=>rw[hk]at h;cases h;grind[PZ]
  cases hg:gL ops t o with
  |none=>grind
  |some b=>
   rw[hg]at h;cases b with
   |false=>have⟨r',h1,h2⟩:=tl _ _ _ h;simp_all
   |true=>
    cases he:cC P S t st o with
    |none=>rw[he]at h;cases h
    |some p=>rw[he]at h;have⟨v,st'⟩:=p;have⟨r',h1,h2⟩:=tl _ _ _ h;simp_all[cC]
theorem Wv{ty1 ty2 t1 t2:TypeId}{a1 v1 a2 v2:Operand}{p1 p2:String}{f1 f2:Array Edge}{l:List Oper}{r1 o1 o2:Nat}{c1 c2:List AV}{b1 b2:List Nat}
  (h1:ah t a1=.p r1 o1) (h2:ah t a2=.p r2 o2) (k1:st.ce r1=So (c1,g1,b1)) (k2:st.ce r2=So (c2,g2,b2)) (hr:r1≠r2) (hg:g1≠g2):
  bw P S nt ops (⟨No,.store ty1 a1 v1,t1,p1,f1,No⟩::⟨No,.store ty2 a2 v2,t2,p2,f2,No⟩::l) t st=bw P S nt ops (⟨No,.store ty2 a2 v2,t2,p2,f2,No⟩::⟨No,.store ty1 a1 v1,t1,p1,f1,No⟩::l) t st:=by
 have one:∀(ty t0:TypeId) (a v:Operand) (p:String) (f:Array Edge) (m:List Oper) (s:St),bw P S nt ops (⟨No,.store ty a v,t0,p,f,No⟩::m) t s=match storeAt P ty s (ah t a) (ah t v)with|some s'=>bw P S nt ops m t s'|none=>.no:=by
  intro ty t0 a v p f m s;rw[Wu,aar];cases storeAt P ty s (ah t a) (ah t v)with
  |none=>rfl
  |some s'=>simp_all
 have st2:∀(ty:TypeId) (s:St) (r o:Nat) (v:AV),storeAt P ty s (.p r o) v=match v.cells with|some l=>if aN P ty=Tt/\l.length=aq P ty then wt s r o l else No|none=>none:=by
  intro ty s r o v;show vO P ty s r o v.cells=_
  cases v.cells with
  |none=>rfl
  |some l=>
   show(@Bool.rec (λ_=>Option St) No (wt s r o l) (aN P ty&&Nat.beq l.length (aq P ty)))=if aN P ty=Tt/\l.length=aq P ty then wt s r o l else No
   by_cases hh:aN P ty=Tt/\l.length=aq P ty
   ·simp_all
   ·rw[if_neg hh];have:(aN P ty&&Nat.beq l.length (aq P ty))=false:=by
     grind[V1]
    rw[this]
 simp[h1,h2,one];simp[st2];cases(ah t v1).cells with
 |none=>grind
 |some l1=>
  cases(ah t v2).cells with
  |none=>grind
  |some l2=>have key:=aef (o1:=o1) (o2:=o2) (v1:=l1) (v2:=l2) k1 k2 hr hg;grind
theorem Lh(x:Nat):∀(y:Nat) (l:List Oper) (j:Nat),(addEdge x y l)[j]? = (l[j]?).map λo=>if j=y then su x o else o
 |_,[],j=>by simp[addEdge]
 |0,o::l,0=>by simp[addEdge]
 |0,o::l,j+1=>by simp[addEdge]
 |y+1,o::l,0=>by simp[addEdge]
 |y+1,o::l,j+1=>by have:=Lh x y l j;grind[addEdge]
theorem Li(x:Nat):∀(y:Nat) (l:List Oper),(addEdge x y l).length=l.length
 |y,[]=>by cases y<;>rfl
 |0,o::l=>rfl
 |y+1,o::l=>by simp[addEdge,Li x y l]
theorem Pj(f:Nat->Oper->Oper):∀(i:Nat) (l:List Oper) (j:Nat),(vw f i l)[j]? = (l[j]?).map (f (i+j))
 |i,[],j=>by simp[vw]
 |i,o::l,0=>by simp[vw]
 |i,o::l,j+1=>by have:=Pj f (i+1) l j;grind[vw]
theorem IB(f:Nat->Oper->Oper):∀(i:Nat) (l:List Oper),(vw f i l).length=l.length
 |i,[]=>rfl
 |i,o::l=>by simp[vw,IB f (i+1) l]
theorem FC(k:Nat):iE k k=k+1:=by grind[iE,bh]
theorem BR(k:Nat):iE k (k+1)=k:=by grind[iE,bh]
theorem BS{k:Nat}(h1:i≠k)(h2:i≠k+1):iE k i=i:=by grind[iE,bh]
theorem BT(k i:Nat):iE k (iE k i)=i:=by grind[FC,BR,BS]
theorem Ke{k:Nat}(hk:k+1<n)(h:i<n):iE k i<n:=by grind[FC,BR,BS]
theorem Kg:∀(k:Nat) (l:List Oper) (j:Nat),k+1<l.length->(vP k l)[j]? = l[iE k j]?
 |0,x::y::r,0,_=>by rfl
 |0,x::y::r,1,_=>by rw[BR];rfl
 |0,x::y::r,j+2,_=>by rfl
 |0,[],j,h=>by grind
 |0,[x],j,h=>by grind
 |k+1,[],j,h=>by grind
 |k+1,o::r,0,h=>by rfl
 |k+1,o::r,j+1,h=>by have ih:=Kg k r j (by grind);grind[vP,FC,BR,BS]
theorem Kh:∀(k:Nat) (l:List Oper),(vP k l).length=l.length
 |0,[]=>rfl
 |0,[x]=>rfl
 |0,x::y::r=>rfl
 |k+1,[]=>rfl
 |k+1,o::r=>by simp[vP,Kh k r]
theorem Bj{k:Nat}(hk:k+1<pops.size)(i:Nat):(gk k pops)[i]? = (pops[iE k i]?).map (u7 k (iE k i)):=by unfold gk;rw[V2,Kg _ _ _ (by rw[IB];grind),Pj,V0,Q7]
theorem Qb(k:Nat)(pops:Array Oper):(gk k pops).size=pops.size:=by grind[gk,Kh,IB]
theorem Dh(k i:Nat)(o:Oper):(u7 k i o).op=o.op/\(u7 k i o).dst=o.dst/\(u7 k i o).guard=o.guard/\∀ρ,execOp ρ (u7 k i o)=execOp ρ o:=by
 unfold u7;cases Nat.beq i k with
 |true=>exact⟨rfl,rfl,rfl,λ_=>rfl⟩
 |false=>
  cases Nat.beq i (k+1)with
  |true=>exact⟨rfl,rfl,rfl,λ_=>rfl⟩
  |false=>exact⟨rfl,rfl,rfl,λ_=>rfl⟩
theorem aa2(h:Perm mops pops σ τ){k:Nat}(hk:k+1<pops.size)(hg:∀o∈pops.toList,DL k o=Tt):Perm mops (gk k pops) (λi=>σ (iE k i)) (λi=>iE k (τ i)):=by
 have hsz:=Qb k pops;refine⟨by rw[hsz];exact h.size,λi hi=>?_,λi hi=>?_,λi hi=>?_,λi hi=>?_,λi o ho=>?_⟩
 ·rw[hsz]at hi|-;exact h.lt _ (Ke hk hi)
 ·rw[hsz]at hi|-;exact Ke hk (h.tlt _ hi)
 ·rw[hsz]at hi;simp[BT];exact h.st _ hi
 ·rw[hsz]at hi;simp[h.ts _ (Ke hk hi),BT]
 ·rw[Bj hk]at ho;cases hp:pops[iE k i]? with
  |none=>grind
  |some o0=>
   rw[hp]at ho;cases ho;have⟨o',h1,h2,h3,h4,h5⟩:=h.op _ _ hp;have⟨e1,e2,e3,e4⟩:=Dh k (iE k i) o0;refine⟨o',h1,λρ=>by grind,by grind,by grind,λtmps=>?_⟩;rw[h5];unfold Region.wanted;rw[e3];cases hgd:o0.guard with
   |none=>rfl
   |some gw=>have hgo:=hg o0 (Q6.2 (K8 hp));grind[DL,bh,yielded,Bj,BS,Dh]
theorem Ef(x y:Nat)(ops:Array Oper)(j:Nat):(rz x y ops)[j]? = (ops[j]?).map λo=>if j=y then su x o else o:=by unfold rz;rw[V2,Lh,Q7]
theorem Zy(x y:Nat)(ops:Array Oper):(rz x y ops).size=ops.size:=by grind[rz,Li]
theorem aa0{x:Nat}(h:Perm (rz x y ops) pops σ τ):Perm ops pops σ τ:=by
 refine⟨by rw[<-h.size,Zy],h.lt,h.tlt,h.st,h.ts,λi o ho=>?_⟩;have⟨o',h1,h2,h3,h4,h5⟩:=h.op i o ho;rw[Ef]at h1;cases hp:ops[σ i]? with
 |none=>grind
 |some o0=>
  rw[hp]at h1;simp at h1;have yl:∀tmps g,yielded (rz x y ops) tmps g=yielded ops tmps g:=by grind[yielded,Ef,su]
  have hw:∀tmps,Region.wanted o' (yielded (rz x y ops) tmps)=Region.wanted o0 (yielded ops tmps):=by grind[su,Region.wanted]
  refine⟨o0,rfl,λρ=>?_,?_,?_,λtmps=>by grind⟩
  ·rw[<-h2];subst h1;by_cases e:σ i=y<;>simp[e]<;>rfl
  ·rw[<-h3];subst h1;by_cases e:σ i=y<;>simp[e,su]
  ·rw[<-h4];subst h1;by_cases e:σ i=y<;>simp[e,su]
theorem Xt{L:List Nat}(hn:L.Nodup){x:Nat}(hx:x∈L)(hy:y∈L)(hxy:x≠y):(∀pre post,L=pre++y::post->x∈pre)\/(∀pre post,L=pre++x::post->y∈pre):=by
 induction L with
 |nil=>grind
 |cons a L ih=>
  have hn':=J9.1 hn;by_cases ha:a=x
  ·left;intro pre post h;cases pre with
   |nil=>grind
   |cons b pre=>grind
  ·by_cases hb:a=y
   ·right;intro pre post h;cases pre with
    |nil=>grind
    |cons b pre=>grind
   ·have hx':x∈L:=by grind
    have hy':y∈L:=by grind
    rcases ih hn'.2 hx' hy' with h1|h1
    ·left;intro pre post h;cases pre with
     |nil=>grind
     |cons b pre=>grind
    ·right;intro pre post h;cases pre with
     |nil=>exact absurd (Q9 h).1 ha
     |cons b pre=>exact Z0 _ (h1 pre post (Q9 h).2)
theorem Rt:∀{l l':List Oper},l.length=l'.length->(∀(j:Nat) (o o':Oper),l[j]? = So o->l'[j]? = So o'->Ld o o')->Cr l l'
 |[],[],_,_=>trivial
 |[],_::_,h,_=>by grind
 |_::_,[],h,_=>by grind
 |o::l,o'::l',h,hs=>⟨hs 0 o o' rfl rfl,Rt (by grind) λj a b h1 h2=>hs (j+1) a b (by grind) (by grind)⟩
theorem R8:∀(pre post:List Oper) (x y:Oper),vP pre.length (pre++x::y::post)=pre++y::x::post
 |[],post,x,y=>rfl
 |o::pre,post,x,y=>by
  show o::vP pre.length (pre++x::y::post)=_
  rw[R8 pre post x y];rfl
theorem JU(h:vN pops i=Tt):∃ty a v t0 ps f,pops[i]? = So ⟨No,.store ty a v,t0,ps,f,No⟩:=by
 unfold vN at h;cases hp:pops[i]? with
 |none=>grind
 |some o=>have⟨d,op,t0,ps,f,g⟩:=o;grind[OB]
theorem adY{k:Nat}{RA RB:List Rec}(h1:vN pops k=Tt)(h2:vN pops (k+1)=Tt)
  (hA:cj P S nt pops pops.toList t st=So RA) (hB:cj P S nt (gk k pops) (gk k pops).toList t st=So RB) (hap:CB pops k RA=Tt):jQ RB=jQ RA:=by
 have⟨ty1,a1,v1,t1,p1,f1,e1⟩:=JU h1;have⟨ty2,a2,v2,t2,p2,f2,e2⟩:=JU h2;have hk:k+1<pops.size:=(Q2.1 e2).1;have l1:=(E9 pops.toList t st).2 RA hA;have l2:=(E9 (gk k pops).toList t st).2 RB hB;rw[<-l1.2,<-l2.2];have hsplit:pops.toList=pops.toList.take k++(⟨No,.store ty1 a1 v1,t1,p1,f1,No⟩:Oper)::⟨No,.store ty2 a2 v2,t2,p2,f2,No⟩::pops.toList.drop (k+2):=by grind[List.drop_eq_getElem_cons,List.take_append_drop]
 have hlen:(pops.toList.take k).length=k:=by grind
 generalize pops.toList.take k=pre at hsplit hlen;generalize pops.toList.drop (k+2)=post at hsplit;have hsame:Cr (gk k pops).toList (pre++(⟨No,.store ty2 a2 v2,t2,p2,f2,No⟩:Oper)::⟨No,.store ty1 a1 v1,t1,p1,f1,No⟩::post):=by
  rw[<-R8,hlen,<-hsplit];refine Rt (by grind[Qb,Kh]) λj o o' q1 q2=>?_
  rw[Kg _ _ _ (by grind),Q7]at q2;rw[Q7,Bj hk,q2]at q1;cases q1;obtain⟨z1,z2,z3,-⟩:=Dh k (iE k j) o';exact⟨z1,z2,z3⟩
 have hdst:∀j:Nat,((gk k pops)[j]?).bind (λo:Oper=>o.dst)=(pops[j]?).bind (λo:Oper=>o.dst):=by grind[Bj,FC,Dh,BR,BS]
 rw[Ng hdst _ _ t st hsame,hsplit];have hA':=hA;rw[hsplit]at hA';have⟨r,r1,r2⟩:=abO pre _ t st RA hA';rw[hlen]at r1;rw[r2,r2];unfold CB at hap;rw[r1,e1,e2]at hap;simp only[LF]at hap;cases hp1:(ah r.t a1).jL with
 |none=>grind
 |some q1=>
  have⟨r1',o1⟩:=q1;cases hp2:(ah r.t a2).jL with
  |none=>grind
  |some q2=>
   have⟨r2',o2⟩:=q2;rw[hp1,hp2]at hap;simp only at hap;cases hc1:r.st.ce r1' with
   |none=>grind
   |some c1=>
    have⟨cl1,g1,b1⟩:=c1;cases hc2:r.st.ce r2' with
    |none=>grind
    |some c2=>have⟨cl2,g2,b2⟩:=c2;rw[hc1,hc2]at hap;simp[Bool.not_eq_true',bh]at hap;exact(Wv (AV.wo hp1) (AV.wo hp2) hc1 hc2 hap.1 hap.2).symm
theorem abd{m:vY}(h:vE ops=So m):∃x y,x<ops.size/\y<ops.size/\x≠y/\Bo (rz x y ops) x y=So m.m/\aV m.m.τ x=m.k/\aV m.m.τ y=m.k+1/\kQ (gk m.k m.m.pops)=So m.flB/\
  vN m.m.pops m.k=Tt/\vN m.m.pops (m.k+1)=Tt/\∀o∈m.m.pops.toList,DL m.k o=true:=by
 unfold vE at h;cases hb:kJ ops.toList [] with
 |none=>grind
 |some bs=>
  rw[hb]at h;simp only at h;cases hq:EG (ops.toList.map λo=>kind o.op) (ops.toList.map λo=>kind o.op) bs 0 with
  |none=>rw[hq]at h;cases h
  |some xy=>
   have⟨x,y⟩:=xy;rw[hq]at h;simp[Qs]at h;cases hc:(Nat.blt x ops.size&&(Nat.blt y ops.size&&!Nat.beq x y))with
   |false=>grind
   |true=>
    rw[hc]at h;cases hm:Bo (rz x y ops) x y with
    |none=>rw[hm]at h;cases h
    |some pm=>
     rw[hm]at h;simp[Qt]at h;cases hd:Nat.beq (aV pm.τ y) (aV pm.τ x+1)with
     |false=>grind
     |true=>
      rw[hd]at h;cases hf:kQ (gk (aV pm.τ x) pm.pops)with
      |none=>rw[hf]at h;cases h
      |some fl=>grind[Qu,Z8,V1]
theorem Wk(hS:bK x.P x.S){id:Nat}{a:Act}(hr:Rel E w.heap st)(ht:bX E x.nt t a.tmps)(hm:Marks n0 b.defers E w.heap st a.defers)
  (hl:(Ak x.P x.S x.nt t st (vE ops)).lim E.top):cL x.P ks n0 E x.nt b w st (lone (b.atR a (.code (.region id ops Tt)::k)) ks w) k (Ak x.P x.S x.nt t st (vE ops)):=by
 cases hp:vE ops with
 |none=>trivial
 |some m=>
  rw[hp]at hl;have⟨u,y,hu,hy,huy,hmm,hτx,hτy,hflB,hs1,hs2,hgo⟩:=abd hp;have⟨hplA,hperm,hedge,hord⟩:=abb hmm;unfold Ak at hl|-;simp only at hl|-;cases hA:cj x.P x.S x.nt m.m.pops m.m.pops.toList t st with
  |none=>trivial
  |some RA=>
   cases hB:cj x.P x.S x.nt (gk m.k m.m.pops) (gk m.k m.m.pops).toList t st with
   |none=>trivial
   |some RB=>
    rw[hA,hB]at hl;unfold Df at hl|-;simp only at hl|-;cases hc:(m.m.fl.all (recheck x.P x.S m.m.pops RA)&&(m.flB.all (recheck x.P x.S (gk m.k m.m.pops) RB)&&CB m.m.pops m.k RA))with
    |false=>trivial
    |true=>
     rw[hc]at hl;simp at hl|-;rw[Z3,Z3]at hc;have⟨cA,cB,cap⟩:=hc;have hk:m.k+1<m.m.pops.size:=by grind[JU]
     have permA:Perm ops m.m.pops (aV m.m.σ) (aV m.m.τ):=aa0 hperm;have permB:=aa2 permA hk hgo;have hedge':∀j o,ops[j]? = So o->∀e∈o.after,Region.binds .any e=Tt->e.on<j:=by
      intro j o ho e he hb;have hmo:=Ef u y ops j;rw[ho]at hmo;by_cases hj:j=y
      ·rw[Z6,if_pos hj]at hmo;exact hedge j _ hmo e (by unfold su;exact Z7.2 (.inl he)) hb
      ·rw[Z6,if_neg hj]at hmo;exact hedge j _ hmo e he hb
     have hsz:ops.size=m.m.pops.size:=permA.size;have⟨l1,l2,l3⟩:=Ix hedge' (w.tape w.drawn (.order b.fn id));have ask:∀j o,j<ops.size->m.m.pops[aV m.m.τ j]? = So o->∀e∈o.after,Region.binds .any e=Tt->∃i,e.on=aV m.m.τ i/\i<ops.size/\
       ((∀pre post,Region.linearise .any ops (w.tape w.drawn (.order b.fn id))=pre++j::post->i∈pre)\/(j=y/\i=u)):=by
      intro j o hj ho e he hb;have hmo:=Ef u y ops j;rw[Z4 hj,Z6]at hmo;have⟨e',he',hb',h1⟩:=hord j o _ hmo ho e he hb;have orig:e'∈(ops[j]).after->∃i,e.on=aV m.m.τ i/\i<ops.size/\((∀pre post,Region.linearise .any ops (w.tape w.drawn (.order b.fn id))=pre++j::post->i∈pre)\/(j=y/\i=u)):=by intro hin;have:=hedge' j ops[j] (Z4 hj) e' hin hb';grind
      by_cases hjy:j=y
      ·rw[if_pos hjy]at he';unfold su at he';rcases Z7.1 he' with hin|rfl
       ·exact orig hin
       ·exact⟨u,h1,hu,.inr ⟨hjy,rfl⟩⟩
      ·rw[if_neg hjy]at he';exact orig he'
     have hLm:∀i,i<ops.size->i∈Region.linearise .any ops (w.tape w.drawn (.order b.fn id)):=λi hi=>(l2 i).2 hi
     rcases Xt l1 (hLm u hu) (hLm y hy) huy with hfirst|hfirst
     ·
      have hres:nG x.P x.S m.m.pops m.m.fl (cj x.P x.S x.nt m.m.pops m.m.pops.toList t st)=jQ RA:=by
       rw[hA];show cond (m.m.fl.all (recheck x.P x.S m.m.pops RA)) (jQ RA) .no=_
       grind
      have:=Hu (ks:=ks) (b:=b) (id:=id) (k:=k) hS permA hedge' hr ht hm (λpre j post o hL1 ho e he hb=>by
       have hj:j<ops.size:=(l2 j).1 (by rw[hL1];simp);have⟨i,q1,q2,q3⟩:=ask j o hj ho e he hb;rw[q1,permA.st i (by rw[<-hsz];exact q2)];rcases q3 with q3|⟨rfl,rfl⟩
       ·exact q3 pre post hL1
       ·exact hfirst pre post hL1) hplA (by rw[hres];exact hl)
      grind
     ·have hres:nG x.P x.S (gk m.k m.m.pops) m.flB (cj x.P x.S x.nt (gk m.k m.m.pops) (gk m.k m.m.pops).toList t st)=jQ RA:=by
       rw[hB];show cond (m.flB.all (recheck x.P x.S (gk m.k m.m.pops) RB)) (jQ RB) .no=_
       rw[cB,<-adY hs1 hs2 hA hB cap];rfl
      have:=Hu (ks:=ks) (b:=b) (id:=id) (k:=k) hS permB hedge' hr ht hm (λpre j post o hL1 ho e he hb=>by
       have hj:j<ops.size:=(l2 j).1 (by rw[hL1];simp);rw[Bj hk,BT]at ho;cases ho0:m.m.pops[aV m.m.τ j]? with
       |none=>rw[ho0]at ho;cases ho
       |some o0=>
        rw[ho0]at ho;cases ho;have hcase:(∃e0∈o0.after,e=zg m.k e0/\(aV m.m.τ j=m.k+1->e0.on≠m.k))\/(aV m.m.τ j=m.k/\e=zg m.k (Hv (m.k+1))):=by
         have he':=he;unfold u7 at he';by_cases g1:aV m.m.τ j=m.k
         ·rw[bh,decide_eq_true g1]at he';have he'':e∈(((o0.after.push (Hv (m.k+1))).toList.map (zg m.k)).toArray):=he';rw[J1,J3]at he'';obtain⟨e0,h0,rfl⟩:=he'';rcases Z7.1 (Q6.1 h0)with h0|rfl
          ·exact .inl ⟨e0,h0,rfl,λh=>by omega⟩
          ·exact .inr ⟨g1,rfl⟩
         ·rw[bh,decide_eq_false g1]at he';by_cases g2:aV m.m.τ j=m.k+1
          ·rw[bh,decide_eq_true g2]at he';have he'':e∈(((((o0.after.toList.filter λe=>!(Nat.beq e.on m.k)).toArray).toList).map (zg m.k)).toArray):=he';rw[J1,J3]at he'';obtain⟨e0,h0,rfl⟩:=he'';have h0:e0∈o0.after.toList.filter λe=>!(Nat.beq e.on m.k):=by simpa using h0
           rw[List.mem_filter]at h0;refine .inl ⟨e0,Q6.1 h0.1,rfl,λ_ hh=>?_⟩;have:=h0.2;rw[bh,decide_eq_true hh]at this;cases this
          ·rw[bh,decide_eq_false g2]at he';have he'':e∈((o0.after.toList.map (zg m.k)).toArray):=he';rw[J1,J3]at he'';obtain⟨e0,h0,rfl⟩:=he'';exact .inl ⟨e0,Q6.1 h0,rfl,λh=>absurd h g2⟩
        rcases hcase with ⟨e0,h0,rfl,hne⟩|⟨g1,rfl⟩
        ·have hb0:Region.binds .any e0=true:=hb;have⟨i,q1,q2,q3⟩:=ask j o0 hj ho0 e0 h0 hb0;show aV m.m.σ (iE m.k (iE m.k e0.on))∈pre
         rw[BT,q1,permA.st i (by rw[<-hsz];exact q2)];rcases q3 with q3|⟨rfl,rfl⟩
         ·exact q3 pre post hL1
         ·exact absurd (q1.trans hτx) (hne hτy)
        ·show aV m.m.σ (iE m.k (iE m.k (m.k+1)))∈pre
         rw[BT,<-hτy,permA.st y (by rw[<-hsz];exact hy)];have hju:j=u:=by have h1:=permA.st j (by rw[<-hsz];exact hj);have h2:=permA.st u (by rw[<-hsz];exact hu);rw[g1,<-hτx]at h1;exact h1.symm.trans h2
         rw[hju]at hL1;exact hfirst pre post hL1) hflB (by rw[hres];exact hl)
      rw[hres]at this;exact this
theorem Wi(hS:bK x.P x.S){id:Nat}{a:Act}(hr:Rel E w.heap st)(ht:bX E x.nt t a.tmps)(hm:Marks n0 b.defers E w.heap st a.defers)
  (hl:(Aj x.P x.S x.nt ops t st (tK ops)).lim E.top):cL x.P ks n0 E x.nt b w st (lone (b.atR a (.code (.region id ops Tt)::k)) ks w) k (Aj x.P x.S x.nt ops t st (tK ops)):=by
 cases hp:tK ops with
 |none=>rw[hp]at hl;exact Wk hS hr ht hm hl
 |some m=>grind[Aj,Wj]
