/- A part of the proof. -/
import Derived.Test.YtjpheibfljmbjaaGreatDoorS04
open Go.Region renaming binds->Q0, ready->Q8, wanted->Q9, linearise->J3, schedule->V2
open Nat renaming lt_or_ge->Q1, le_refl->Q2, le_of_lt->Q3, blt->J4, beq->J5, lt_trichotomy->J8, ble_eq_true_of_le->Z3, ble_eq->Z4, le_trans->Z6
open Array renaming getElem?_eq_some_iff->Q4, replicate->V0, mem_toList_iff->V3
open Go.Steps renaming one->Q6
open Go.Act renaming put->Q7
open Go.Region.linearise renaming go->J1
open List renaming mem_cons->J6, mem_cons_self->J9, nodup_cons->Z7, mem_cons_of_mem->Z9, range->V1
open Go.World renaming heap->Z5
open List.cons renaming inj->Z8
noncomputable section
namespace Go.Ev
variable {D Pd : Nat->Prop}{E E' : Env}{H H0 : Array Obj}{L : Out}{P : Program}{R : List Rec}{S : Self}{a c : Operand}{af : Array Edge}{al bs : List Nat}{b : Frame}{d : Option Tmp}{e ty y0 : TypeId}{ex : Tmp->Prop}{f : FuncId}{fl : List (Nat× Nat)}{g i j n n0 nt p q r z : Nat}{k : List Item}{ks : List Frame}{m : nZ}{mops ops : Array Oper}{o o' y : Oper}{op : Op}{pos : String}{st st' : St}{t t' : Tr AV}{v : AV}{w : World}{x : Ctx}{xb : Option (Nat× Obj)}{α : Type}{β ν σ τ : Nat->Nat}{ζ : Nat->Value}
theorem FT(o:Oper):kind o.op<=3:=by unfold kind;grind
theorem C0(hk:kind o.op=2)(he:da P S t st o=some (v,st')):∃ l,st'=st.aw l:=by
 unfold da at he;cases hop:o.op<;>rw[hop]at hk he<;>first|(simp only[kind]at hk;omega)|skip
 case alloc e =>
  have he:mY st (bm P e)=some (v,st'):=he;cases hz:bm P e with
  |none=>rw[hz]at he;cases he
  |some l=>rw[hz]at he;cases he;grind
 case box e x =>
  have he:mY st (ai t x).cells=some (v,st'):=he;cases hz:(ai t x).cells with
  |none=>rw[hz]at he;cases he
  |some l=>rw[hz]at he;cases he;grind
 case buildSlice ty len parts =>
  have he:oZ ty len parts P S t st=some (v,st'):=he;unfold oZ at he;split at he
  ·grind
  ·rename_i e hel;cases hz:bm P e with
   |none=>grind
   |some z =>
    rw[hz]at he;obtain⟨hle,he⟩:=eY he;cases hf:fill (jB (aD P e)) (rep len z) (gQ t parts.toList) with
    |none=>rw[hf]at he;cases he
    |some l'=>rw[hf]at he;cases he;grind
 case call c =>
  obtain⟨callee,as,ts⟩:=c;cases callee<;>first|(simp[kind]at hk)|skip
  rename_i bb;cases bb<;>simp at hk
theorem FH(h:eN nt t d v=some t')(x:Tmp):ab t' x=if d=some x then v else ab t x:=by
 cases d with
 |none=>cases h;simp
 |some d =>grind[eN,eY,AV.seen_eq,ab,Tr.eh]
theorem Gc{d:Tmp}(h:eN nt t (some d) v=some t'):d<nt:=by grind[eN,eY,Nat.blt_eq]
def jz(P:Program)(S:Self)(nt:Nat)(ops:Array Oper)(R:List Rec):Prop:=∀ i o,ops[i]? = some o->Be P S nt ops o (recAt R i) (recAt R (i+1))
def lN(ops:Array Oper)(i:Nat):Prop:=∃ o,ops[i]? = some o/\kind o.op=3
def ev(ops:Array Oper)(R:List Rec)(i:Nat):Prop:=∃ o,ops[i]? = some o/\kind o.op=2/\(recAt R i).w=true
def rowAt(R:List Rec)(i:Nat):Nat:=(recAt R i).st.next
theorem P7(hR:jz P S nt ops R)(ho:ops[i]? = some o)(hk:¬ lN ops i)(hk4:kind o.op<=3):
  (¬ ev ops R i/\(recAt R (i+1)).st=(recAt R i).st)\/(ev ops R i/\∃ l,(recAt R (i+1)).st=(recAt R i).st.aw l):=by
 obtain⟨h1,h2,h3,h4⟩:=hR i o ho;cases hw:(recAt R i).w with
 |false =>left;refine⟨fun⟨_,_,_,hw'⟩=>?_,(h3 hw).2⟩;grind
 |true =>
  have he:=h4 hw;have na:kind o.op≠2->¬ ev ops R i:=fun hne ⟨o',ho',hk',_⟩=>by grind
  rcases Q1 (kind o.op) 2 with hlt|hge
  ·left;rcases Q1 (kind o.op) 1 with h0|h1
   ·obtain⟨f,hf⟩:=MO (o:=o) (by omega);rw[hf]at he;exact⟨na (by omega),(kH he).2⟩
   ·have:=Qd (by omega) (Sub.refl _) he;grind
  ·right;have:kind o.op=2:=by
    rcases Q1 (kind o.op) 3 with h|h
    ·omega
    ·exact absurd ⟨o,ho,by omega⟩ hk
   exact⟨⟨o,ho,this,hw⟩,C0 this he⟩
theorem aaI(hS:gC S)(hR:jz P S nt ops R)(hi:i<ops.size):(recAt R i).st.next<=(recAt R (i+1)).st.next:=by
 have ho:ops[i]? = some ops[i]:=by grind
 obtain⟨h1,h2,h3,h4⟩:=hR i _ ho;cases hw:(recAt R i).w with
 |false=>grind
 |true=>exact Jf hS _ _ (h4 hw)
theorem oY(hS:gC S)(hR:jz P S nt ops R)(hij:i<=j)(hj:j<=ops.size):(recAt R i).st.next<=(recAt R j).st.next:=by
 induction j with
 |zero=>grind
 |succ j ih =>grind[aaI]
theorem wB(hS:gC S)(hR:jz P S nt ops R)(ha:ev ops R i)(hij:i<j)(hj:j<=ops.size):rowAt R i<(recAt R j).st.next:=by obtain⟨o,ho,hk,hw⟩:=ha;obtain⟨h1,h2,h3,h4⟩:=hR i o ho;obtain⟨l,hl⟩:=C0 hk (h4 hw);have:=oY hS hR (i:=i+1) (by omega) hj;rw[hl]at this;have e:((recAt R i).st.aw l).next=(recAt R i).st.next+1:=rfl;unfold rowAt;omega
theorem OJ(hS:gC S)(hR:jz P S nt ops R)(ha:ev ops R i)(hb:ev ops R j)(h:rowAt R i=rowAt R j):i=j:=by
 have lt:∀ {i},ev ops R i->i<ops.size:=fun⟨o,ho,_⟩=>(Q4.1 ho).1
 rcases J8 i j with hij|hij|hij
 ·have:=wB hS hR ha hij (Q3 (lt hb));unfold rowAt at *;omega
 ·grind
 ·have:=wB hS hR hb hij (Q3 (lt ha));unfold rowAt at *;omega
theorem Av(hS:gC S)(hR:jz P S nt ops R):∀ (m:Nat),p<=m->m<=ops.size->(∀ i,p<=i->i<m->¬ lN ops i)->
  (∀ r,(∀ i,p<=i->i<m->ev ops R i->r≠rowAt R i)->(recAt R m).st.get r=(recAt R p).st.get r/\(recAt R m).st.live.get r=(recAt R p).st.live.get r)/\
  (∀ i,p<=i->i<m->ev ops R i->∀ l,(recAt R (i+1)).st=(recAt R i).st.aw l->(recAt R m).st.get (rowAt R i)=some (.ce l (rowAt R i))/\(recAt R m).st.live.get (rowAt R i)=some [rowAt R i]):=by
 intro m;induction m with
 |zero =>grind
 |succ m ih =>
  intro hp hm hno;rcases Q1 p (m+1) with hlt|hge
  ·obtain⟨ih1,ih2⟩:=ih (by omega) (by omega) (fun i h1 h2=>hno i h1 (by omega));have ho:ops[m]? = some ops[m]:=by grind
   rcases P7 hR ho (hno m (by omega) (by omega)) (FT _) with ⟨hna,hst⟩|⟨ha,l,hst⟩
   ·grind
   ·have hget:∀ r,(recAt R (m+1)).st.get r=if r=rowAt R m then some (.ce l (rowAt R m)) else(recAt R m).st.get r:=by
     intro r;rw[hst,St.uJ];rfl
    have hlive:∀ g,(recAt R (m+1)).st.live.get g=if g=rowAt R m then some [rowAt R m] else(recAt R m).st.live.get g:=by intro g;rw[hst];simp[St.aw,Tr.eh];rfl
    refine⟨fun r hr=>?_,fun i h1 h2 hai l' hl'=>?_⟩
    ·grind
    ·by_cases e:i=m
     ·subst e;rw[hget,hlive,if_pos rfl,if_pos rfl];rw[hst]at hl';have:=St.uJ (recAt R i).st l (recAt R i).st.next;rw[hl',St.uJ,if_pos rfl,if_pos rfl]at this;cases this;exact⟨rfl,rfl⟩
     ·have hlt':rowAt R i<rowAt R m:=wB hS hR hai (by omega) (by omega);have hne:rowAt R i≠rowAt R m:=by omega
      rw[hget,hlive,if_neg hne,if_neg hne];exact ih2 i h1 (by omega) hai l' hl'
  grind
theorem zH(hR:jz P S nt ops R){x:Tmp}:∀ (j:Nat),j<=ops.size->(∀ i o,i<j->ops[i]? = some o->o.dst≠some x)->ab (recAt R j).t x=ab (recAt R 0).t x:=by
 intro j;induction j with
 |zero=>grind
 |succ j ih =>
  intro hj hno;have ho:ops[j]? = some ops[j]:=by grind
  obtain⟨h1,h2,h3,h4⟩:=hR j _ ho;grind[FH]
theorem HO(hR:jz P S nt ops R){x:Tmp}(ho:ops[i]? = some o)(hd:o.dst=some x):∀ (j:Nat),i<j->j<=ops.size->(∀ i' o',i<i'->i'<j->ops[i']? = some o'->o'.dst≠some x)->
  ab (recAt R j).t x=(recAt R i).v:=by
 intro j;induction j with
 |zero=>grind
 |succ j ih =>
  intro hij hj hno;have hoj:ops[j]? = some ops[j]:=by grind
  obtain⟨h1,h2,h3,h4⟩:=hR j _ hoj;grind[FH]
structure ZO(ops:Array Oper)(D:Nat->Prop)(p q:Nat):Prop where
 pq:p<=q
 qn:q<=ops.size
 before:∀ i o,i<p->ops[i]? = some o->2<=kind o.op->D i
 noK:∀ i,p<=i->i<q->¬ lN ops i
 atq:q=ops.size\/lN ops q
 after:∀ i,q<=i->lN ops i->¬ D i
 start:p=0\/∃ k,p=k+1/\lN ops k
structure Inv(ops:Array Oper)(R:List Rec)(nt:Nat)(E:Env)(H0:Array Obj)(ex:Tmp->Prop)(xb:Option (Nat× Obj))(D Pd:Nat->Prop)(p q:Nat)(a:Act)(H:Array Obj)(E':Env)(X:St)(β ν:Nat->Nat)(ζ:Nat->Value):Prop where
 st:Step E E' H0 H (recAt R 0).st X
 sz:a.tmps.size=nt
 slotV:∀ x i o,D i->ops[i]? = some o->o.dst=some x->¬ (ev ops R i/\Pd i)->Conc E' (recAt R i).v (a.tmps.getD x undef)
 slotP:∀ x i o,D i->ops[i]? = some o->o.dst=some x->ev ops R i->Pd i->a.tmps.getD x undef=ζ i
 slot0:∀ x,¬ ex x->(∀ i o,D i->ops[i]? = some o->o.dst≠some x)->Conc E' (ab (recAt R 0).t x) (a.tmps.getD x undef)
 gap:ZO ops D p q
 next:X.next=(recAt R q).st.next
 freshP:∀ r,(recAt R p).st.next<=r->(recAt R p).st.get r=none/\(recAt R p).st.live.get r=none
 lows:∀ g al,(recAt R p).st.live.get g=some al->∀ x∈al,x<(recAt R p).st.next
 undone:∀ i,p<=i->i<q->ev ops R i->¬ (D i/\¬ Pd i)->X.get (rowAt R i)=none/\X.live.get (rowAt R i)=none/\E'.phi (rowAt R i)=none
 rest:∀ r,(∀ i,p<=i->i<q->ev ops R i->¬ (D i/\¬ Pd i)->r≠rowAt R i)->X.get r=(recAt R q).st.get r/\X.live.get r=(recAt R q).st.live.get r
 pend:∀ i,D i->ev ops R i->Pd i->H0.size<=β i/\β i<H.size/\Un E' X (β i)/\(∀ l,(recAt R (i+1)).st=(recAt R i).st.aw l->∀ g,im E' H ⟨β i,0,ν i⟩ (.ce l g))/\
  ∀ F,F.phi (rowAt R i)=some ⟨β i,0,ν i⟩->Conc F (recAt R i).v (ζ i)
 inj:∀ i i',D i->ev ops R i->Pd i->D i'->ev ops R i'->Pd i'->β i=β i'->i=i'
 xtra:∀ b ob,xb=some (b,ob)->H0.size<=b/\H[b]? = some ob/\Un E' X b/\∀ i,D i->ev ops R i->Pd i->β i≠b
section
variable {a : Act}{X : St}
theorem Inv.congr{Pd':Nat->Prop}(h:Inv ops R nt E H0 ex xb D Pd p q a H E' X β ν ζ)(hp:∀ i,D i->ev ops R i->(Pd i↔Pd' i)):Inv ops R nt E H0 ex xb D Pd' p q a H E' X β ν ζ:=by
 have und:∀ i,ev ops R i->(¬ (D i/\¬ Pd' i)↔¬ (D i/\¬ Pd i)):=fun i ha=>by grind
 refine⟨h.st,h.sz,?_,?_,h.slot0,h.gap,h.next,h.freshP,h.lows,?_,?_,?_,?_,fun b ob hb=>⟨(h.xtra b ob hb).1,(h.xtra b ob hb).2.1,(h.xtra b ob hb).2.2.1,fun i hd ha hq=>(h.xtra b ob hb).2.2.2 i hd ha ((hp i hd ha).2 hq)⟩⟩
 ·intro x i o hd ho hx hn;exact h.slotV x i o hd ho hx fun⟨ha,hq⟩=>hn ⟨ha,(hp i hd ha).1 hq⟩
 ·intro x i o hd ho hx ha hq;exact h.slotP x i o hd ho hx ha ((hp i hd ha).2 hq)
 ·intro i h1 h2 ha hn;exact h.undone i h1 h2 ha ((und i ha).1 hn)
 ·intro r hr;exact h.rest r fun i h1 h2 ha hn=>hr i h1 h2 ha ((und i ha).2 hn)
 ·intro i hd ha hq;exact h.pend i hd ha ((hp i hd ha).2 hq)
 ·intro i i' hd ha hq hd' ha' hq';exact h.inj i i' hd ha ((hp i hd ha).2 hq) hd' ha' ((hp i' hd' ha').2 hq')
theorem ev.lt(h:ev ops R i):i<ops.size:=by obtain⟨o,ho,_⟩:=h;grind
theorem Inv.AF(_:Rel E H0 (recAt R 0).st)(hS:gC S)(hR:jz P S nt ops R)(h:Inv ops R nt E H0 ex xb D Pd p q a H E' X β ν ζ){i:Nat}(hpi:p<=i)(hiq:i<q)(hA:ev ops R i)(hD:D i)(hP:Pd i):
  ∃ E'' X',Inv ops R nt E H0 ex xb D (fun x=>Pd x/\x≠i) p q a H E'' X' β ν ζ/\E'.le E'':=by
 obtain⟨k1,k2,k3,k4,k5⟩:=h.pend i hD hA hP;obtain⟨u1,u2,u3⟩:=h.undone i hpi hiq hA (fun⟨_,hn⟩=>hn hP);obtain⟨o,ho,hk,hw⟩:=id hA;obtain⟨l,hl⟩:=C0 hk ((hR i o ho).2.2.2 hw)
 let r:=rowAt R i
 let X':St:=⟨X.rows.set r (some (.ce l r)),X.live.set r (some [r]),X.next⟩
 have hget:∀ x,X'.get x=if x=r then some (.ce l r) else X.get x:=fun x=>by simp[X',St.get,Tr.eh]
 have hlive:∀ g,X'.live.get g=if g=r then some [r] else X.live.get g:=fun g=>by simp[X',Tr.eh]
 obtain⟨g1,g2⟩:=Av hS hR q h.gap.pq h.gap.qn h.gap.noK;have hrq:r<(recAt R q).st.next:=wB hS hR hA hiq h.gap.qn;have hpr:(recAt R p).st.next<=r:=oY hS hR hpi (Q3 hA.lt);have hmem:∀ g al,X.live.get g=some al->r∉al:=by
  intro g al hg hm;by_cases hex:∃ i',p<=i'/\i'<q/\ev ops R i'/\g=rowAt R i'
  ·obtain⟨i',h1,h2,h3,rfl⟩:=hex;by_cases hun:D i'/\¬ Pd i'
   ·have:=(h.rest (rowAt R i') (fun i'' e1 e2 e3 e4 e5=>by
     grind[OJ])).2
    obtain⟨o',ho',hk',hw'⟩:=id h3;obtain⟨l',hl'⟩:=C0 hk' ((hR i' o' ho').2.2.2 hw');grind
   ·rw[(h.undone i' h1 h2 h3 hun).2.1]at hg;grind
  ·have hn:∀ i',p<=i'->i'<q->ev ops R i'->g≠rowAt R i':=fun i' h1 h2 h3 e=>hex ⟨i',h1,h2,h3,e⟩
   rw[(h.rest g fun i' h1 h2 h3 _=>hn i' h1 h2 h3).2,(g1 g hn).2]at hg;have:=h.lows g al hg r hm;omega
 have hst:=Step.AF h.st u3 u1 (by rw[h.next];grind) hmem u2 hget rfl (fun g=>by grind) (fun l' g e=>by grind) k1 k3 (k4 l hl r);have hle:E'.le (E'.bind r ⟨β i,0,ν i⟩):=Env.pk u3;have hun:∀ b,b≠β i->Un E' X b->Un (E'.bind r ⟨β i,0,ν i⟩) X' b:=by
  intro b hb hno;refine⟨?_,hno.2⟩;rintro⟨x,y,C,hx,hC,hCb⟩;by_cases e:x=r
  ·subst e;rw[Env.fj]at hC;cases hC;exact hb hCb.symm
  ·rw[Env.dY e]at hC;refine hno.1 ⟨x,y,C,?_,hC,hCb⟩;unfold St.alive at hx|-;rw[hget,if_neg e]at hx;cases hg:X.get x with
   |none=>rw[hg]at hx;exact hx
   |some w =>
    rw[hg]at hx;cases w with
    |ce lx gx =>
     simp only at hx|-;rw[hlive]at hx;by_cases eg:gx=r
     ·rw[if_pos eg]at hx;have:mem x [r]=false:=by
       cases hm:mem x [r] with
       |false=>rfl
       |true=>rw[mem_iff]at hm;simp at hm;exact absurd hm e
      simp[this]at hx
     ·rw[if_neg eg]at hx;exact hx
    |mp=>exact hx
    |si=>exact hx
    |mi=>exact hx
    |lp=>exact hx
    |mu=>exact hx
    |ch=>exact hx
    |ty=>exact hx
 refine⟨_,X',⟨hst,h.sz,?_,?_,?_,h.gap,h.next,h.freshP,h.lows,?_,?_,?_,?_,fun b ob hb=>⟨(h.xtra b ob hb).1,(h.xtra b ob hb).2.1,hun b (fun e=>(h.xtra b ob hb).2.2.2 i hD hA hP e.symm) (h.xtra b ob hb).2.2.1,fun i' hd ha hq=>(h.xtra b ob hb).2.2.2 i' hd ha hq.1⟩⟩,hle⟩
 ·intro x i' o' hd ho' hx hn;by_cases e:i'=i
  ·subst e;rw[h.slotP x i' o' hd ho' hx hA hP];exact k5 _ Env.fj
  ·exact(h.slotV x i' o' hd ho' hx fun⟨ha,hq⟩=>hn ⟨ha,hq,e⟩).mono hle
 ·intro x i' o' hd ho' hx ha hq;exact h.slotP x i' o' hd ho' hx ha hq.1
 ·intro x hxe hx;exact(h.slot0 x hxe hx).mono hle
 ·intro i' h1 h2 ha hn;have hne:i'≠i:=by rintro rfl;exact hn ⟨hD,fun⟨_,e⟩=>e rfl⟩
  have hrne:rowAt R i'≠r:=fun e=>hne (OJ hS hR ha hA e)
  obtain⟨v1,v2,v3⟩:=h.undone i' h1 h2 ha (fun⟨hd,hq⟩=>hn ⟨hd,fun⟨hq',_⟩=>hq hq'⟩);exact⟨by rw[hget,if_neg hrne];exact v1,by rw[hlive,if_neg hrne];exact v2,by rw[Env.dY hrne];exact v3⟩
 ·intro x hx;by_cases e:x=r
  ·subst e;rw[hget,hlive,if_pos rfl,if_pos rfl];have:=g2 i hpi hiq hA l hl;exact⟨this.1.symm,this.2.symm⟩
  ·rw[hget,hlive,if_neg e,if_neg e];refine h.rest x fun i' h1 h2 ha hn=>?_
   by_cases e':i'=i
   ·subst e';exact e
   ·exact hx i' h1 h2 ha fun⟨hd,hq⟩=>hn ⟨hd,fun hq'=>hq ⟨hq',e'⟩⟩
 ·intro i' hd ha hq;obtain⟨v1,v2,v3,v4,v5⟩:=h.pend i' hd ha hq.1;have hb:β i'≠β i:=fun e=>hq.2 (h.inj i' i hd ha hq.1 hD hA hP e)
  exact⟨v1,v2,hun _ hb v3,fun l' hl' g=>(v4 l' hl' g).mono hle rfl,v5⟩
 ·intro i1 i2 hd ha hq hd' ha' hq';exact h.inj i1 i2 hd ha hq.1 hd' ha' hq'.1
theorem Inv.VQ(hr0:Rel E H0 (recAt R 0).st)(hS:gC S)(hR:jz P S nt ops R):∀ (c:Nat),p≤c→c≤q→∀ {E':Env} {X:St},Inv ops R nt E H0 ex xb D (fun i=>p≤i) p q a H E' X β ν ζ →
  ∃ E'' X',Inv ops R nt E H0 ex xb D (fun i=>c<=i) p q a H E'' X' β ν ζ/\E'.le E'':=by
 intro c;induction c with
 |zero =>
  intro hp _ E' X h;have:p=0:=by omega
  subst this;exact⟨E',X,h,.refl _⟩
 |succ c ih =>
  intro hp hq E' X h;rcases Q1 p (c+1) with hlt|hge
  ·obtain⟨E1,X1,h1,l1⟩:=ih (by omega) (by omega) h;by_cases hc:ev ops R c/\D c
   ·obtain⟨E2,X2,h2,l2⟩:=h1.AF hr0 hS hR (by omega) (by omega) hc.1 hc.2 (Q2 c);exact⟨E2,X2,h2.congr fun i _ _=>⟨fun⟨u,v⟩=>by omega,fun u=>⟨by omega,by omega⟩⟩,l1.trans l2⟩
   ·refine⟨E1,X1,h1.congr fun i hd ha=>⟨fun u=>?_,fun u=>by omega⟩,l1⟩;grind
  ·have:p=c+1:=by omega
   subst this;exact⟨E',X,h,.refl _⟩
end
section
variable {a : Act}{X : St}
theorem o7.dst(hs:o7 ops bs){i j:Nat}{x y:Oper}(hx:ops[i]? = some x)(hy:ops[j]? = some y){d:Tmp}(h1:x.dst=some d)(h2:y.dst=some d):i=j:=by
 have key:∀ {i j:Nat} {x y:Oper},i<j->ops[i]? = some x->ops[j]? = some y->x.dst=some d->y.dst=some d->False:=by intro i j x y hij hx hy h1 h2;have:=hs.pair i j x y hij hx hy;grind[xv,PH]
 grind
theorem o7.bit(hs:o7 ops bs){x:Oper}(hij:i<j)(hx:ops[i]? = some x)(hy:ops[j]? = some y)
  (h:(∃ d,x.dst=some d/\d∈y.looksAt ops)\/(∃ d,y.dst=some d/\d∈x.looksAt ops)\/(2<=kind x.op/\kind y.op=3)):(bh bs j).testBit i=true:=by
 have:=hs.pair i j x y hij hx hy;unfold xv at this;simp at this;rcases this.2 with hb|⟨hap,hcl⟩
 ·grind
 ·obtain⟨e1,e2,e3⟩:=Oper.apart_spec hap;rcases h with ⟨d,hd,hm⟩|⟨d,hd,hm⟩|⟨h1,h2⟩
  ·grind
  ·grind
  ·unfold clash at hcl;have:Nat.ble 2 (kind x.op)=true:=by simpa[Z4]using h1
   simp_all
theorem Inv.Qv(hs:o7 ops bs)(hR:jz P S nt ops R)(h:Inv ops R nt E H0 ex xb D (fun i=>q<=i) p q a H E' X β ν ζ)(hdown:∀ j,D j->∀ i,(bh bs j).testBit i=true->D i)(ho:ops[j]? = some o)(hj:¬ D j)(hrdy:∀ i,(bh bs j).testBit i=true->D i)(hxe:∀ x∈o.looksAt ops,¬ ex x):∀ x∈o.looksAt ops,Conc E' (ab (recAt R j).t x) (a.tmps.getD x undef):=by
 intro x hx;have hjn:j<ops.size:=(Q4.1 ho).1;by_cases hex:∃ (i:Nat) (oi:Oper),ops[i]? = some oi/\oi.dst=some x
 ·obtain⟨i,oi,hoi,hdi⟩:=hex;rcases J8 i j with hij|hij|hij
  ·have hb:=hs.bit hij hoi ho (.inl ⟨x,hdi,hx⟩);have hDi:=hrdy i hb;have hval:ab (recAt R j).t x=(recAt R i).v:=HO hR hoi hdi j hij (Q3 hjn) fun i' o' h1 h2 h3 h4=>by
    have:=hs.dst hoi h3 hdi h4;omega
   rw[hval];refine h.slotV x i oi hDi hoi hdi ?_;rintro⟨hA,hqi⟩;obtain⟨oi',hoi',hk,hw⟩:=id hA;rw[hoi]at hoi';cases hoi';rcases h.gap.atq with hq|hK
   ·grind
   ·have hnD:=h.gap.after q (Q2 _) hK;obtain⟨oq,hoq,hkq⟩:=hK;have hne:q≠i:=by
     grind
    have hlt:q<i:=by omega
    cases hbit:(bh bs i).testBit q with
    |true=>grind
    |false=>exact hnD (hrdy q (hs.early q i oq oi hlt hoq hoi hkq hk hbit j o ho x hdi hx))
  ·subst hij;have h0:ab (recAt R i).t x=ab (recAt R 0).t x:=zH hR i (Q3 hjn) fun i' o' h1 h3 h4=>by
    have:=hs.dst hoi h3 hdi h4;omega
   rw[h0];refine h.slot0 x (hxe x hx) fun i' o' hd h3 h4=>?_
   have:=hs.dst hoi h3 hdi h4;grind
  ·have h0:ab (recAt R j).t x=ab (recAt R 0).t x:=zH hR j (Q3 hjn) fun i' o' h1 h3 h4=>by
    have:=hs.dst hoi h3 hdi h4;omega
   rw[h0];refine h.slot0 x (hxe x hx) fun i' o' hd h3 h4=>?_
   have:=hs.dst hoi h3 hdi h4;subst this;exact hj (hdown i hd j (hs.bit hij ho hoi (.inr (.inl ⟨x,hdi,hx⟩))))
 ·have hno:∀ (i:Nat) (oi:Oper),ops[i]? = some oi->oi.dst≠some x:=fun i oi h1 h2=>hex ⟨i,oi,h1,h2⟩
  rw[zH hR j (Q3 hjn) fun i o _=>hno i o];exact h.slot0 x (hxe x hx) fun i o _=>hno i o
theorem Inv.add(hs:o7 ops bs)(hR:jz P S nt ops R)(h:Inv ops R nt E H0 ex xb D Pd p q a H E' X β ν ζ)(ho:ops[j]? = some o)(hj:¬ D j)(hnK:¬ lN ops j){z:Value}
  (hC:¬ ev ops R j->Conc E' (recAt R j).v z)
  (hA:ev ops R j->Pd j/\z=ζ j/\H0.size<=β j/\β j<H.size/\Un E' X (β j)/\(∀ l,(recAt R (j+1)).st=(recAt R j).st.aw l->∀ g,im E' H ⟨β j,0,ν j⟩ (.ce l g))/\
   (∀ F,F.phi (rowAt R j)=some ⟨β j,0,ν j⟩->Conc F (recAt R j).v (ζ j))/\(∀ i,D i->ev ops R i->Pd i->β i≠β j)/\∀ b ob,xb=some (b,ob)->β j≠b):
  Inv ops R nt E H0 ex xb (fun i=>i=j\/D i) Pd p q (a.put o.dst z) H E' X β ν ζ:=by
 have hput:∀ x,(a.put o.dst z).tmps.getD x undef=if o.dst=some x then z else a.tmps.getD x undef:=by
  intro x;cases hd:o.dst with
  |none=>simp[Q7]
  |some d =>
   have hlt:d<nt:=by have:=(hR j o ho).2.1;rw[hd]at this;exact Gc this
   simp[Q7];by_cases e:d=x
   ·have:d<a.tmps.size:=by rw[h.sz];grind
    grind
   grind
 have und:∀ i,ev ops R i->(¬ ((i=j\/D i)/\¬ Pd i)↔¬ (D i/\¬ Pd i)):=fun i ha=>by grind
 refine⟨h.st,?_,?_,?_,?_,⟨h.gap.pq,h.gap.qn,fun i o h1 h2 h3=>.inr (h.gap.before i o h1 h2 h3),h.gap.noK,h.gap.atq,?_,h.gap.start⟩,h.next,h.freshP,h.lows,?_,?_,?_,?_,?_⟩
 ·have:=h.sz;cases hd:o.dst with
  |none=>simpa[Q7]using this
  |some d=>simpa[Q7]using this
 ·intro x i oi hd hoi hx hn;rw[hput];by_cases e:i=j
  ·grind
  ·have:o.dst≠some x:=fun h'=>e (hs.dst hoi ho hx h')
   rw[if_neg this];exact h.slotV x i oi (hd.resolve_left e) hoi hx hn
 ·intro x i oi hd hoi hx ha hq;rw[hput];by_cases e:i=j
  ·grind
  ·have:o.dst≠some x:=fun h'=>e (hs.dst hoi ho hx h')
   rw[if_neg this];exact h.slotP x i oi (hd.resolve_left e) hoi hx ha hq
 ·intro x hxe hx;rw[hput,if_neg (hx j o (.inl rfl) ho)];exact h.slot0 x hxe fun i oi hd=>hx i oi (.inr hd)
 ·rintro i h1 h2 (rfl|hd)
  ·grind
  ·exact h.gap.after i h1 h2 hd
 ·intro i h1 h2 ha hn;exact h.undone i h1 h2 ha ((und i ha).1 hn)
 ·intro r hr;exact h.rest r fun i h1 h2 ha hn=>hr i h1 h2 ha ((und i ha).2 hn)
 ·rintro i (rfl|hd) ha hq
  ·grind
  ·exact h.pend i hd ha hq
 ·rintro i i' (rfl|hd) ha hq (rfl|hd') ha' hq' e
  ·rfl
  ·exact absurd e.symm ((hA ha).2.2.2.2.2.2.2.1 i' hd' ha' hq')
  ·exact absurd e ((hA ha').2.2.2.2.2.2.2.1 i hd ha hq)
  ·exact h.inj i i' hd ha hq hd' ha' hq' e
 ·intro b ob hb;obtain⟨u1,u2,u3,u4⟩:=h.xtra b ob hb;refine⟨u1,u2,u3,?_⟩;rintro i (rfl|hd) ha hq
  ·exact(hA ha).2.2.2.2.2.2.2.2 b ob hb
  ·exact u4 i hd ha hq
theorem Inv.other(h:Inv ops R nt E H0 ex xb D Pd p q a H E' X β ν ζ)(o:Obj):Inv ops R nt E H0 ex xb D Pd p q a (H.push o) E' X β ν ζ:=by
 refine⟨h.st.trans (Step.other h.st.rel o),h.sz,h.slotV,h.slotP,h.slot0,h.gap,h.next,h.freshP,h.lows,h.undone,h.rest,fun i hd ha hq=>?_,h.inj,fun b ob hb=>?_⟩
 rotate_left 1
 ·obtain⟨u1,u2,u3,u4⟩:=h.xtra b ob hb;grind
 obtain⟨v1,v2,v3,v4,v5⟩:=h.pend i hd ha hq;refine⟨v1,by grind,v3,fun l hl g=>(v4 l hl g).mono (.refl _) ?_,v5⟩;grind
theorem Inv.tell(h:Inv ops R nt E H0 ex xb D Pd p q a H E' X β ν ζ)(hj:¬ D j)(b n:Nat)(z:Value):
  Inv ops R nt E H0 ex xb D Pd p q a H E' X (fun i=>if i=j then b else β i) (fun i=>if i=j then n else ν i) (fun i=>if i=j then z else ζ i):=by
 have ne:∀ i,D i->i≠j:=fun i hd e=>hj (e▸hd)
 refine⟨h.st,h.sz,h.slotV,fun x i o hd ho hx ha hq=>?_,h.slot0,h.gap,h.next,h.freshP,h.lows,h.undone,h.rest,fun i hd ha hq=>?_,fun i i' hd ha hq hd' ha' hq' e=>?_,fun b ob hb=>?_⟩
 ·simp only[if_neg (ne i hd)];exact h.slotP x i o hd ho hx ha hq
 ·simp[if_neg (ne i hd)];exact h.pend i hd ha hq
 ·simp[if_neg (ne i hd),if_neg (ne i' hd')]at e;exact h.inj i i' hd ha hq hd' ha' hq' e
 ·obtain⟨u1,u2,u3,u4⟩:=h.xtra b ob hb;grind
theorem Ct(ops:Array Oper):∀ (m p:Nat),p+m=ops.size->∃ q,p<=q/\q<=ops.size/\(∀ i,p<=i->i<q->¬ lN ops i)/\(q=ops.size\/lN ops q)
 |0,p,h=>⟨p,Q2 _,by omega,fun i h1 h2=>by omega,.inl (by omega)⟩
 |m+1,p,h=>by
  by_cases hk:lN ops p
  ·grind
  ·obtain⟨q,h1,h2,h3,h4⟩:=Ct ops m (p+1) (by omega);grind
end
section
variable {a : Act}{X : St}
theorem ZZ(h:Rel E w.heap st){ρ:Operand->Value}(hρ:∀ x,Conc E (ai t x) (ρ x))(hk:kind o.op<2)(ho:da P S t st o=some (v,st')):
  ∃ z,(execOp ρ o).run P w=.ok (.value z) w/\Conc E v z:=by
 have val:∀ {s:Sem Value} {z:Value},s.run P w=.ok z w->((do pure (.value (<-s)):Sem Next)).run P w=.ok (.value z) w:=by simp_all
 unfold da at ho;cases hop:o.op<;>rw[hop]at ho hk<;>first|(simp only[kind]at hk;omega;done)|skip
 case move x =>cases ho;simp_all[execOp]
 case assign x =>cases ho;simp_all[execOp]
 case pick c a b =>
  have ho:rX (ai t a) (ai t b) st (ai t c).gV=some (v,st'):=ho;cases hb:(ai t c).gV with
  |none=>rw[hb]at ho;cases ho
  |some bb =>
   rw[hb]at ho;have hr:=MD (P:=P) (w:=w) hb (hρ c);simp only[execOp,hop];cases bb with
   |true =>cases ho;simp_all
   |false =>cases ho;simp_all
 case build ty parts =>obtain⟨rfl,z,k1,k2⟩:=Kz (S:=S) (w:=w) hρ ho;grind[execOp]
 case load ty a =>obtain⟨hd,rfl⟩:=kH ho;grind[I6,execOp]
 case nilCheck x =>obtain⟨rfl,k2,k3⟩:=Kh ho (hρ x);grind[PP]
 case binOp op ty x y ty' =>obtain⟨hd,rfl⟩:=kH ho;obtain⟨z,k1,k2⟩:=Po (w:=w) hd (hρ x) (hρ y);grind[execOp]
 case unOp op ty x =>obtain⟨hd,rfl⟩:=kH ho;obtain⟨z,k1,k2⟩:=Lp (w:=w) hd (hρ x);simp only[execOp,hop];exact⟨z,val k1,k2⟩
 case makeInterface=>cases(ho:(none:aR)=some (v,st'))
 case makeFunc fn a b =>
  obtain⟨hf,ho⟩:=fo ho;cases ho;simp only[execOp,hop];refine⟨.func fn (a.map ρ) (b.map ρ),val rfl,?_⟩;have:=Conc.f (E:=E) fn _ _ _ _ hf (vp hρ a.toList) (vp hρ b.toList)
  rwa [yN,yN]at this
 case slice ty x lo hi mx =>obtain⟨hd,rfl⟩:=kH ho;obtain⟨z,k1,k2⟩:=Oe h hd (hρ x) (xP hρ lo) (xP hρ hi) (xP hρ mx);grind[execOp]
 case fieldAddr s x n =>
  have ho:pZ s x n P S t st=some (v,st'):=ho;unfold pZ at ho;split at ho
  ·rename_i o' ho';obtain⟨rfl,z,k1,k2⟩:=PW (w:=w) ho' ho (hρ x);grind[execOp]
  grind
 case field=>cases(ho:(none:aR)=some (v,st'))
 case indexAddr ty x ix =>obtain⟨hd,rfl⟩:=kH ho;obtain⟨z,k1,k2⟩:=Lw (w:=w) hd (hρ x) (hρ ix);grind[execOp]
 case index ty x ix =>obtain⟨hd,rfl⟩:=kH ho;obtain⟨z,k1,k2⟩:=Rg (w:=w) hd (hρ x) (hρ ix);grind[execOp]
 case lookup ty x ix ok =>obtain⟨hd,rfl⟩:=kH ho;obtain⟨z,k1,k2⟩:=QU h hd (hρ x) (hρ ix);simp only[execOp,hop];exact⟨z,val k1,k2⟩
 case extract x n =>obtain⟨rfl,z,k1,k2⟩:=JL (P:=P) (w:=w) ho (hρ x);simp only[execOp,hop];exact⟨z,val k1,k2⟩
 case call c =>
  obtain⟨callee,as,ts⟩:=c;cases callee<;>first|(simp[kind]at hk;done)|skip
  rename_i bb;cases bb<;>first|(simp[kind]at hk;done)|skip
  have ho:ft P st ts.toList (args t as.toList)=some (v,st'):=ho;unfold ft at ho;split at ho
  ·rename_i x hx;have ha:=vp hρ as.toList;rw[hx]at ha;cases ha':as.toList with
   |nil=>rw[ha']at hx;cases hx
   |cons y l =>
    rw[ha']at hx;cases l with
    |cons=>cases hx
    |nil =>
     cases hx;obtain⟨rfl,z,k1,k2⟩:=QJ h (u:=ρ y) ho (hρ y) o.type;refine⟨z,?_,k2⟩;have e:as.map ρ = #[ρ y]:=by
      have:as = #[y]:=by rw[<-Array.toArray_toList (xs:=as),ha']
      rw[this];simp
     simp only[execOp,hop,resolve,invoke,e];have:=val k1;simpa[builtin]using this
  ·cases ho
def Looks(P:Program)(S:Self)(ops:Array Oper)(bs:List Nat)(R:List Rec):Prop :=
 ∀ j p o,ops[j]? = some o->kind o.op=1->(recAt R j).w=true->(p=0\/∃ k,p=k+1/\lN ops k)->
  Nr bs p j=true\/(∃ i,lN ops i/\p<=i/\(bh bs j).testBit i=true)\/(p<=j/\∀ i o',p<=i->i<j->ops[i]? = some o'->kind o'.op<2)\/
   ∃ u,da P S (recAt R j).t (recAt R p).st o=some ((recAt R j).v,u)
theorem aaz(hR:jz P S nt ops R):∀ (j:Nat),p<=j->j<=ops.size->(∀ i o',p<=i->i<j->ops[i]? = some o'->kind o'.op<2)->(recAt R j).st=(recAt R p).st:=by
 intro j;induction j with
 |zero=>grind
 |succ j ih =>
  intro hp hj hc;rcases Q1 p (j+1) with hlt|hge
  ·have ho:ops[j]? = some ops[j]:=by grind
   have hk:=hc j _ (by omega) (by omega) ho;have hnK:¬ lN ops j:=fun⟨o,h1,h2⟩=>by grind
   rcases P7 hR ho hnK (FT _) with ⟨_,h⟩|⟨⟨o,h1,h2,_⟩,_⟩
   ·rw[h];exact ih (by omega) (by omega) fun i o' h1 h2=>hc i o' h1 (by omega)
   ·rw[ho]at h1;cases h1;omega
  grind
theorem Inv.sub(hS:gC S)(hR:jz P S nt ops R)(h:Inv ops R nt E H0 ex xb D Pd p q a H E' X β ν ζ):Sub (recAt R p).st X:=by
 obtain⟨g1,g2⟩:=Av hS hR q h.gap.pq h.gap.qn h.gap.noK;have ne:∀ r,r<(recAt R p).st.next->∀ i,p<=i->i<q->ev ops R i->r≠rowAt R i:=by intro r hr i h1 h2 ha;have:(recAt R p).st.next<=rowAt R i:=oY hS hR h1 (Q3 ha.lt);omega
 refine⟨fun r x hx=>?_,fun g al hg=>?_⟩
 ·have hr:r<(recAt R p).st.next:=by
   rcases Q1 r (recAt R p).st.next with hl|hl
   ·grind
   ·rw[(h.freshP r hl).1]at hx;grind
  rw[(h.rest r fun i h1 h2 ha _=>ne r hr i h1 h2 ha).1,(g1 r (ne r hr)).1];grind
 ·have hr:g<(recAt R p).st.next:=by
   rcases Q1 g (recAt R p).st.next with hl|hl
   ·grind
   ·rw[(h.freshP g hl).2]at hg;grind
  rw[(h.rest g fun i h1 h2 ha _=>ne g hr i h1 h2 ha).2,(g1 g (ne g hr)).2];grind
theorem Inv.Ko(hS:cq P S)(hs:o7 ops bs)(hR:jz P S nt ops R)(hL:Looks P S ops bs R)(hr0:Rel E H0 (recAt R 0).st)(hn:(recAt R ops.size).st.next<=E.top)
  (h:Inv ops R nt E H0 ex xb D (fun i=>q<=i) p q a w.heap E' X β ν ζ) (hdown:∀ j,D j->∀ i,(bh bs j).testBit i=true->D i) (ho:ops[j]? = some o) (hj:¬ D j) (hrdy:∀ i,(bh bs j).testBit i=true->D i) (hxe:∀ x∈o.looksAt ops,¬ ex x) {j':Nat} (hmo:mops[j']? = some o') (hexe:∀ ρ,execOp ρ o'=execOp ρ o) (hop':o'.op=o.op) (hdst:o'.dst=o.dst)
  (hwy:Q9 o' (yielded mops a.tmps)=Q9 o (yielded ops a.tmps)) (cs:List Frame) (rest:List Nat):
  ∃ p' q' a' w' E'' X' β' ν' ζ',Inv ops R nt E H0 ex xb (fun i=>i=j\/D i) (fun i=>q'<=i) p' q' a' (Z5 w') E'' X' β' ν' ζ'/\a'.defers=a.defers/\(w'.os=w.os/\w'.output=w.output)/\(E'.le E''/\∀ x,o.dst≠some x->a'.tmps.getD x undef=a.tmps.getD x undef) /\
   Steps P (lone (b.atR a (.inRegion mops (j'::rest)::k)) cs w) (lone (b.atR a' (.inRegion mops rest::k)) cs w'):=by
 have hsee:=h.Qv hs hR hdown ho hj hrdy hxe;obtain⟨hguard,t',ρ,hρ,hev,hex⟩:=YT (P:=P) (S:=S) h.sz hsee;obtain⟨r1,r2,r3,r4⟩:=hR j o ho;have hw:=hwy.trans (hguard _ r1);have hjn:j<ops.size:=(Q4.1 ho).1;have skip:(recAt R j).w=false->∀ cs rest,Steps P (lone (b.atR a (.inRegion mops (j'::rest)::k)) cs w) (lone (b.atR (a.put o.dst undef) (.inRegion mops rest::k)) cs w):=by grind[stepR_op_skip,Q6]
 have sel:∀ {st:St} {r:AV× St},da P S (recAt R j).t st o=some r->∀ cs b,o.op≠.select cs b:=by intro st r _ cs b hop;have:=hs.nosel j o ho;rw[hop]at this;cases this
 have value:(recAt R j).w=true->∀ {z:Value} {w':World} {st:St} {r:AV× St},da P S (recAt R j).t st o=some r->(execOp ρ o).run P w=.ok (.value z) w'->
   ∀ cs rest,Steps P (lone (b.atR a (.inRegion mops (j'::rest)::k)) cs w) (lone (b.atR (a.put o.dst z) (.inRegion mops rest::k)) cs w'):=by
  grind[BS,EH,Q6]
 have hput:∀ (z:Value) x,(a.put o.dst z).tmps.getD x undef=if o.dst=some x then z else a.tmps.getD x undef:=by
  intro z x;cases hd:o.dst with
  |none=>simp[Q7]
  |some d =>
   have hlt:d<nt:=by rw[hd]at r2;exact Gc r2
   simp[Q7];by_cases e:d=x
   ·subst e;rw[Array.getElem?_setIfInBounds_self];have:d<a.tmps.size:=by rw[h.sz];exact hlt
    simp[this]
   grind
 have hkeep:∀ (z:Value) x,o.dst≠some x->(a.put o.dst z).tmps.getD x undef=a.tmps.getD x undef:=fun z x hne=>by rw[hput,if_neg hne]
 by_cases hK:lN ops j
 ·
  have hk3:kind o.op=3:=by obtain⟨o',h1,h2⟩:=hK;rw[ho]at h1;cases h1;exact h2
  have hjq:j=q:=by
   rcases J8 j q with hlt|he|hgt
   ·rcases Q1 j p with h1|h1
    ·exact absurd (h.gap.before j o h1 ho (by omega)) hj
    ·exact absurd hK (h.gap.noK j h1 hlt)
   ·exact he
   ·rcases h.gap.atq with hq|hq
    ·omega
    ·obtain⟨oq,hoq,hkq⟩:=id hq;have:=hs.bit hgt hoq ho (.inr (.inr ⟨by omega,hk3⟩));exact absurd (hrdy q this) (h.gap.after q (Q2 _) hq)
  subst hjq;have hall:∀ i,p<=i->i<j->ev ops R i->D i:=by intro i h1 h2 ha;obtain⟨oi,hoi,hki,_⟩:=ha;exact hrdy i (hs.bit h2 hoi ho (.inr (.inr ⟨by omega,hk3⟩)))
  have hX:∀ r,X.get r=(recAt R j).st.get r/\X.live.get r=(recAt R j).st.live.get r:=fun r =>
   h.rest r fun i h1 h2 ha hno=>absurd ⟨hall i h1 h2 ha,by omega⟩ hno
  have hstj:Step E E' H0 w.heap (recAt R 0).st (recAt R j).st:=h.st.ext (fun r=>(hX r).1.symm) (fun g=>(hX g).2.symm) (by rw[h.next];exact Q2 _);have htop:E'.top=E.top:=hstj.top;have hnj:(recAt R (j+1)).st.next≤E.top:=Z6 (oY hS.up hR (by omega) (Q2 _)) hn;have core:∃ E'' w' z,bt E' E'' w w' (recAt R j).st (recAt R (j+1)).st∧Conc E'' (recAt R j).v z∧
    Steps P (lone (b.atR a (.inRegion mops (j'::rest)::k)) cs w) (lone (b.atR (a.put o.dst z) (.inRegion mops rest::k)) cs w'):=by
   cases hW:(recAt R j).w with
   |false =>obtain⟨e1,e2⟩:=r3 hW;rw[e2,e1];exact⟨E',w,undef,.refl hstj.rel,.un,skip hW cs rest⟩
   |true =>
    have he:=r4 hW;have he':=he;rw[<-hev]at he';have hg:=Gi (fc:=b.atR a (.inRegion mops (j'::rest)::k)) (ks:=cs) hS hstj.rel hρ he' (by rw[htop];exact hnj);rw[hex (sel he),<-hexe]at hg;rw[hW]at hw;have hnd:∀ c,o'.op≠.defer c:=by rw[hop'];exact EH he
    obtain⟨E'',w',cv,k1,k2,k3⟩:=hg;refine⟨E'',w',cv,k1,k2,?_⟩;have hf:=Frame.finish_atR b a mops j' rest k cv;rw[hmo]at hf;simp[hdst]at hf;rcases k3 with (h|⟨h,rfl⟩)|⟨f,as,h,hcall⟩|⟨l,f,tmps,x,y,h,hround⟩|⟨cases,bl,sh,h,htell⟩
    ·have:=BS (b:=b) (k:=k) (cs:=cs) (rest:=rest) hmo hw hnd h;rw[hdst]at this;exact Q6 this
    ·have:=Ix (b:=b) (k:=k) (cs:=cs) (rest:=rest) hmo hw hnd h;rw[hdst]at this;exact Q6 this
    ·refine(Q6 (QL hmo hw hnd h)).trans ?_;obtain⟨fr,h1,h2,h3⟩:=hcall;refine h1.trans ?_;rw[<-hf];exact Q6 (step_leave_returned h3)
    ·refine(Q6 (Mh hmo hw hnd h)).trans ?_;rw[<-hf];exact hround
    ·obtain⟨es,hee⟩:=stepG_comm hmo hw hnd h;rw[<-hf];exact Q6 (htell _ cs es hee)
  obtain⟨E'',w',z,c1,c2,c3⟩:=core;obtain⟨q',n1,n2,n3,n4⟩:=Ct ops (ops.size-(j+1)) (j+1) (by omega);obtain⟨g1,g2⟩:=Av hS.up hR q' n1 n2 n3;have hnq:(recAt R q').st.next<=E.top:=Z6 (oY hS.up hR n2 (Q2 _)) hn
  let X2:St:=⟨(recAt R (j+1)).st.rows,(recAt R (j+1)).st.live,(recAt R q').st.next⟩
  have hst2:Step E E'' H0 w'.heap (recAt R 0).st X2:=(hstj.trans c1.toStep).ext (fun _=>rfl) (fun _=>rfl) (oY hS.up hR n1 n2);have htop2:E''.top=E.top:=by rw[c1.top,htop]
  have hrel:=c1.rel;have hafter:∀ i,j<i->lN ops i->¬ D i:=fun i h1 h2=>h.gap.after i (by omega) h2
  have hnA:¬ ev ops R j:=fun⟨o',h1,h2,_⟩=>by rw[ho]at h1;cases h1;omega
  have hI:Inv ops R nt E H0 ex xb (fun i=>i=j\/D i) (fun i=>j+1<=i) (j+1) q' (a.put o.dst z) w'.heap E'' X2 β ν ζ:=by
   refine⟨hst2,?_,?_,?_,?_,⟨n1,n2,?_,n3,n4,?_,.inr ⟨j,rfl,hK⟩⟩,rfl,?_,?_,?_,?_,?_,?_,?_⟩
   ·have:=h.sz;cases hd:o.dst with
    |none=>simpa[Q7]using this
    |some d=>simpa[Q7]using this
   ·intro x i oi hd hoi hx hno;rw[hput];by_cases e:i=j
    ·subst e;rw[ho]at hoi;cases hoi;rw[if_pos hx];exact c2
    ·have:o.dst≠some x:=fun h'=>e (hs.dst hoi ho hx h')
     rw[if_neg this];refine(h.slotV x i oi (hd.resolve_left e) hoi hx fun⟨ha,hq⟩=>hno ⟨ha,by omega⟩).mono c1.le
   ·intro x i oi hd hoi hx ha hq;have e:i≠j:=by omega
    have:o.dst≠some x:=fun h'=>e (hs.dst hoi ho hx h')
    rw[hput,if_neg this];exact h.slotP x i oi (hd.resolve_left e) hoi hx ha (by omega)
   ·intro x hxe hx;rw[hput,if_neg (hx j o (.inl rfl) ho)];exact(h.slot0 x hxe fun i oi hd=>hx i oi (.inr hd)).mono c1.le
   ·intro i oi h1 hoi h2;by_cases e:i=j
    ·exact .inl e
    ·right;rcases Q1 i p with h3|h3
     ·exact h.gap.before i oi h3 hoi h2
     ·exact hrdy i (hs.bit (by omega) hoi ho (.inr (.inr ⟨h2,hk3⟩)))
   ·rintro i h1 h2 (rfl|hd)
    ·omega
    ·exact hafter i (by omega) h2 hd
   ·intro r hr;exact⟨hrel.freshRow r hr,hrel.freshG r hr⟩
   ·intro g al hg x hx;exact hrel.liveLt g al x hg hx
   ·intro i h1 h2 ha _;have hge:(recAt R (j+1)).st.next<=rowAt R i:=oY hS.up hR h1 (Q3 ha.lt);have hlt:=wB hS.up hR ha h2 n2;exact⟨hrel.freshRow _ hge,hrel.freshG _ hge,hrel.fresh _ hge (by rw[htop2];omega)⟩
   ·intro r hr;have:=g1 r fun i h1 h2 ha=>hr i h1 h2 ha (fun⟨_,h3⟩=>h3 h1)
    exact⟨this.1.symm,this.2.symm⟩
   ·intro i hd ha hq;have e:i≠j:=by omega
    obtain⟨v1,v2,v3,v4,v5⟩:=h.pend i (hd.resolve_left e) ha (by omega);have hun:Un E' (recAt R j).st (β i):=by refine⟨?_,v3.2⟩;rintro⟨r,row,B,hr,hB,hb⟩;exact v3.1 ⟨r,row,B,by rw[<-St.BR (fun r=>(hX r).1) (fun g=>(hX g).2)]at hr;exact hr,hB,hb⟩
    refine⟨v1,Nat.lt_of_lt_of_le v2 c1.fr.size,?_,fun l hl g=>(v4 l hl g).mono c1.le (c1.fr.keep _ v2 hun.1),v5⟩;have:=c1.un v2 hun;refine⟨?_,this.2⟩;rintro⟨r,row,B,hr,hB,hb⟩;exact this.1 ⟨r,row,B,hr,hB,hb⟩
   ·intro i i' hd ha hq hd' ha' hq';exact h.inj i i' (hd.resolve_left (by omega)) ha (by omega) (hd'.resolve_left (by omega)) ha' (by omega)
   ·intro b ob hb;obtain⟨u1,u2,u3,u4⟩:=h.xtra b ob hb;have hlt:b<w.heap.size:=(Q4.1 u2).1;have hun:Un E' (recAt R j).st b:=by
     refine⟨?_,u3.2⟩;rintro⟨r,row,B,hr,hB,hb⟩;exact u3.1 ⟨r,row,B,by rw[<-St.BR (fun r=>(hX r).1) (fun g=>(hX g).2)]at hr;exact hr,hB,hb⟩
    refine⟨u1,(c1.fr.keep _ hlt hun.1).trans u2,?_,fun i hd ha hq=>u4 i (hd.resolve_left (by omega)) ha (by omega)⟩;have:=c1.un hlt hun;refine⟨?_,this.2⟩;rintro⟨r,row,B,hr,hB,hb⟩;exact this.1 ⟨r,row,B,hr,hB,hb⟩
  obtain⟨E3,X3,hI3,l3⟩:=hI.VQ hr0 hS.up hR q' n1 (Q2 _);exact⟨j+1,q',_,w',E3,X3,β,ν,ζ,hI3,put_defers ..,⟨c1.os,c1.out⟩,⟨c1.le.trans l3,hkeep z⟩,c3⟩
 ·cases hW:(recAt R j).w with
  |false =>
   have hnA:¬ ev ops R j:=fun⟨_,_,_,h'⟩=>by rw[hW]at h';cases h'
   refine⟨p,q,_,w,E',X,β,ν,ζ,h.add hs hR ho hj hK (fun _=>?_) (fun ha=>absurd ha hnA),put_defers ..,⟨rfl,rfl⟩,⟨.refl _,hkeep _⟩,skip hW cs rest⟩;rw[(r3 hW).1];exact .un
  |true =>
   have he:=r4 hW;have hk3:kind o.op≠3:=fun e=>hK ⟨o,ho,e⟩
   have hkle:=FT o;by_cases hk2:kind o.op=2
   ·
    have hA:ev ops R j:=⟨o,ho,hk2,hW⟩;have he':=he;rw[<-hev]at he';obtain⟨l,hl,z,ob,n,m1,m2,m3⟩:=acP hρ hk2 he';have hnB:∀ H:Array Obj,H.size<=w.heap.size->Rel E' H X->Un E' X w.heap.size:=by intro H hle hrel;refine hrel.Gj hle ?_;rintro⟨r,row,C,hr,hC,hb⟩;obtain⟨C',hC',hR'⟩:=hrel.rows _ _ hr;rw[hC]at hC';cases hC';have:=hR'.lt;omega
    have hjp:p<=j:=by
     rcases Q1 j p with h1|h1
     ·exact absurd (h.gap.before j o h1 ho (by omega)) hj
     ·exact h1
    have h1:=((h.other ob).tell hj w.heap.size n z).congr (Pd':=fun i=>q<=i\/i=j) (fun i hd _=>⟨.inl,fun hh=>hh.resolve_right (fun e=>hj (e▸hd))⟩);have hsame:∀ l',(recAt R (j+1)).st=(recAt R j).st.aw l'->l'=l:=by intro l' hl';have e1:=St.uJ (recAt R j).st l (recAt R j).st.next;rw[<-hl,hl',St.uJ,if_pos rfl,if_pos rfl]at e1;cases e1;rfl
    have h2:=h1.add hs hR ho hj hK (z:=z) (fun hno=>absurd hA hno) (fun _=>by
     refine⟨.inr rfl,by simp,?_,?_,?_,?_,?_,?_,?_⟩
     ·simp;exact h.st.fr.size
     ·simp
     ·simp;exact hnB w.heap (Q2 _) h.st.rel
     ·intro l' hl' g;have:=hsame l' hl';subst this;simp;exact m2 g
     ·intro F hF;simp at hF|-;exact m3 F hF
     ·intro i hd ha hq;have hne:i≠j:=fun e=>hj (e▸hd)
      have hq':q<=i:=hq.resolve_right hne;have:=(h.pend i hd ha hq').2.1;simp[if_neg hne];omega
     ·intro b ob' hb;have:=(Q4.1 (h.xtra b ob' hb).2.1).1;simp;omega)
    have hsteps:=value hW he m1 cs rest;rcases Q1 j q with hlt|hge
    ·obtain⟨E3,X3,h3,l3⟩:=h2.AF hr0 hS.up hR hjp hlt hA (.inl rfl) (.inr rfl);refine⟨p,q,_,{ w with heap:=w.heap.push ob },E3,X3,_,_,_,h3.congr fun i hd _=>⟨fun⟨u,v⟩=>u.resolve_right v,fun u=>⟨.inl u,by omega⟩⟩,put_defers ..,⟨rfl,rfl⟩,⟨l3,hkeep z⟩,hsteps⟩
    ·exact⟨p,q,_,{ w with heap:=w.heap.push ob },E',X,_,_,_,h2.congr fun i hd _=>⟨fun u=>u.elim id (fun e=>by omega),.inl⟩,put_defers ..,⟨rfl,rfl⟩,⟨.refl _,hkeep z⟩,hsteps⟩
   ·
    have hk01:kind o.op<2:=by omega
    have hnA:¬ ev ops R j:=fun⟨o',h1,h2,_⟩=>by rw[ho]at h1;cases h1;omega
    have heX:da P S (recAt R j).t X o=some ((recAt R j).v,X):=by
     by_cases hk0:kind o.op=0
     ·obtain⟨f,hf⟩:=MO hk0;rw[hf]at he|-;rw[(kH he).1];rfl
     ·have hk1:kind o.op=1:=by omega
      have hp:∃ u,da P S (recAt R j).t (recAt R p).st o=some ((recAt R j).v,u):=by
       rcases hL j p o ho hk1 hW h.gap.start with h1|⟨i,h1,h2,h3⟩|⟨h1,h2⟩|h1
       ·exfalso;rcases h.gap.start with h0|⟨kk,h0,hKk⟩
        ·rw[h0]at h1;cases h1
        ·rw[h0]at h1;have hb:(bh bs kk).testBit j=true:=h1;obtain⟨ok,hok,hkk⟩:=hKk;exact hj (hdown kk (h.gap.before kk ok (by omega) hok (by omega)) j hb)
       ·exfalso;have hDi:=hrdy i h3;rcases Q1 i q with h4|h4
        ·exact h.gap.noK i h2 h4 h1
        ·exact h.gap.after i h4 h1 hDi
       ·rw[<-aaz hR j h1 (Q3 hjn) h2];exact⟨_,he⟩
       ·exact h1
      obtain⟨u,hu⟩:=hp;exact Qd hk1 (h.sub hS.up hR) hu
    have heX':=heX;rw[<-hev]at heX';obtain⟨z,m1,m2⟩:=ZZ h.st.rel hρ hk01 heX';exact⟨p,q,_,w,E',X,β,ν,ζ,h.add hs hR ho hj hK (fun _=>m2) (fun ha=>absurd ha hnA),put_defers ..,⟨rfl,rfl⟩,⟨.refl _,hkeep z⟩,value hW heX m1 cs rest⟩
end
theorem Kn:∀ {a b:List Nat},leq a b=true->a=b
 |[],[],_=>rfl
 |x::a,y::b,h=>by
  have h':@Bool.rec (fun _=>Bool) false (leq a b) (J5 x y)=true:=h;cases hb:J5 x y with
  |false=>simp_all
  |true =>
   rw[hb]at h';have e:x=y:=by simp_all
   rw[e,Kn h']
 |[],_::_,h=>by cases h
 |_::_,[],h=>by cases h
theorem Zv{a b:Int}(h:pV a b=true):a=b:=by cases a<;>cases b<;>simp[pV,bu]at h<;>first|grind|cases h
theorem Au{f:AV->AV->Bool}(hf:∀ a b,f a b=true->a=b):∀ {l m:List AV},wU f l m=true->l=m
 |[],[],_=>rfl
 |a::l,b::m,h=>by
  unfold wU at h;cases hb:f a b with
  |false=>grind
  |true=>rw[hb]at h;rw[hf a b hb,Au hf h]
 |[],_::_,h=>by cases h
 |_::_,[],h=>by cases h
theorem Xa{a b:Option Nat}(h:Im a b=true):a=b:=by cases a<;>cases b<;>simp[Im,bu]at h<;>first|rfl|grind
theorem Zh:∀ (n:Nat) (a b:AV),qv n a b=true->a=b:=by
 intro n;induction n with
 |zero=>intro a b h;cases h
 |succ n ih =>
  intro a b h;unfold qv at h;split at h
  ·rfl
  ·grind
  ·simp at h;have h1:=of_decide_eq_true h.1;rw[h1,Zv h.2]
  ·rw[Kn h]
  ·simp_all
  ·rfl
  ·simp_all
  ·rw[Au ih h]
  ·grind[bu,Xa]
  ·rfl
  ·simp[bu]at h;rw[h.1,h.2.1,Au ih h.2.2]
  ·simp_all
  ·rfl
  ·simp_all
  ·rfl
  ·grind[bu]
  ·rfl
  ·rw[Au ih h]
  ·rw[Au ih h]
  grind
theorem Jw{D:Nat->Prop}:∀ (n:Nat),(∃ i,i<n/\¬ D i)->∃ i,i<n/\¬ D i/\∀ i',i'<i->D i'
 |0,⟨i,h,_⟩=>by omega
 |n+1,h=>by
  by_cases h':∃ i,i<n/\¬ D i
  ·obtain⟨i,h1,h2,h3⟩:=Jw n h';grind
  grind
structure Perm(mops ops:Array Oper)(σ τ:Nat->Nat):Prop where
 size:mops.size=ops.size
 lt:∀ i,i<ops.size->σ i<ops.size
 tlt:∀ i,i<ops.size->τ i<ops.size
 st:∀ i,i<ops.size->σ (τ i)=i
 ts:∀ i,i<ops.size->τ (σ i)=i
 op:∀ i o,ops[i]? = some o->∃ o',mops[σ i]? = some o'/\(∀ ρ,execOp ρ o'=execOp ρ o)/\o'.op=o.op/\o'.dst=o.dst/\∀ tmps,Q9 o' (yielded mops tmps)=Q9 o (yielded ops tmps)
theorem Perm.refl:Perm ops ops id id :=
 ⟨rfl,fun _ h=>h,fun _ h=>h,fun _ _=>rfl,fun _ _=>rfl,fun i o ho=>⟨o,ho,fun _=>rfl,rfl,rfl,fun _=>rfl⟩⟩
theorem YS(hg:o.guard=(o'.guard.map fun g=>(τ g.1,g.2)))(hr:∀ (g:Nat × Bool),o'.guard=some g→(mops[g.1]?).bind (·.dst)=(ops[τ g.1]?).bind (·.dst))(tmps:Array Value) :
  Q9 o' (yielded mops tmps)=Q9 o (yielded ops tmps):=by
 grind[Q9,yielded]
theorem o7.QB(hs:o7 ops bs):∀ (j:Nat) (i:Nat) (o:Oper),ops[j]? = some o->(bh bs j).testBit i=true->i<j:=by
 intro j;induction j using Nat.strongRecOn with
 |ind j ih =>intro i o ho hb;obtain⟨e,he,hbi,h⟩:=hs.bef j o i ho hb;have hlt:=hs.edge j o ho e he hbi;grind
theorem Vl(hedge:∀ j o,mops[j]? = some o->∀ e∈o.after,Q0 .any e=true->e.on<j):
  ∀ (fuel t:Nat) (listed:Array Bool) (U:List Nat),listed.size=mops.size->U.Nodup->U.length=fuel->(∀ i,i∈U↔i<mops.size/\listed.getD i false=false)->
   (J1 .any mops fuel t listed []).Nodup/\(∀ i,i∈J1 .any mops fuel t listed []↔i∈U)/\
   ∀ pre j post o,J1 .any mops fuel t listed []=pre++j::post->mops[j]? = some o->∀ e∈o.after,Q0 .any e=true->listed.getD e.on false=true\/e.on∈pre:=by
 intro fuel;induction fuel with
 |zero =>grind[J1]
 |succ fuel ih =>
  intro t listed U hsz hnd hlen hU;have hex:∃ i,i<mops.size/\¬ listed.getD i false=true:=by
   cases hLL:U with
   |nil=>grind
   |cons x l =>grind[J9]
  obtain⟨i0,hi0,hu0,hall0⟩:=Jw mops.size hex;have hr0':i0∈Q8 .any mops listed:=by refine mem_ready.2 ⟨?_,mops[i0],by grind,fun e he hb=>hall0 e.on (hedge i0 _ (by grind) e he hb)⟩;grind
  have hgo:J1 .any mops (fuel+1) t listed []=(match (Q8 .any mops listed)[t % (Q8 .any mops listed).length]? with
   |some i=>J1 .any mops fuel (t / (Q8 .any mops listed).length) (listed.setIfInBounds i true) [i]
   |none=>[].reverse):=by
   rfl
  rw[hgo];cases hi:(Q8 .any mops listed)[t % (Q8 .any mops listed).length]? with
  |none =>grind[Nat.mod_lt]
  |some j =>
   simp only[];rw[linearise_go_acc,List.reverse_singleton,List.singleton_append];have hjr:j∈Q8 .any mops listed:=List.mem_of_getElem? hi;obtain⟨hj0,o,ho,hal⟩:=mem_ready.1 hjr;have hjn:j<mops.size:=(Q4.1 ho).1;have hjl:j<listed.size:=by omega
   have hj:listed.getD j false=false:=by simp at hj0|-;simp[hjl]at hj0|-;exact hj0
   have hset:∀ i,(listed.setIfInBounds j true).getD i false=true↔i=j\/listed.getD i false=true:=by
    intro i;by_cases e:i=j
    ·subst e;simp;simp[hjl]
    ·rw[getD_set_ne false (Ne.symm e)];simp[e]
   have hjU:j∈U:=(hU j).2 ⟨hjn,hj⟩;obtain⟨k1,k2,k3⟩:=ih (t / (Q8 .any mops listed).length) (listed.setIfInBounds j true) (U.erase j) (by simpa using hsz) (hnd.erase j) (by rw[List.length_erase_of_mem hjU];omega) (by
    intro i;rw[hnd.mem_erase_iff,hU i];constructor
    ·rintro⟨h1,h2,h3⟩;refine⟨h2,?_⟩;rw[getD_set_ne false (Ne.symm h1)];exact h3
    ·rintro⟨h1,h2⟩;have hne:i≠j:=by
      rintro rfl;have:=(hset i).2 (.inl rfl);rw[this]at h2;cases h2
     rw[getD_set_ne false (Ne.symm hne)]at h2;exact⟨hne,h1,h2⟩)
   refine⟨Z7.2 ⟨fun hm=>?_,k1⟩,fun i=>?_,?_⟩
   ·have:=(k2 j).1 hm;rw[hnd.mem_erase_iff]at this;exact this.1 rfl
   ·rw[J6,k2 i,hnd.mem_erase_iff];constructor
    ·rintro(rfl|h)
     ·exact hjU
     ·exact h.2
    ·intro h;by_cases e:i=j
     ·exact .inl e
     ·exact .inr ⟨e,h⟩
   ·intro pre j1 post o1 hL ho1 e he hb;cases pre with
    |nil =>have h1:j=j1:=(Z8 hL).1;subst h1;rw[ho]at ho1;cases ho1;exact .inl (hal e he hb)
    |cons x pre =>
     obtain⟨rfl,hL'⟩:=Z8 hL;rcases k3 pre j1 post o1 hL' ho1 e he hb with h|h
     ·rcases(hset e.on).1 h with h|h
      ·exact .inr (by rw[h];exact J9 ..)
      ·exact .inl h
     ·exact .inr (Z9 _ h)
theorem FC(hedge:∀ j o,mops[j]? = some o->∀ e∈o.after,Q0 .any e=true->e.on<j)(t:Nat):
  (J3 .any mops t).Nodup/\(∀ i,i∈J3 .any mops t↔i<mops.size)/\
   ∀ pre j post o,J3 .any mops t=pre++j::post->mops[j]? = some o->∀ e∈o.after,Q0 .any e=true->e.on∈pre:=by
 have hlf:∀ i,(V0 mops.size false).getD i false=false:=by simp[Array.getElem?_replicate];grind
 obtain⟨h1,h2,h3⟩:=Vl hedge mops.size t (V0 mops.size false) (V1 mops.size) (by simp) List.nodup_range (by simp) (by grind);refine⟨h1,fun i=>by rw[<-List.mem_range];exact h2 i,fun pre j post o hL ho e he hb=>(h3 pre j post o hL ho e he hb).resolve_left fun h=>?_⟩;grind
theorem sched(hS:cq P S)(hs:o7 ops bs)(hR:jz P S nt ops R)(hL:Looks P S ops bs R)(hr0:Rel E H0 (recAt R 0).st)(hn:(recAt R ops.size).st.next<=E.top)(hp:Perm mops ops σ τ):
  ∀ (L:List Nat) (D:Nat->Prop),L.Nodup->(∀ i,i∈L↔i<ops.size/\¬ D i)->
   (∀ pre j post o,L=pre++j::post->ops[τ j]? = some o->∀ e∈o.after,Q0 .any e=true->D (σ e.on)\/σ e.on∈pre)->
   (∀ j,j<ops.size->D (σ j)->∀ i,(bh bs j).testBit i=true->D (σ i))->
   ∀ {p q:Nat} {a:Act} {w:World} {E':Env} {X:St} {β ν:Nat->Nat} {ζ:Nat->Value},Inv ops R nt E H0 (fun _=>False) none (fun i=>i<ops.size/\D (σ i)) (fun i=>q<=i) p q a w.heap E' X β ν ζ->
   ∃ E'' a' w',Step E E'' H0 (Z5 w') (recAt R 0).st (recAt R ops.size).st/\cJ E'' nt (recAt R ops.size).t a'.tmps/\a'.defers=a.defers/\(w'.os=w.os/\w'.output=w.output)/\
    Steps P (lone (b.atR a (.inRegion mops L::k)) ks w) (lone (b.atR a' k) ks w'):=by
 intro L;induction L with
 |nil =>
  intro D hnd hLD hord hdown p q a w E' X β ν ζ h;have hall:∀ i,i<ops.size->i<ops.size/\D (σ i):=by intro i hi;refine⟨hi,Classical.byContradiction fun hc=>?_⟩;have:=(hLD (σ i)).2 ⟨hp.lt i hi,hc⟩;grind
  have hq:q=ops.size:=by
   rcases h.gap.atq with h1|h1
   ·grind
   ·have hlt:q<ops.size:=by obtain⟨o,ho,_⟩:=h1;grind
    exact absurd (hall q hlt) (h.gap.after q (Q2 _) h1)
  subst hq;have hX:∀ r,X.get r=(recAt R ops.size).st.get r/\X.live.get r=(recAt R ops.size).st.live.get r:=fun r =>
   h.rest r fun i h1 h2 ha hno=>absurd ⟨hall i h2,by omega⟩ hno
  refine⟨E',a,w,h.st.ext (fun r=>(hX r).1.symm) (fun g=>(hX g).2.symm) (by rw[h.next];grind),⟨h.sz,fun x=>?_⟩,rfl,⟨rfl,rfl⟩,?_⟩
  ·by_cases hex:∃ (i:Nat) (oi:Oper),ops[i]? = some oi/\oi.dst=some x
   ·obtain⟨i,oi,hoi,hdi⟩:=hex;have hin:i<ops.size:=(Q4.1 hoi).1;have hval:ab (recAt R ops.size).t x=(recAt R i).v:=HO hR hoi hdi ops.size hin (Q2 _) fun i' o' h1 h2 h3 h4=>by
     have:=hs.dst hoi h3 hdi h4;omega
    rw[hval];exact h.slotV x i oi (hall i hin) hoi hdi fun⟨_,hq⟩=>by omega
   ·have hno:∀ (i:Nat) (oi:Oper),ops[i]? = some oi->oi.dst≠some x:=fun i oi h1 h2=>hex ⟨i,oi,h1,h2⟩
    rw[zH hR ops.size (Q2 _) fun i o _=>hno i o];exact h.slot0 x (fun h=>h) fun i o _=>hno i o
  ·exact Q6 stepR_region_end
 |cons j' L ih =>
  intro D hnd hLD hord hdown p q a w E' X β ν ζ h;obtain⟨hj'n,hj'D⟩:=(hLD j').1 (J9 ..);have hjn:τ j'<ops.size:=hp.tlt j' hj'n;have hsj:σ (τ j')=j':=hp.st j' hj'n;have ho:ops[τ j']? = some ops[τ j']:=by grind
  generalize ops[τ j']=o at ho;obtain⟨o',hmo,hexe,hop,hdst,hwy⟩:=hp.op _ _ ho;rw[hsj]at hmo;have hdn:∀ j,(j<ops.size/\D (σ j))->∀ i,(bh bs j).testBit i=true->i<ops.size/\D (σ i):=fun j hj i hb=>by have:=hs.QB j i ops[j] (by grind) hb;grind
  have hrdy:∀ i,(bh bs (τ j')).testBit i=true->i<ops.size/\D (σ i):=by
   intro i hb;have hlt:=hs.QB _ i o ho hb;refine⟨by omega,?_⟩;obtain⟨e,he,hbi,h1⟩:=hs.bef _ o i ho hb;have hD:D (σ e.on):=(hord [] j' L o rfl ho e he hbi).resolve_right (by simp);rcases h1 with rfl|h1
   ·grind
   ·have:=hs.edge _ o ho e he hbi;exact hdown e.on (by omega) hD i h1
  obtain⟨p',q',a',w',E'',X',β',ν',ζ',hI,hdf,hos,-,hst⟩:=h.Ko hS hs hR hL hr0 hn hdn ho (fun hd=>hj'D (by grind)) hrdy (fun _ _ h=>h) hmo hexe hop hdst (hwy _) ks L;have hfun:(fun i=>i=τ j'\/(i<ops.size/\D (σ i)))=fun i=>i<ops.size/\(σ i=j'\/D (σ i)):=funext fun i=>propext ⟨fun hh=>by
   rcases hh with rfl|hh
   ·exact⟨hjn,.inl hsj⟩
   ·exact⟨hh.1,.inr hh.2⟩,fun hh=>by
   rcases hh with ⟨h1,h2|h2⟩
   ·exact .inl (by rw[<-h2,hp.ts i h1])
   ·exact .inr ⟨h1,h2⟩⟩
  rw[hfun]at hI;have hnd':=Z7.1 hnd;obtain⟨E3,a3,w3,k1,k2,k3,kos,k4⟩:=ih (fun i=>i=j'\/D i) hnd'.2 (by
   intro i;constructor
   ·intro hi;have:=(hLD i).1 (Z9 _ hi);refine⟨this.1,?_⟩;rintro(rfl|hd)
    ·exact hnd'.1 hi
    ·exact this.2 hd
   ·rintro⟨h1,h2⟩;have:=(hLD i).2 ⟨h1,fun hd=>h2 (.inr hd)⟩;rcases J6.1 this with rfl|this
    ·exact absurd (.inl rfl) h2
    ·exact this) (by
   intro pre j post o1 hL1 ho1 e he hb;rcases hord (j'::pre) j post o1 (by rw[hL1];rfl) ho1 e he hb with h1|h1
   ·exact .inl (.inr h1)
   ·rcases J6.1 h1 with h1|h1
    ·exact .inl (.inl h1)
    ·exact .inr h1) (by
   intro j hj hd i hb;rcases hd with hd|hd
   ·right;have:j=τ j':=by rw[<-hd,hp.ts j hj]
    subst this;exact(hrdy i hb).2
   ·exact .inr (hdown j hj hd i hb)) hI
  exact⟨E3,a3,w3,k1,k2,by rw[k3,hdf],⟨kos.1.trans hos.1,kos.2.trans hos.2⟩,hst.trans k4⟩
theorem Rm(hsz:R.length=ops.size+1)(h:fl.all (recheck P S ops R)=true)(ho:ops[j]? = some o)(hm:(j,p)∈fl)(hp:p<=ops.size)(hw:(recAt R j).w=true):
  ∃ u,da P S (recAt R j).t (recAt R p).st o=some ((recAt R j).v,u):=by
 have h1:=List.all_eq_true.1 h _ hm;have hjn:j<ops.size:=(Q4.1 ho).1;have at':∀ i,i<=ops.size->R[i]? = some (recAt R i):=by grind[recAt]
 unfold recheck at h1;rw[at' j (by omega),at' p hp]at h1;simp[ho,Fi,hw]at h1;unfold Eg at h1;split at h1
 ·rcases Bool.or_eq_true _ _▸h1 with h1|h1
  ·grind[Zh]
  ·have h1:@decide _ (Classical.propDecidable _)=true:=h1;grind
 grind
theorem H6(hS:cq x.P x.S){id:Nat}(hper:Perm mops ops σ τ)
  (hedge:∀ j o,mops[j]? = some o->∀ e∈o.after,Q0 .any e=true->e.on<j) {a:Act} (hr:Rel E w.heap st) (ht:cJ E x.nt t a.tmps) (hm:Marks n0 b.defers E w.heap st a.defers)
  (hlin:∀ pre j post o,J3 .any mops (w.tape w.drawn (.order b.fn id))=pre++j::post->ops[τ j]? = some o->∀ e∈o.after,Q0 .any e=true->σ e.on∈pre) (hp:kj ops=some fl) (hl:(nD x.P x.S ops fl (bI x.P x.S x.nt ops ops.toList t st)).lim E.top):dF x.P ks n0 E x.nt b w st (lone (b.atR a (.code (.region id mops true)::k)) ks w) k (nD x.P x.S ops fl (bI x.P x.S x.nt ops ops.toList t st)):=by
 unfold kj at hp;cases hb:lG ops.toList [] with
 |none=>grind
 |some bs =>
  rw[hb]at hp;simp only at hp;cases hd:vT ops bs [] ops.toList bs with
  |false=>grind
  |true =>
   rw[hd]at hp;simp at hp;generalize hks:ops.toList.map (fun o=>kind o.op)=ks at hp;have hks':∀ (i:Nat) (o:Oper),ops[i]? = some o->ks[i]? = some (kind o.op):=by grind
   have hksr:∀ (i m:Nat),ks[i]? = some m->∃ o,ops[i]? = some o/\kind o.op=m:=by grind
   have hfl:=hp;unfold nD at hl|-;cases hrc:bI x.P x.S x.nt ops ops.toList t st with
   |none=>trivial
   |some R =>
    rw[hrc]at hl;simp only at hl|-;cases hall:fl.all (recheck x.P x.S ops R) with
    |false=>trivial
    |true =>
     rw[hall]at hl;obtain⟨e1,e2,e3,e4⟩:=Ff hrc;have hsz:R.length=ops.size+1:=by grind
     rw[HV hsz]at hl|-;have hn:(recAt R ops.size).st.next<=E.top:=hl;have hs:=settled hb hd;have hR:jz x.P x.S x.nt ops R:=fun i o ho=>e4 i o (by grind)
     have hL:Looks x.P x.S ops bs R:=by
      intro j p o ho hk hw hp;have hpn:p<=ops.size:=by
       rcases hp with rfl|⟨kk,rfl,o',h1,_⟩
       ·omega
       ·have:=(Q4.1 h1).1;omega
      cases hpin:pinned ks bs j p with
      |true =>
       unfold pinned at hpin;simp at hpin;rcases hpin with h1|h1|⟨h1,h2⟩
       ·grind
       ·obtain⟨i,k1,k2,k3⟩:=JD h1;obtain⟨o',k4,k5⟩:=hksr i 3 k1;exact .inr (.inl ⟨i,⟨o',k4,k5⟩,by omega,by grind⟩)
       grind[Z4,IX]
      |false =>
       refine .inr (.inr (.inr (Rm hsz hall ho ?_ hpn hw)));rw[<-hfl];have hmem:p∈(0::qf ks 0):=by
        rcases hp with rfl|⟨kk,rfl,o',h1,h2⟩
        ·simp
        ·have hk3:ks[kk]? = some 3:=by grind
         have:=Ic (k:=0) hk3;grind
       have:=Gw (ks:=ks) (bs:=bs) (l:=ks) (k:=0) (j:=j) (by grind) hmem (by grind);grind
     have hr0:Rel E w.heap (recAt R 0).st:=by grind
     obtain⟨q,n1,n2,n3,n4⟩:=Ct ops ops.size 0 (by omega);obtain⟨g1,g2⟩:=Av hS.up hR q n1 n2 n3
     let X:St:=⟨(recAt R 0).st.rows,(recAt R 0).st.live,(recAt R q).st.next⟩
     have hI:Inv ops R x.nt E w.heap (fun _=>False) none (fun i=>i<ops.size/\False) (fun i=>q<=i) 0 q a w.heap E X (fun _=>0) (fun _=>0) (fun _=>undef):=by
      refine⟨(Step.refl hr0).ext (fun _=>rfl) (fun _=>rfl) (oY hS.up hR n1 n2),ht.1,fun x i o hd=>hd.2.elim,fun x i o hd=>hd.2.elim,fun y _ _=>?_,⟨n1,n2,fun i o h=>by omega,n3,n4,fun i _ _ hd=>hd.2,.inl rfl⟩,rfl,?_,?_,?_,?_,fun i hd=>hd.2.elim,fun i i' hd=>hd.2.elim,fun b ob hb=>by cases hb⟩
      ·rw[e2];exact ht.2 y
      ·intro r h;exact⟨hr0.freshRow r h,hr0.freshG r h⟩
      ·intro g al hg y hy;exact hr0.liveLt g al y hg hy
      ·intro i h1 h2 ha _;have hge:(recAt R 0).st.next<=rowAt R i:=oY hS.up hR h1 (Q3 ha.lt);have hlt:=wB hS.up hR ha h2 n2;have hq:=oY hS.up hR n2 (Q2 _);exact⟨hr0.freshRow _ hge,hr0.freshG _ hge,hr0.fresh _ hge (by omega)⟩
      ·intro r h;have:=g1 r fun i h1 h2 ha=>h i h1 h2 ha (fun⟨h3,_⟩=>h3.2)
       exact⟨this.1.symm,this.2.symm⟩
     obtain⟨l1,l2,l3⟩:=FC hedge (w.tape w.drawn (.order b.fn id));obtain⟨E'',a',w',k1,k2,k3,kos,k4⟩:=sched hS hs hR hL hr0 hn hper (J3 .any mops (w.tape w.drawn (.order b.fn id))) (fun _=>False) l1 (fun i=>by rw[l2,hper.size];simp) (by intro pre j post o hL1 ho e he hbi;right;exact hlin pre j post o hL1 ho e he hbi) (fun j _ hd=>hd.elim) (w:={ w with drawn:=w.drawn+1 }) hI;rw[e3]at k1;refine⟨E'',a',w',⟨k1,kos.1,kos.2⟩,k2,by rw[k3];exact hm.step k1,?_⟩;refine(Q6 stepR_region_draw).trans ?_;have hsch:V2 (x.P.follows .mixedOrders) mops (w.tape w.drawn (.order b.fn id))=J3 .any mops (w.tape w.drawn (.order b.fn id)):=by simp[V2,hS.mixed]
     rw[hsch];omega
theorem KC(hS:cq x.P x.S){id:Nat}(hper:Perm mops ops σ τ)
  (hedge:∀ j o,mops[j]? = some o->∀ e∈o.after,Q0 .any e=true->e.on<j)
  (hord:∀ j o o',mops[j]? = some o'->ops[τ j]? = some o->∀ e∈o.after,Q0 .any e=true->∃ e'∈o'.after,Q0 .any e'=true/\e.on=τ e'.on) {a:Act} (hr:Rel E w.heap st) (ht:cJ E x.nt t a.tmps) (hm:Marks n0 b.defers E w.heap st a.defers) (hp:kj ops=some fl) (hl:(nD x.P x.S ops fl (bI x.P x.S x.nt ops ops.toList t st)).lim E.top):dF x.P ks n0 E x.nt b w st (lone (b.atR a (.code (.region id mops true)::k)) ks w) k (nD x.P x.S ops fl (bI x.P x.S x.nt ops ops.toList t st)):=by
 obtain⟨l1,l2,l3⟩:=FC hedge (w.tape w.drawn (.order b.fn id));refine H6 hS hper hedge hr ht hm (fun pre j post o hL1 ho e he hbi=>?_) hp hl;have hjm:j<mops.size:=(l2 j).1 (by grind);obtain⟨e',he',hbi',h1⟩:=hord j o mops[j] (by grind) ho e he hbi;rw[h1,hper.st _ (by rw[<-hper.size];grind)];grind
theorem LF(hb:lG ops.toList []=some bs):∀ j o,ops[j]? = some o->∀ e∈o.after,Q0 .any e=true->e.on<j:=by obtain⟨_,_,h3⟩:=Ee hb;simp_all
theorem ab7(hS:cq x.P x.S){id:Nat}{a:Act}(hr:Rel E w.heap st)(ht:cJ E x.nt t a.tmps)(hm:Marks n0 b.defers E w.heap st a.defers)(hp:kj ops=some fl)(hl:(xf x.P x.S x.nt ops t st (some fl)).lim E.top):dF x.P ks n0 E x.nt b w st (lone (b.atR a (.code (.region id ops true)::k)) ks w) k (xf x.P x.S x.nt ops t st (some fl)):=by
 have hb:∃ bs,lG ops.toList []=some bs:=by grind[kj]
 obtain⟨bs,hb⟩:=hb;exact KC hS .refl (LF hb) (fun j o o' h1 h2 e he hbi=>by grind) hr ht hm hp hl
theorem Nf{ops:Array Oper}{τ:List Nat}:∀ {σ:List Nat}{l:List Oper},reorder ops τ σ=some l->l.length=σ.length/\∀ i o,l[i]? = some o->∃ o',ops[bh σ i]? = some o'/\o=Hj τ o'
 |[],l,h=>by cases h;grind
 |s::σ,l,h=>by
  unfold reorder at h;cases ho:ops[s]? with
  |none=>grind
  |some o' =>
   cases hr:reorder ops τ σ with
   |none=>grind
   |some r =>obtain⟨h1,h2⟩:=Nf hr;grind[bh]
theorem NH{n:Nat}{σ τ:List Nat}:∀ {k:Nat},Ab n σ τ k=true->∀ i,i<k->bh σ i<n/\bh τ i<n/\bh σ (bh τ i)=i/\bh τ (bh σ i)=i
 |0,_,i,hi=>by omega
 |k+1,h,i,hi=>by
  unfold Ab at h;simp at h;by_cases e:i=k
  ·grind
  ·exact NH h.2 i (by omega)
theorem Pp{n:Nat}:∀ {l:List Oper},Bc n l=true->∀ o∈l,∀ (g:Nat× Bool),o.guard=some g->g.1<n
 |[],_,o,ho=>by grind
 |x::l,h,o,ho=>by
  unfold Bc at h;simp at h;rcases J6.1 ho with rfl|ho
  ·intro g hg;simp_all[QD]
  ·exact Pp h.2 o ho
theorem VA(τ:List Nat)(g:Option (Nat× Bool)):Rn τ g=g.map fun g=>(bh τ g.1,g.2):=by cases g<;>rfl
theorem LM{σ:List Nat}(hb:lG ops.toList []=some bs)(h:Ei ops σ=some m):kj m.pops=some m.fl/\Perm ops m.pops (bh m.σ) (bh m.τ)/\
  (∀ j o,ops[j]? = some o->∀ e∈o.after,Q0 .any e=true->e.on<j)/\
  ∀ j o o',ops[j]? = some o'->m.pops[bh m.τ j]? = some o->∀ e∈o.after,Q0 .any e=true->∃ e'∈o'.after,Q0 .any e'=true/\e.on=bh m.τ e'.on:=by
 simp[Ei,OR]at h;generalize (V1 ops.size).map (fun i=>GD i σ 0)=τ at h;unfold Qa at h;cases hre:reorder ops τ σ with
 |none=>grind
 |some l =>
  rw[hre]at h;simp only at h;unfold Pu at h;cases hpl:kj l.toArray with
  |none=>grind
  |some fl =>
   rw[hpl]at h;cases hc:(J5 l.toArray.size ops.size&&(Ab ops.size σ τ ops.size&&Bc ops.size ops.toList)) with
   |false=>grind
   |true =>
    rw[hc]at h;cases h;simp only[Bool.and_eq_true,Nat.beq_eq]at hc;obtain⟨hsz,hpo,hgi⟩:=hc;have hP:=NH hpo;obtain⟨r1,r2⟩:=Nf hre;have hl:∀ (i:Nat) (o:Oper),l.toArray[i]? = some o->∃ o',ops[bh σ i]? = some o'/\o=Hj τ o':=fun i o hi=>r2 i o (by grind)
    refine⟨hpl,⟨hsz.symm,fun i hi=>?_,fun i hi=>?_,fun i hi=>?_,fun i hi=>?_,fun i o ho=>?_⟩,LF hb,fun j o o' ho' ho e he hbi=>?_⟩
    ·grind
    ·grind
    ·grind
    ·grind
    ·obtain⟨o',h1,rfl⟩:=hl i o ho;refine⟨o',h1,fun ρ=>rfl,rfl,rfl,YS (VA τ o'.guard) fun g hg=>?_⟩;have hgn:=Pp hgi o' (V3.2 (Array.mem_of_getElem? h1)) g hg;have hτ:=(hP g.1 hgn).2.1;obtain⟨o2,h2⟩:∃ o2,l.toArray[bh τ g.1]? = some o2:=⟨_,Array.getElem?_eq_getElem (by omega)⟩;obtain⟨o3,h3,rfl⟩:=hl _ _ h2;rw[(hP g.1 hgn).2.2.1]at h3;rw[h2,h3];rfl
    ·obtain⟨o2,h2,rfl⟩:=hl _ _ ho;have hj:j<ops.size:=(Q4.1 ho').1;rw[(hP j hj).2.2.1,ho']at h2;cases h2;have he':e∈(o'.after.toList.map (Qx τ)).toArray:=he;rw[List.mem_toArray,List.mem_map]at he';obtain⟨e',h4,rfl⟩:=he';exact⟨e',V3.1 h4,hbi,rfl⟩
theorem Uh(h:oh ops=some m):kj m.pops=some m.fl/\Perm ops m.pops (bh m.σ) (bh m.τ)/\
  (∀ j o,ops[j]? = some o->∀ e∈o.after,Q0 .any e=true->e.on<j)/\
  ∀ j o o',ops[j]? = some o'->m.pops[bh m.τ j]? = some o->∀ e∈o.after,Q0 .any e=true->∃ e'∈o'.after,Q0 .any e'=true/\e.on=bh m.τ e'.on:=by
 grind[oh,LM]
theorem WZ{x y:Nat}(h:zo ops x y=some m):kj m.pops=some m.fl/\Perm ops m.pops (bh m.σ) (bh m.τ)/\
  (∀ j o,ops[j]? = some o->∀ e∈o.after,Q0 .any e=true->e.on<j)/\
  ∀ j o o',ops[j]? = some o'->m.pops[bh m.τ j]? = some o->∀ e∈o.after,Q0 .any e=true->∃ e'∈o'.after,Q0 .any e'=true/\e.on=bh m.τ e'.on:=by
 grind[zo,LM]
theorem UI(hS:cq x.P x.S){id:Nat}{a:Act}(hr:Rel E w.heap st)(ht:cJ E x.nt t a.tmps)(hm:Marks n0 b.defers E w.heap st a.defers)
  (hl:(Ad x.P x.S x.nt t st (oh ops)).lim E.top):dF x.P ks n0 E x.nt b w st (lone (b.atR a (.code (.region id ops true)::k)) ks w) k (Ad x.P x.S x.nt t st (oh ops)):=by
 cases hp:oh ops with
 |none=>trivial
 |some m =>rw[hp]at hl;obtain⟨h1,h2,h3,h4⟩:=Uh hp;exact KC hS h2 h3 h4 hr ht hm h1 hl
variable {l : List Oper}
@[simp] theorem TC(t:Tr AV)(n m:Nat)(v:AV):ab (t.set n (some v)) m=if m=n then v else ab t m:=by unfold ab;rw[Tr.eh];by_cases h:m=n<;>simp[h]
@[simp] theorem aen(m:Nat):ab .lf m=.un:=by unfold ab;rw[Tr.uy]
@[simp] theorem acG(t:Tr AV)(k:Nat):ai t (.tmp k)=ab t k:=rfl
@[simp] theorem QT(t:Tr AV)(k:IntKind)(n:Int):ai t (.const (.int k n))=.i k n:=rfl
@[simp] theorem adb(t:Tr AV)(b:Bool):ai t (.const (.bool b))=.b b:=rfl
@[simp] theorem RO(t:Tr AV):ai t (.const (.pointer none))=.pn:=rfl
@[simp] theorem adl(t:Tr AV):ai t (.const (.slice none 0 0))=.sn:=rfl
@[simp] theorem ac2(t:Tr AV):ai t (.const (.chan none))=.cn:=rfl
@[simp] theorem acY(t:Tr AV)(f:FuncId):ai t (.func f)=.f (.func f) [] []:=rfl
@[simp] theorem aer(t:Tr AV):args t []=[]:=rfl
@[simp] theorem ae7(t:Tr AV)(o:Operand)(l:List Operand):args t (o::l)=ai t o::args t l:=rfl
@[simp] theorem adW:ao .skip x t st=.nx t st:=rfl
@[simp] theorem ad5{id:Nat}:ao (.region id ops false) x t st=bR x.P x.S x.nt ops ops.toList t st:=rfl
theorem br{id:Nat}:ao (.region id ops true) x t st=kc x ops t st:=rfl
@[simp] theorem yU{a b:Code}:ao (.seq a b) x t st=bT (ao a x t st) (ao b x):=rfl
@[simp] theorem KE{a b:Code}:ao (.cond c a b) x t st=su (ao a x) (ao b x) t st (ai t c):=rfl
@[simp] theorem Rh{id:Nat}{b:Code}:ao (.block id b) x t st=qk id (ao b x t st):=rfl
theorem bw{b:Code}:ao (.loop b) x t st=bf (ao b x) x.n t st:=rfl
@[simp] theorem ael{id:Nat}:ao (.exit id) x t st=.ex id t st:=rfl
@[simp] theorem afo:ao .ret x t st=.rt t st:=rfl
@[simp] theorem dK(k:Tr AV->St->Out):bT (.nx t st) k=k t st:=rfl
@[simp] theorem adC(k:Tr AV->St->Out)(i:Nat):bT (.ex i t st) k=.ex i t st:=rfl
@[simp] theorem SX(k:Tr AV->St->Out):bT (.rt t st) k=.rt t st:=rfl
@[simp] theorem aeZ(a b:Tr AV->St->Out)(c:Bool):su a b t st (.b c)=if c=true then a t st else b t st:=by cases c<;>rfl
@[simp] theorem Ve(id:Nat):qk id (.nx t st)=.nx t st:=rfl
@[simp] theorem afx(id:Nat):qk id (.rt t st)=.rt t st:=rfl
@[simp] theorem aeY(id i:Nat):qk id (.ex i t st)=if i=id then .nx t st else .ex i t st:=by unfold qk;simp[bu];by_cases h:i=id<;>simp[h]
theorem sV(b:Tr AV->St->Out)(n:Nat):bf b (n+1) t st=bT (b t st) (bf b n):=rfl
@[simp] theorem afk:bR P S nt ops [] t st=.nx t st:=rfl
@[simp] theorem ZS:bR P S nt ops (⟨d,op,ty,pos,af,none⟩::l) t st=qB nt t d (bH op P S t st) (bR P S nt ops l):=rfl
@[simp] theorem LI{b:Bool}:bR P S nt ops (⟨d,op,ty,pos,af,some (j,b)⟩::l) t st =
  nJ P S nt ⟨d,op,ty,pos,af,some (j,b)⟩ t st (bR P S nt ops l) (rH ops t j b):=rfl
@[simp] theorem aeG{k:Tr AV->St->Out}:qB nt t d (some (v,st')) k=kJ (eN nt t d v) fun t=>k t st':=rfl
@[simp] theorem Lr{k:Tr AV->Out}:kJ (some t) k=k t:=Tr.seen_eq t k
@[simp] theorem adE:eN nt t none v=some t:=rfl
@[simp] theorem ac4{d:Tmp}:eN nt t (some d) v=if d<nt then some (t.set d (some v)) else none:=by
 unfold eN;simp[AV.seen_eq];by_cases h:d<nt
 ·rw[if_pos h,show J4 d nt=true by simpa using h]
 ·rw[if_neg h,show J4 d nt=false by rw[Bool.eq_false_iff];simpa using h]
@[simp] theorem aem{k:Tr AV->St->Out}:nJ P S nt o t st k (some true)=qB nt t o.dst (bH o.op P S t st) k:=rfl
@[simp] theorem aft{k:Tr AV->St->Out}:nJ P S nt o t st k (some false)=kJ (eN nt t o.dst .un) fun t=>k t st:=rfl
@[simp] theorem adx{b:Bool}:rH ops t j b=match ops.toList[j]? with|some g=>(match g.dst with|some d=>BO b (t.get d)|none=>none)|none=>none:=by unfold rH;rw[Array.getElem?_toList];cases ops[j]? <;> rfl
@[simp] theorem adH{b:Bool}{d:Tmp}:BO b (t.get d)=match ab t d with|.b y=>some (y==b)|.un=>some false|_=>none:=by
 unfold ab;cases h:t.get d with
 |none=>rfl
 |some v=>cases v<;>rfl
@[simp] theorem adY:bH (.move a) P S t st=some (ai t a,st):=rfl
@[simp] theorem aew:bH (.assign a) P S t st=some (ai t a,st):=rfl
@[simp] theorem aeV{b:Operand}:bH (.pick c a b) P S t st=rX (ai t a) (ai t b) st (ai t c).gV:=rfl
@[simp] theorem afd(a b:AV)(c:Bool):rX a b st (some c)=some (if c=true then a else b,st):=by cases c<;>rfl
@[simp] theorem aeH(c:Bool):(AV.b c).gV=some c:=rfl
@[simp] theorem afH:bH (.nilCheck a) P S t st=notNil st (ai t a):=rfl
@[simp] theorem aeo(r o:Nat):notNil st (.p r o)=some (.p r o,st):=rfl
@[simp] theorem afg(c:List AV):notNil st (.rp c)=some (.rp c,st):=rfl
@[simp] theorem adP{s:TypeId}:bH (.fieldAddr s a n) P S t st=match ey P s n with|some o=>fieldAt o st (ai t a)|none=>none:=rfl
@[simp] theorem ae5(r k o:Nat):fieldAt o st (.p r k)=some (.p r (k+o),st):=rfl
@[simp] theorem adn(c:List AV)(o:Nat):fieldAt o st (.rp c)=some (.rp (c.drop o),st):=rfl
@[simp] theorem afp:bH (.load ty a) P S t st=dC st (loadAt P ty st (ai t a)):=rfl
@[simp] theorem ad9:dC st (some v)=some (v,st):=rfl
theorem oE{o:Nat}(h:bp P ty=true)(ha:et P ty=false):loadAt P ty st (.p r o)=oneOf (rd st r o 1):=by unfold loadAt;rw[h,ha];rfl
theorem wN{c:List AV}(h:bp P ty=true)(ha:et P ty=false):loadAt P ty st (.rp c)=oneOf (cut c 0 1):=by unfold loadAt;rw[h,ha];rfl
theorem lS{o:Nat}(h:bp P ty=true)(ha:et P ty=true):loadAt P ty st (.p r o)=xM (rd st r o (aD P ty)):=by unfold loadAt;rw[h,ha];rfl
theorem Kq{c:List AV}(h:bp P ty=true)(ha:et P ty=true):loadAt P ty st (.rp c)=xM (cut c 0 (aD P ty)):=by unfold loadAt;rw[h,ha];rfl
theorem au{o:Nat}{l:List AV}(h:st.ce r=some (l,g,al)):rd st r o n=cut l o n:=by unfold rd;rw[h]
@[simp] theorem cQ(l:List AV)(n:Nat):cut l 0 n=takeN n l:=by cases l<;>rfl
@[simp] theorem Tt(v:AV)(l:List AV)(o n:Nat):cut (v::l) (o+1) n=cut l o n:=rfl
@[simp] theorem adv(l:List AV):takeN 0 l=some []:=by cases l<;>rfl
@[simp] theorem aee(v:AV)(l:List AV):takeN 1 (v::l)=some [v]:=by cases l<;>rfl
@[simp] theorem afu(v:AV):oneOf (some [v])=some v:=rfl
@[simp] theorem Yl{b:Operand}:bH (.store ty a b) P S t st=done (storeAt P ty st (ai t a) (ai t b)):=rfl
@[simp] theorem ae0:done (some st')=some (.un,st'):=rfl
theorem db(h:bp P ty=true)(hs:aD P ty=1):∀ (st:St) (r o:Nat) (v:AV),v.cells=some [v]->storeAt P ty st (.p r o) v=wt st r o [v]:=by
 intro st r o v hv;show wg P ty st r o v.cells=_
 rw[hv];simp[wg,h,hs]
@[simp] theorem yk(k:IntKind)(n:Int):(.i k n:AV).cells=some [.i k n]:=by rw[AV.oX]
@[simp] theorem adL(k:IntKind)(n:Int):bS (.i k n)=true:=rfl
@[simp] theorem afr(x:Bool):(.b x:AV).cells=some [.b x]:=by rw[AV.oX]
@[simp] theorem afI(x:Bool):bS (.b x)=true:=rfl
@[simp] theorem adJ(r o:Nat):(.p r o:AV).cells=some [.p r o]:=by rw[AV.oX]
@[simp] theorem ae6(r o:Nat):bS (.p r o)=true:=rfl
@[simp] theorem aey  : (.pn:AV).cells=some [.pn]:=by rw[AV.oX]
@[simp] theorem aez  : bS (.pn)=true:=rfl
@[simp] theorem adm  : (.sn:AV).cells=some [.sn]:=by rw[AV.oX]
@[simp] theorem afh  : bS (.sn)=true:=rfl
@[simp] theorem adQ(c:List AV)(n z:Nat):(.rs c n z:AV).cells=some [.rs c n z]:=by rw[AV.oX]
@[simp] theorem afi(c:List AV)(n z:Nat):bS (.rs c n z)=true:=rfl
@[simp] theorem aeA(c:List AV):(.rp c:AV).cells=some [.rp c]:=by rw[AV.oX]
@[simp] theorem adu(c:List AV):bS (.rp c)=true:=rfl
@[simp] theorem aef(r:Nat):(.c r:AV).cells=some [.c r]:=by rw[AV.oX]
@[simp] theorem ad0(r:Nat):bS (.c r)=true:=rfl
@[simp] theorem ae8(r o n z:Nat)(c:Option Nat):(.sl r o n z c:AV).cells=some [.sl r o n z c]:=by rw[AV.oX]
@[simp] theorem adS(r o n z:Nat)(c:Option Nat):bS (.sl r o n z c)=true:=rfl
@[simp] theorem EV(l:List Nat):(.s l:AV).cells=some [.s l]:=by rw[AV.oX]
@[simp] theorem ac7(l:List Nat):bS (.s l)=true:=rfl
@[simp] theorem QF(r:Nat):(.m r:AV).cells=some [.m r]:=by rw[AV.oX]
@[simp] theorem aeW(r:Nat):bS (.m r)=true:=rfl
@[simp] theorem aeE  : (.mn:AV).cells=some [.mn]:=by rw[AV.oX]
@[simp] theorem ae1  : bS (.mn)=true:=rfl
@[simp] theorem j9(l:List AV):(AV.ag l).cells=some l:=by rw[AV.oX]
@[simp] theorem adK:bq []=true:=rfl
@[simp] theorem vB(v:AV)(l:List AV):bq (v::l)=(bS v&&bq l):=by show(@Bool.rec (fun _=>Bool) false (bq l) (bS v))=_;cases bS v<;>rfl
@[simp] theorem gZ(l vs:List α):bO l 0 vs=over l vs:=by cases l<;>rfl
@[simp] theorem aeS(x:α)(l vs:List α)(o:Nat):bO (x::l) (o+1) vs=x::bO l o vs:=rfl
@[simp] theorem aei(l:List α):over l []=l:=by cases l<;>rfl
@[simp] theorem Zu(x v:α)(l vs:List α):over (x::l) (v::vs)=v::over l vs:=rfl
def St.ax(st:St)(r:Nat)(l:List AV)(g:Nat):St:=⟨st.rows.set r (some (.ce l g)),st.live.set g (some [r]),st.next⟩
theorem bP{l:List AV}(h:st.ce r=some (l,g,al)):∀ (o:Nat) (vs:List AV),o+vs.length<=l.length->bq vs=true->wt st r o vs=some (st.ax r (bO l o vs) g):=by intro o vs hl hv;unfold wt;rw[h];have:Nat.ble (o+vs.length) l.length=true:=Z3 hl;simp[this,hv];rfl
@[simp] theorem adA{op:BinOp}{b:Operand}:bH (.binOp op ty a b y0) P S t st=dC st (binOp P ty (kU a||kU b) op (ai t a) (ai t b)):=rfl
@[simp] theorem ae9{op:UnOp}:bH (.unOp op y0 a) P S t st=dC st (Go.Ev.unOp op (ai t a)):=rfl
@[simp] theorem aex(b:Bool):Go.Ev.unOp .not (.b b)=some (.b !b):=rfl
section
variable {c : Bool}{k : IntKind}{a b : Int}
theorem Li(k:IntKind):ud k k=true:=by simp[ud]
theorem vq{op:BinOp}:binOp P ty c op (.i k a) (.i k b)=zS op k a k b (IS op k a b):=by
 show zS op k a k b (Bk op k a k b)=_
 unfold Bk;rw[Li]
@[simp] theorem afm:binOp P ty c .add (.i k a) (.i k b)=some (.i k (wr k (a+b))):=vq
@[simp] theorem ado:binOp P ty c .sub (.i k a) (.i k b)=some (.i k (wr k (a-b))):=vq
@[simp] theorem aep:binOp P ty c .lss (.i k a) (.i k b)=some (.b (decide (a<b))):=by rw[vq];show some (AV.b (oe a b))=_;rw[pH]
@[simp] theorem adg:binOp P ty c .gtr (.i k a) (.i k b)=some (.b (decide (b<a))):=by rw[vq];show some (AV.b (oe b a))=_;rw[pH]
@[simp] theorem ad8:binOp P ty c .leq (.i k a) (.i k b)=some (.b (decide (a<=b))):=by rw[vq];show some (AV.b (!oe b a))=_;rw[pH];by_cases h:a<=b<;>simp[h]<;>omega
@[simp] theorem adf:binOp P ty c .geq (.i k a) (.i k b)=some (.b (decide (b<=a))):=by rw[vq];show some (AV.b (!oe a b))=_;rw[pH];by_cases h:b<=a<;>simp[h]<;>omega
@[simp] theorem adi:binOp P ty c .eql (.i k a) (.i k b)=some (.b (decide (a=b))):=by rw[vq];show some (AV.b (pV a b))=_;rw[ru]
@[simp] theorem ade:binOp P ty c .neq (.i k a) (.i k b)=some (.b (decide (a≠b))):=by rw[vq];show some (AV.b (!pV a b))=_;rw[ru];simp
end
theorem aZ{n:Int}(h1:-9223372036854775808<=n)(h2:n<=9223372036854775807):wr .i64 n=n:=by grind[xg,IntWalk.i64_in]
@[simp] theorem afG{f:FuncId}{as:Array Operand}{ts:Array TypeId}:bH (.call { callee:=.value (.func f),args:=as,argTypes:=ts }) P S t st=nj P S f (args t as.toList) st:=by
 show tI P S st (args t as.toList) (.f (.func f) [] [])=_
 simp[tI]
theorem mV{fn:Func}{c:Code}{as:List AV}(h:P.funcs[f]? = some fn)(hb:fn.body=some c):nj P S f as st=S.call f as st:=by grind[nj,gN]
@[simp] theorem afl{as:Array Operand}{ts:Array TypeId}:bH (.call { callee:=.builtin .len,args:=as,argTypes:=ts }) P S t st=ft P st ts.toList (args t as.toList):=rfl
theorem aY(h:P.underlying ty=some (.slice e))(hl:lenOf v=some n)(ht:lH v=false):ft P st [ty] [v]=some (.i .i64 (n:Int),st):=by simp[ft,sg,h,hl,ht,int64]
@[simp] theorem aeX:bH (.extract a n) P S t st=nth n st (ai t a):=rfl
@[simp] theorem aeL(l:List AV)(n:Nat):nth n st (.tu l)=dC st l[n]?:=rfl
@[simp] theorem aec{b:Operand}:bH (.indexAddr ty a b) P S t st=dC st (indexAddr P ty (ai t a) (ai t b)):=rfl
theorem dV(he:P.underlying ty=some (.slice e))(hi:bp P e=true)(hz:aD P e=z):∀ (c:List AV) (n k:Nat),k<n->indexAddr P ty (.rs c n z) (.i .i64 (k:Int))=some (.rp (c.drop (k*z))):=by
 intro c n k hk;show(match ez P ty with|some e=>(@Bool.rec (fun _=>_) none (some (AV.rp (c.drop (k*z)))) (J4 k n&&bp P e&&J5 (aD P e) z))|none=>none)=_
 have:J4 k n=true:=Z3 hk;simp[ez,he,this,hi,hz]
theorem kQ(he:P.underlying ty=some (.slice e))(hi:bp P e=true)(hz:aD P e=z):∀ (r o n k:Nat) (c:Option Nat),k<n->indexAddr P ty (.sl r o n z c) (.i .i64 (k:Int))=some (.p r (o+k*z)):=by
 intro r o n k c hk;show(match ez P ty with|some e=>(@Bool.rec (fun _=>_) none (some (AV.p r (o+k*z))) (J4 k n&&bp P e&&J5 (aD P e) z))|none=>none)=_
 have:J4 k n=true:=Z3 hk;simp[ez,he,this,hi,hz]
theorem GZ{l:List AV}(h:st.ce r=some (l,g,al)):st.get r=some (.ce l g)/\st.live.get g=some al/\mem r al=true:=by grind[St.ce,fo]
theorem GT{l:List AV}(h:st.ce r=some (l,g,al)):st.get r=some (.ce l g):=(GZ h).1
theorem cj(r:Nat)(l:List AV)(g:Nat):(st.ax r l g).ce r=some (l,g,[r]):=by simp_all[St.ax,St.ce,St.get,Tr.eh,mem]
theorem AH{r':Nat}{l:List AV}(h:r'≠r):(st.ax r l g).get r'=st.get r':=by simp[St.ax,St.get,Tr.eh,h]
theorem uT(r:Nat)(w:Row):(st.put r w).get r=some w:=by rw[St.get_put,if_pos rfl]
structure zu(A:List Nat)(st st':St):Prop where
 next:st.next<=st'.next
 get:∀ r,r<st.next->r∉A->st'.get r=st.get r
 live:∀ g,g<st.next->g∉A->st'.live.get g=st.live.get g
theorem aaZ{b:Tr AV->St->Out}{id m:Nat}{Inv:Nat->Tr AV->St->Prop}{Q:Tr AV->St->Prop}
  (step:∀ i t st,i<m->Inv i t st->∃ t' st',b t st=.nx t' st'/\Inv (i+1) t' st') (last:∀ t st,Inv m t st->∃ t' st',b t st=.ex id t' st'/\Q t' st'):
  ∀ (k n i:Nat) (t:Tr AV) (st:St),i+k=m->k<n->Inv i t st->∃ t' st',bf b n t st=.ex id t' st'/\Q t' st':=by
 intro k;induction k with
 |zero =>
  intro n i t st hi hn hI;obtain⟨n,rfl⟩:∃ n',n=n'+1:=⟨n-1,by omega⟩;have:i=m:=by omega
  subst this;obtain⟨t',st',h1,h2⟩:=last t st hI;exact⟨t',st',by rw[sV,h1];rfl,h2⟩
 |succ k ih =>intro n i t st hi hn hI;obtain⟨n,rfl⟩:∃ n',n=n'+1:=⟨n-1,by omega⟩;obtain⟨t',st',h1,h2⟩:=step i t st (by omega) hI;obtain⟨t2,st2,h3,h4⟩:=ih n (i+1) t' st' (by omega) (by omega) h2;exact⟨t2,st2,by rw[sV,h1];exact h3,h4⟩
theorem dy{b:Tr AV->St->Out}(hL:bf b n t st=L)(id m:Nat)(Inv:Nat->Tr AV->St->Prop)(Q:Tr AV->St->Prop)(hn:m<n)(h0:Inv 0 t st)
  (step:∀ i t st,i<m->Inv i t st->∃ t' st',b t st=.nx t' st'/\Inv (i+1) t' st') (last:∀ t st,Inv m t st->∃ t' st',b t st=.ex id t' st'/\Q t' st'):∃ t' st',L=.ex id t' st'/\Q t' st':=by
 subst hL;exact aaZ step last m n 0 t st (Nat.zero_add _) hn h0
theorem fW{b:Tr AV->St->Out}(hL:bf b n t st=L)(id m:Nat)(Inv:Nat->Tr AV->St->Prop)(Q R:Tr AV->St->Prop)(hn:m<n)(h0:Inv 0 t st)
  (step:∀ i t st,i<m->Inv i t st->(∃ t' st',b t st=.nx t' st'/\Inv (i+1) t' st')\/∃ t' st',b t st=.rt t' st'/\R t' st') (last:∀ t st,Inv m t st->∃ t' st',b t st=.ex id t' st'/\Q t' st'):
  (∃ t' st',L=.ex id t' st'/\Q t' st')\/∃ t' st',L=.rt t' st'/\R t' st':=by
 have key:∀ (k n i:Nat) (t:Tr AV) (st:St),i+k=m->k<n->Inv i t st->(∃ t' st',bf b n t st=.ex id t' st'/\Q t' st')\/∃ t' st',bf b n t st=.rt t' st'/\R t' st':=by
  intro k;induction k with
  |zero =>
   intro n i t st hi hn hI;obtain⟨n,rfl⟩:∃ n',n=n'+1:=⟨n-1,by omega⟩;have:i=m:=by omega
   subst this;obtain⟨t',st',h1,h2⟩:=last t st hI;exact .inl ⟨t',st',by rw[sV,h1];rfl,h2⟩
  |succ k ih =>
   intro n i t st hi hn hI;obtain⟨n,rfl⟩:∃ n',n=n'+1:=⟨n-1,by omega⟩;rcases step i t st (by omega) hI with ⟨t',st',h1,h2⟩|⟨t',st',h1,h2⟩
   ·rcases ih n (i+1) t' st' (by omega) (by omega) h2 with ⟨t2,st2,h3,h4⟩|⟨t2,st2,h3,h4⟩
    ·exact .inl ⟨t2,st2,by rw[sV,h1];exact h3,h4⟩
    ·exact .inr ⟨t2,st2,by rw[sV,h1];exact h3,h4⟩
   ·exact .inr ⟨t',st',by rw[sV,h1];rfl,h2⟩
 grind
theorem zr{b:Tr AV->St->Out}(hL:bf b n t st=L)(id m:Nat)(Inv:Nat->Tr AV->St->Prop)(Q:Tr AV->St->Prop)(hn:m<n)(h0:Inv 0 t st)
  (step:∀ i t st,i<m->Inv i t st->(∃ t' st',b t st=.nx t' st'/\Inv (i+1) t' st')\/∃ t' st',b t st=.ex id t' st'/\Q t' st') (last:∀ t st,Inv m t st->∃ t' st',b t st=.ex id t' st'/\Q t' st'):
  ∃ t' st',L=.ex id t' st'/\Q t' st':=by
 have key:∀ (k n i:Nat) (t:Tr AV) (st:St),i+k=m->k<n->Inv i t st->∃ t' st',bf b n t st=.ex id t' st'/\Q t' st':=by
  intro k;induction k with
  |zero =>
   intro n i t st hi hn hI;obtain⟨n,rfl⟩:∃ n',n=n'+1:=⟨n-1,by omega⟩;have:i=m:=by omega
   subst this;obtain⟨t',st',h1,h2⟩:=last t st hI;exact⟨t',st',by rw[sV,h1];rfl,h2⟩
  |succ k ih =>
   intro n i t st hi hn hI;obtain⟨n,rfl⟩:∃ n',n=n'+1:=⟨n-1,by omega⟩;rcases step i t st (by omega) hI with ⟨t',st',h1,h2⟩|⟨t',st',h1,h2⟩
   ·obtain⟨t2,st2,h3,h4⟩:=ih n (i+1) t' st' (by omega) (by omega) h2;exact⟨t2,st2,by rw[sV,h1];exact h3,h4⟩
   ·exact⟨t',st',by rw[sV,h1];rfl,h2⟩
 grind
def de(v:AV)(l:List AV):Prop:=(v=.sn/\l=[])\/v=.rs l l.length 1
theorem de.len{l:List AV}(h:de v l):lenOf v=some l.length:=by rcases h with ⟨rfl,rfl⟩|rfl<;>rfl
theorem de.text{l:List AV}(h:de v l):lH v=false:=by rcases h with ⟨rfl,rfl⟩|rfl<;>rfl
theorem dD:∀ l:List AV,takeN l.length l=some l
 |[]=>rfl
 |v::l=>by simp[takeN,dD l]
@[simp] theorem aet{as:Array Operand}{ts:Array TypeId}:bH (.call { callee:=.builtin .append,args:=as,argTypes:=ts }) P S t st=gS P st ts.toList (args t as.toList):=rfl
theorem cz(l:List AV):(st.aw l).ce st.next=some (l,st.next,[st.next]):=by simp_all[St.aw,St.ce,St.get,Tr.eh,mem]
theorem zu.aw(A:List Nat)(l:List AV):zu A st (st.aw l):=
 ⟨Nat.le_succ _,fun r h _=>by grind[St.uJ],fun g h _=>by grind[St.aw,Tr.eh]⟩
theorem T4{c:Code}(hd:defers 4 c=false):ui x c=ao c x:=by unfold ui;rw[hd]
@[simp] theorem acZ(n:Nat):tmpsOf [] n t=t:=rfl
@[simp] theorem aff(v:AV)(l:List AV)(n:Nat):tmpsOf (v::l) n t=tmpsOf l (n+1) (t.set n (some v)):=rfl
@[simp] theorem adR(l:List ResultVar):eE P l (.nx t st)=oj P l t st:=rfl
@[simp] theorem ae2(l:List ResultVar):eE P l (.rt t st)=oj P l t st:=rfl
@[simp] theorem ada(k:Tmp):oT P t st (.tmp k)=some (ab t k):=rfl
theorem aG(l:List ResultVar):oj P l t st=match aF (oT P t st) l with|some [v]=>some (v,st)|some vs=>some (.tu vs,st)|none=>none:=rfl
