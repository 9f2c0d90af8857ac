/- A part of the proof. -/
import Derived.Test.YtjpheibfljmbjaaGreatDoorS05
open Nat renaming le_refl->Q0, beq->Q3, lt_of_lt_of_le->J3, zero_add->Z3, blt->Z4, sub_zero->V2, eq_of_beq_eq_true->V4, blt_eq->V9, lt_or_ge->X8
open Go.Region renaming ready->Q1, wanted->Q2, binds->J4, linearise->J6, schedule->Y1
open Array renaming getElem?_toList->Q4, getElem?_eq_some_iff->Q6, mem_toList_iff->J5, mem_push->Z7, getElem?_eq_getElem->X0
open Option.some renaming inj->Q7
open Go.Region.linearise renaming go->Q8
open List renaming mem_map->Q9, mem_cons->J1, getElem?_toArray->J9, mem_toArray->Z8, mem_cons_self->V1, getElem?_take_of_lt->V3, nodup_cons->V6, mem_cons_of_mem->V8, mem_append->X6, nodup_range->X7, reverse_singleton->X9, singleton_append->Y0
open Go.Instr renaming sameNow->J8, mapUpdate->X4
open Bool renaming and_eq_true->Z5
open Option renaming map_some->Z6
open Go.Act renaming put->Z9
open Go.Steps renaming one->V0
open List.cons renaming inj->V7
open Go.World renaming heap->X5
noncomputable section
namespace Go.Ev
variable {A al bs bsF : List Nat}{E : Env}{H0 : Array Obj}{P : Program}{R : List Rec}{S : Self}{a : Act}{aops ops pops : Array Oper}{b : Frame}{d : Tmp}{fl : List (Nat× Nat)}{g g1 g2 h i i0 j k n n0 nt r r2 y : Nat}{ks : List Frame}{l l1 l2 : List AV}{m : yy}{o : Oper}{ob : Obj}{st : St}{t : Tr AV}{ty : TypeId}{w : World}{x : Ctx}{α : Type}{σ τ : Nat->Nat}
structure Kp(A B:List Nat)(st st':St):Prop where
 next:st.next<=st'.next
 get:∀ r,r<st.next->r∉A->st'.get r=st.get r
 live:∀ g,g<st.next->g∉B->st'.live.get g=st.live.get g
theorem Kp.refl(A B:List Nat)(st:St):Kp A B st st:=⟨Q0 _,fun _ _ _=>rfl,fun _ _ _=>rfl⟩
theorem Kp.trans{A B:List Nat}{a b c:St}(h:Kp A B a b)(k:Kp A B b c):Kp A B a c :=
 ⟨Nat.le_trans h.next k.next,fun r h1 h2=>(k.get r (J3 h1 h.next) h2).trans (h.get r h1 h2),fun r h1 h2=>(k.live r (J3 h1 h.next) h2).trans (h.live r h1 h2)⟩
theorem Kp.sub{B A' B':List Nat}{a b:St}(h:Kp A B a b)(h1:∀ x,x∈A->x∈A')(h2:∀ x,x∈B->x∈B'):Kp A' B' a b :=
 ⟨h.next,fun r k1 k2=>h.get r k1 fun hh=>k2 (h1 _ hh),fun r k1 k2=>h.live r k1 fun hh=>k2 (h2 _ hh)⟩
theorem Kp.ax{A B:List Nat}{r:Nat}{l:List AV}{g:Nat}(h1:r∈A)(h2:g∈B):Kp A B st (st.ax r l g):=
 ⟨Q0 _,fun r' _ h=>AH fun e=>h (e▸h1),fun g' _ h=>by grind[St.ax,Tr.eh]⟩
theorem Kp.put{A B:List Nat}{r:Nat}{w:Row}(h1:r∈A):Kp A B st (st.put r w):=
 ⟨Q0 _,fun r' _ h=>by grind[St.get_put],fun _ _ _=>rfl⟩
theorem Kp.aw(A B:List Nat)(l:List AV):Kp A B st (st.aw l):=⟨(zu.aw [] l).next,fun r h _=>(zu.aw [] l).get r h (by simp),fun g h _=>(zu.aw [] l).live g h (by simp)⟩
theorem Kp.ce{A B:List Nat}{st st':St}(h:Kp A B st st'){r:Nat}{l:List AV}{g:Nat}{al:List Nat}(hc:st.ce r=some (l,g,al))(h1:r<st.next)(h2:g<st.next)(h3:r∉A)(h4:g∉B):st'.ce r=some (l,g,al):=by obtain⟨k1,k2,k3⟩:=GZ hc;unfold St.ce;rw[h.get r h1 h3,k1];simp only;rw[h.live g h2 h4,k2];simp_all
theorem xi{nt:Nat}{ops:Array Oper}:∀ (l:List Oper) (t:Tr AV) (st:St),(bI P S nt ops l t st=none->bR P S nt ops l t st=.no)/\(∀ R,bI P S nt ops l t st=some R->R≠[]/\bR P S nt ops l t st=jo R)
 |[],t,st=>⟨fun h=>(by cases h),fun R h=>by cases h;exact⟨by simp,rfl⟩⟩
 |o::l,t,st=>by
  have e1:bR P S nt ops (o::l) t st=nJ P S nt o t st (bR P S nt ops l) (gj ops t o):=rfl;have e2:bI P S nt ops (o::l) t st=(match gj ops t o with
   |some true=>o8 nt t st o.dst (da P S t st o) (bI P S nt ops l)
   |some false=>lh ⟨t,st,.un,false⟩ (eN nt t o.dst .un) fun t=>bI P S nt ops l t st
   |none=>none):=rfl
  have rt:∀ (r:Rec) (q:Option (Tr AV)) (st':St),(lh r q (fun t=>bI P S nt ops l t st')=none→kJ q (fun t=>bR P S nt ops l t st') = .no) ∧
    (∀ R,lh r q (fun t=>bI P S nt ops l t st')=some R->R≠[]/\kJ q (fun t=>bR P S nt ops l t st')=jo R):=by
   intro r q st';cases q with
   |none=>exact⟨fun _=>rfl,fun R h=>by cases h⟩
   |some t' =>
    rw[Lr];obtain⟨i1,i2⟩:=xi l t' st';show(tD r (bI P S nt ops l t' st')=none->_)/\(∀ R,tD r (bI P S nt ops l t' st')=some R->_)
    cases hr:bI P S nt ops l t' st' with
    |none=>exact⟨fun _=>i1 hr,fun R h=>by cases h⟩
    |some R0 =>
     obtain⟨j1,j2⟩:=i2 R0 hr;refine⟨fun h=>(by cases h),fun R h=>?_⟩;cases h;refine⟨by simp,?_⟩;rw[j2];cases R0 with
     |nil=>grind
     |cons a R1=>rfl
  rw[e1,e2];cases gj ops t o with
  |none=>exact⟨fun _=>rfl,fun R h=>by grind⟩
  |some b =>
   cases b with
   |false=>exact rt _ _ _
   |true =>
    show(o8 nt t st o.dst (da P S t st o) (bI P S nt ops l)=none->qB nt t o.dst (da P S t st o) (bR P S nt ops l)=.no)/\_
    cases hv:da P S t st o with
    |none=>exact⟨fun _=>rfl,fun R h=>by cases h⟩
    |some p =>obtain⟨v,st'⟩:=p;have:=rt ⟨t,st,v,true⟩ (eN nt t o.dst v) st';refine⟨this.1,fun R h=>?_⟩;refine⟨(this.2 R h).1,?_⟩;rw[<-(this.2 R h).2];simp_all[da]
theorem eJ(hp:kj ops=some fl)(hc:∀ R,bI x.P x.S x.nt ops ops.toList t st=some R->fl.all (recheck x.P x.S ops R)=true):
  kc x ops t st=bR x.P x.S x.nt ops ops.toList t st:=by
 unfold kc;rw[hp];show nD x.P x.S ops fl (bI x.P x.S x.nt ops ops.toList t st)=_
 obtain⟨h1,h2⟩:=xi ops.toList t st;cases hr:bI x.P x.S x.nt ops ops.toList t st with
 |none=>rw[h1 hr];rfl
 |some R =>
  show cond (fl.all (recheck x.P x.S ops R)) (jo R) .no=_
  grind
theorem dj(hp:kj ops=some []):kc x ops t st=bR x.P x.S x.nt ops ops.toList t st:=eJ hp fun _ _=>rfl
section
variable {X : List Nat}{v a : AV}{cells cs : List AV}{e : TypeId}
theorem Hy:∀ (n:Nat) (l:List AV),n<=l.length->takeN n l=some (l.take n)
 |0,l,_=>by simp
 |n+1,[],h=>by grind
 |n+1,v::l,h=>by simp[takeN,Hy n l (by simpa using h)]
end
theorem Tr.Oi{α:Type}(v w:Option α):∀ (p q:List Bool) (t:Tr α),p≠q->Tr.gr p v (Tr.gr q w t)=Tr.gr q w (Tr.gr p v t)
 |[],[],t,h=>absurd rfl h
 |[],b::q,.lf,_=>by cases b<;>rfl
 |[],b::q,.nd o l r,_=>by cases b<;>rfl
 |b::p,[],.lf,_=>by cases b<;>rfl
 |b::p,[],.nd o l r,_=>by cases b<;>rfl
 |a::p,b::q,t,h=>by
  have ih:=fun t:Tr α=>Tr.Oi v w p q t
  cases t with
  |lf =>
   cases a<;>cases b
   ·have hpq:p≠q:=fun e=>h (by rw[e])
    show Tr.nd none .lf (Tr.gr p v (Tr.gr q w .lf))=Tr.nd none .lf (Tr.gr q w (Tr.gr p v .lf))
    rw[ih _ hpq]
   ·rfl
   ·rfl
   ·have hpq:p≠q:=fun e=>h (by rw[e])
    show Tr.nd none (Tr.gr p v (Tr.gr q w .lf)) .lf=Tr.nd none (Tr.gr q w (Tr.gr p v .lf)) .lf
    rw[ih _ hpq]
  |nd o l r =>
   cases a<;>cases b
   ·have hpq:p≠q:=fun e=>h (by rw[e])
    show Tr.nd o l (Tr.gr p v (Tr.gr q w r))=Tr.nd o l (Tr.gr q w (Tr.gr p v r))
    rw[ih _ hpq]
   ·rfl
   ·rfl
   ·have hpq:p≠q:=fun e=>h (by rw[e])
    show Tr.nd o (Tr.gr p v (Tr.gr q w l)) r=Tr.nd o (Tr.gr q w (Tr.gr p v l)) r
    rw[ih _ hpq]
theorem Tr.set_comm(t:Tr α){m:Nat}(h:n≠m)(v w:Option α):(t.set n v).set m w=(t.set m w).set n v:=by grind[Tr.set,Tr.Oi,Pt]
theorem xW{r':Nat}{l':List AV}{g':Nat}(h:st.ce r'=some (l',g',al))(hr:r'≠r)(hg:g'≠g):(st.ax r l g).ce r'=some (l',g',al):=by obtain⟨k1,k2,k3⟩:=GZ h;grind[St.ce,AH,St.ax,Tr.eh]
theorem xG{o:Nat}(h:st.ce r=some (l,g,al))(vs:List AV):wt st r o vs=if o+vs.length<=l.length/\bq vs=true then some (st.ax r (bO l o vs) g) else none:=by
 by_cases hc:o+vs.length<=l.length/\bq vs=true
 ·rw[if_pos hc,bP h o vs hc.1 hc.2]
 ·rw[if_neg hc];unfold wt;rw[h];have:(Nat.ble (o+vs.length) l.length&&bq vs)=false:=by
   simp_all
  simp[this]
theorem Vv{r1:Nat}(hr:r1≠r2)(hg:g1≠g2):(st.ax r1 l1 g1).ax r2 l2 g2=(st.ax r2 l2 g2).ax r1 l1 g1:=by grind[St.ax,Tr.set_comm]
theorem UV{r1 o1 o2:Nat}{v1 v2:List AV}{a1 a2:List Nat}(h1:st.ce r1=some (l1,g1,a1))(h2:st.ce r2=some (l2,g2,a2))(hr:r1≠r2)(hg:g1≠g2):
  (match wt st r1 o1 v1 with|some s=>wt s r2 o2 v2|none=>none)=(match wt st r2 o2 v2 with|some s=>wt s r1 o1 v1|none=>none):=by
 rw[xG h1,xG h2];by_cases c1:o1+v1.length<=l1.length/\bq v1=true
 ·by_cases c2:o2+v2.length<=l2.length/\bq v2=true
  ·rw[if_pos c1,if_pos c2];simp only;rw[xG (xW h2 (Ne.symm hr) (Ne.symm hg)),xG (xW h1 hr hg),if_pos c2,if_pos c1,Vv hr hg]
  ·rw[if_pos c1,if_neg c2];simp only;rw[xG (xW h2 (Ne.symm hr) (Ne.symm hg)),if_neg c2]
 ·by_cases c2:o2+v2.length<=l2.length/\bq v2=true
  ·rw[if_neg c1,if_pos c2];simp only;rw[xG (xW h1 hr hg),if_neg c1]
  grind
def Nu(o o':Oper):Prop:=o.op=o'.op/\o.dst=o'.dst/\o.guard=o'.guard
def Dh:List Oper->List Oper->Prop
 |[],[]=>True
 |o::l,o'::l'=>Nu o o'/\Dh l l'
 |_,_=>False
theorem KB{w:Bool}:rH ops t j w=match (ops[j]?).bind (fun o:Oper=>o.dst) with|some d=>BO w (t.get d)|none=>none:=by grind[rH]
theorem OQ{nt:Nat}{ops ops':Array Oper}(hd:∀ j:Nat,(ops[j]?).bind (fun o:Oper=>o.dst)=(ops'[j]?).bind (fun o:Oper=>o.dst)):∀ (l l':List Oper) (t:Tr AV) (st:St),Dh l l'->bR P S nt ops l t st=bR P S nt ops' l' t st
 |[],[],_,_,_=>rfl
 |[],_::_,_,_,h=>h.elim
 |_::_,[],_,_,h=>h.elim
 |⟨d,op,ty,ps,af,g⟩::l,⟨d',op',ty',ps',af',g'⟩::l',t,st,h=>by
  obtain⟨⟨h1,h2,h3⟩,h4⟩:=h;subst h1;subst h2;subst h3;have ih:=fun t st=>OQ (nt:=nt) hd l l' t st h4
  have hk:bR P S nt ops l=bR P S nt ops' l':=funext fun t=>funext fun st=>ih t st
  cases g with
  |none=>simp_all
  |some jb =>rw[LI,LI,hk,KB,KB,hd];rfl
theorem WC:∀ (pre rest:List Oper) (t:Tr AV) (st:St) (R:List Rec),bI P S nt ops (pre++rest) t st=some R->
  ∃ r,R[pre.length]? = some r/\∀ rest',bR P S nt ops (pre++rest') t st=bR P S nt ops rest' r.t r.st:=by
 have head:∀ (l:List Oper) (t:Tr AV) (st:St) (R:List Rec),bI P S nt ops l t st=some R->∃ r,R[0]? = some r/\r.t=t/\r.st=st:=by
  intro l t st R h;have onr:∀ (r:Rec) (q:Option (Tr AV)) (k:Tr AV->Option (List Rec)),lh r q k=some R->R[0]? = some r:=by
   intro r q k h;cases q with
   |none=>cases h
   |some t =>
    have h:tD r (k t)=some R:=h;cases hk:k t with
    |none=>rw[hk]at h;cases h
    |some l=>rw[hk]at h;cases h;rfl
  cases l with
  |nil=>cases h;simp_all
  |cons o l =>
   have h:(match gj ops t o with
    |some true=>o8 nt t st o.dst (da P S t st o) (bI P S nt ops l)
    |some false=>lh ⟨t,st,.un,false⟩ (eN nt t o.dst .un) fun t=>bI P S nt ops l t st
    |none=>none)=some R:=h
   cases hg:gj ops t o with
   |none=>grind
   |some b =>
    rw[hg]at h;cases b with
    |false=>grind
    |true =>
     cases he:da P S t st o with
     |none=>rw[he]at h;cases h
     |some p=>rw[he]at h;exact⟨_,onr _ _ _ h,rfl,rfl⟩
 intro pre;induction pre with
 |nil =>grind
 |cons o pre ih =>
  intro rest t st R h;have h:(match gj ops t o with
   |some true=>o8 nt t st o.dst (da P S t st o) (bI P S nt ops (pre++rest))
   |some false=>lh ⟨t,st,.un,false⟩ (eN nt t o.dst .un) fun t=>bI P S nt ops (pre++rest) t st
   |none=>none)=some R:=h
  have e1:∀ rest',bR P S nt ops (o::pre++rest') t st=nJ P S nt o t st (bR P S nt ops (pre++rest')) (gj ops t o):=fun _=>rfl
  have tl:∀ (r:Rec) (q:Option (Tr AV)) (st':St),lh r q (fun t=>bI P S nt ops (pre++rest) t st')=some R->∃ r',R[pre.length+1]? = some r'/\∀ rest',kJ q (fun t=>bR P S nt ops (pre++rest') t st')=bR P S nt ops rest' r'.t r'.st:=by
   intro r q st' h;cases q with
   |none=>cases h
   |some t' =>
    have h:tD r (bI P S nt ops (pre++rest) t' st')=some R:=h;cases hk:bI P S nt ops (pre++rest) t' st' with
    |none=>rw[hk]at h;cases h
    |some R' =>rw[hk]at h;cases h;grind[Lr]
  cases hg:gj ops t o with
  |none=>grind
  |some b =>
   rw[hg]at h;cases b with
   |false =>obtain⟨r',h1,h2⟩:=tl _ _ _ h;simp_all
   |true =>
    cases he:da P S t st o with
    |none=>rw[he]at h;cases h
    |some p =>rw[he]at h;obtain⟨v,st'⟩:=p;obtain⟨r',h1,h2⟩:=tl _ _ _ h;simp_all[da]
theorem abj{ty1 ty2 t1 t2:TypeId}{a1 v1 a2 v2:Operand}{p1 p2:String}{f1 f2:Array Edge}{l:List Oper}{r1 o1 o2:Nat}{c1 c2:List AV}{b1 b2:List Nat}
  (h1:ai t a1=.p r1 o1) (h2:ai t a2=.p r2 o2) (k1:st.ce r1=some (c1,g1,b1)) (k2:st.ce r2=some (c2,g2,b2)) (hr:r1≠r2) (hg:g1≠g2):
  bR P S nt ops (⟨none,.store ty1 a1 v1,t1,p1,f1,none⟩::⟨none,.store ty2 a2 v2,t2,p2,f2,none⟩::l) t st=bR P S nt ops (⟨none,.store ty2 a2 v2,t2,p2,f2,none⟩::⟨none,.store ty1 a1 v1,t1,p1,f1,none⟩::l) t st:=by
 have one:∀ (ty t0:TypeId) (a v:Operand) (p:String) (f:Array Edge) (m:List Oper) (s:St),bR P S nt ops (⟨none,.store ty a v,t0,p,f,none⟩::m) t s=match storeAt P ty s (ai t a) (ai t v) with|some s'=>bR P S nt ops m t s'|none=>.no:=by
  intro ty t0 a v p f m s;rw[ZS,Yl];cases storeAt P ty s (ai t a) (ai t v) with
  |none=>rfl
  |some s'=>simp_all
 have st2:∀ (ty:TypeId) (s:St) (r o:Nat) (v:AV),storeAt P ty s (.p r o) v=match v.cells with|some l=>if bp P ty=true/\l.length=aD P ty then wt s r o l else none|none=>none:=by
  intro ty s r o v;show wg P ty s r o v.cells=_
  cases v.cells with
  |none=>rfl
  |some l =>
   show(@Bool.rec (fun _=>Option St) none (wt s r o l) (bp P ty&&Q3 l.length (aD P ty)))=if bp P ty=true/\l.length=aD P ty then wt s r o l else none
   by_cases hh:bp P ty=true/\l.length=aD P ty
   ·simp_all
   ·rw[if_neg hh];have:(bp P ty&&Q3 l.length (aD P ty))=false:=by
     grind[V4]
    rw[this]
 simp[h1,h2,one];simp[st2];cases(ai t v1).cells with
 |none =>grind
 |some l1 =>
  cases(ai t v2).cells with
  |none =>grind
  |some l2 =>have key:=UV (o1:=o1) (o2:=o2) (v1:=l1) (v2:=l2) k1 k2 hr hg;grind
theorem OW(x:Nat):∀ (y:Nat) (l:List Oper) (j:Nat),(addEdge x y l)[j]? = (l[j]?).map fun o=>if j=y then sj x o else o
 |_,[],j=>by simp[addEdge]
 |0,o::l,0=>by simp[addEdge]
 |0,o::l,j+1=>by simp[addEdge]
 |y+1,o::l,0=>by simp[addEdge]
 |y+1,o::l,j+1=>by have:=OW x y l j;grind[addEdge]
theorem LH(x:Nat):∀ (y:Nat) (l:List Oper),(addEdge x y l).length=l.length
 |y,[]=>by cases y<;>rfl
 |0,o::l=>rfl
 |y+1,o::l=>by simp[addEdge,LH x y l]
theorem Qk(f:Nat->Oper->Oper):∀ (i:Nat) (l:List Oper) (j:Nat),(vS f i l)[j]? = (l[j]?).map (f (i+j))
 |i,[],j=>by simp[vS]
 |i,o::l,0=>by simp[vS]
 |i,o::l,j+1=>by have:=Qk f (i+1) l j;grind[vS]
theorem IG(f:Nat->Oper->Oper):∀ (i:Nat) (l:List Oper),(vS f i l).length=l.length
 |i,[]=>rfl
 |i,o::l=>by simp[vS,IG f (i+1) l]
theorem DV(k:Nat):jf k k=k+1:=by grind[jf,bu]
theorem BB(k:Nat):jf k (k+1)=k:=by grind[jf,bu]
theorem Bf(h1:i≠k)(h2:i≠k+1):jf k i=i:=by grind[jf,bu]
theorem Bz(k i:Nat):jf k (jf k i)=i:=by grind[DV,BB,Bf]
theorem Jn(hk:k+1<n)(h:i<n):jf k i<n:=by grind[DV,BB,Bf]
theorem GA:∀ (k:Nat) (l:List Oper) (j:Nat),k+1<l.length->(lZ k l)[j]? = l[jf k j]?
 |0,x::y::r,0,_=>by rfl
 |0,x::y::r,1,_=>by rw[BB];rfl
 |0,x::y::r,j+2,_=>by rfl
 |0,[],j,h=>by grind
 |0,[x],j,h=>by grind
 |k+1,[],j,h=>by grind
 |k+1,o::r,0,h=>by rfl
 |k+1,o::r,j+1,h=>by have ih:=GA k r j (by grind);grind[lZ,DV,BB,Bf]
theorem IA:∀ (k:Nat) (l:List Oper),(lZ k l).length=l.length
 |0,[]=>rfl
 |0,[x]=>rfl
 |0,x::y::r=>rfl
 |k+1,[]=>rfl
 |k+1,o::r=>by simp[lZ,IA k r]
theorem Aj(hk:k+1<pops.size)(i:Nat):(fp k pops)[i]? = (pops[jf k i]?).map (vO k (jf k i)):=by unfold fp;rw[J9,GA _ _ _ (by rw[IG];grind),Qk,Z3,Q4]
theorem My(k:Nat)(pops:Array Oper):(fp k pops).size=pops.size:=by grind[fp,IA,IG]
theorem EW(k i:Nat)(o:Oper):(vO k i o).op=o.op/\(vO k i o).dst=o.dst/\(vO k i o).guard=o.guard/\∀ ρ,execOp ρ (vO k i o)=execOp ρ o:=by
 unfold vO;cases Q3 i k with
 |true=>exact⟨rfl,rfl,rfl,fun _=>rfl⟩
 |false =>
  cases Q3 i (k+1) with
  |true=>exact⟨rfl,rfl,rfl,fun _=>rfl⟩
  |false=>exact⟨rfl,rfl,rfl,fun _=>rfl⟩
theorem SP{mops:Array Oper}(h:Perm mops pops σ τ)(hk:k+1<pops.size)(hg:∀ o∈pops.toList,Cg k o=true):Perm mops (fp k pops) (fun i=>σ (jf k i)) (fun i=>jf k (τ i)):=by
 have hsz:=My k pops;refine⟨by rw[hsz];exact h.size,fun i hi=>?_,fun i hi=>?_,fun i hi=>?_,fun i hi=>?_,fun i o ho=>?_⟩
 ·rw[hsz]at hi|-;exact h.lt _ (Jn hk hi)
 ·rw[hsz]at hi|-;exact Jn hk (h.tlt _ hi)
 ·rw[hsz]at hi;simp[Bz];exact h.st _ hi
 ·rw[hsz]at hi;simp[h.ts _ (Jn hk hi),Bz]
 ·rw[Aj hk]at ho;cases hp:pops[jf k i]? with
  |none=>grind
  |some o0 =>
   rw[hp]at ho;cases ho;obtain⟨o',h1,h2,h3,h4,h5⟩:=h.op _ _ hp;obtain⟨e1,e2,e3,e4⟩:=EW k (jf k i) o0;refine⟨o',h1,fun ρ=>by grind,by grind,by grind,fun tmps=>?_⟩;rw[h5];unfold Q2;rw[e3];cases hgd:o0.guard with
   |none=>rfl
   |some gw =>have hgo:=hg o0 (J5.2 (Array.mem_of_getElem? hp));grind[Cg,bu,yielded,Aj,Bf,EW]
theorem EL(x y:Nat)(ops:Array Oper)(j:Nat):(sS x y ops)[j]? = (ops[j]?).map fun o=>if j=y then sj x o else o:=by unfold sS;rw[J9,OW,Q4]
theorem Yv(x y:Nat)(ops:Array Oper):(sS x y ops).size=ops.size:=by grind[sS,LH]
theorem aaN{x:Nat}(h:Perm (sS x y ops) pops σ τ):Perm ops pops σ τ:=by
 refine⟨by rw[<-h.size,Yv],h.lt,h.tlt,h.st,h.ts,fun i o ho=>?_⟩;obtain⟨o',h1,h2,h3,h4,h5⟩:=h.op i o ho;rw[EL]at h1;cases hp:ops[σ i]? with
 |none=>grind
 |some o0 =>
  rw[hp]at h1;simp at h1;have yl:∀ tmps g,yielded (sS x y ops) tmps g=yielded ops tmps g:=by grind[yielded,EL,sj]
  have hw:∀ tmps,Q2 o' (yielded (sS x y ops) tmps)=Q2 o0 (yielded ops tmps):=by grind[sj,Q2]
  refine⟨o0,rfl,fun ρ=>?_,?_,?_,fun tmps=>by grind⟩
  ·rw[<-h2];subst h1;by_cases e:σ i=y<;>simp[e]<;>rfl
  ·rw[<-h3];subst h1;by_cases e:σ i=y<;>simp[e,sj]
  ·rw[<-h4];subst h1;by_cases e:σ i=y<;>simp[e,sj]
theorem ZM{L:List Nat}(hn:L.Nodup){x:Nat}(hx:x∈L)(hy:y∈L)(hxy:x≠y):(∀ pre post,L=pre++y::post->x∈pre)\/(∀ pre post,L=pre++x::post->y∈pre):=by
 induction L with
 |nil=>grind
 |cons a L ih =>
  have hn':=V6.1 hn;by_cases ha:a=x
  ·left;intro pre post h;cases pre with
   |nil =>grind
   |cons b pre=>grind
  ·by_cases hb:a=y
   ·right;intro pre post h;cases pre with
    |nil=>grind
    |cons b pre=>grind
   ·have hx':x∈L:=by grind
    have hy':y∈L:=by grind
    rcases ih hn'.2 hx' hy' with h1|h1
    ·left;intro pre post h;cases pre with
     |nil=>grind
     |cons b pre=>grind
    ·right;intro pre post h;cases pre with
     |nil=>exact absurd (V7 h).1 ha
     |cons b pre=>exact V8 _ (h1 pre post (V7 h).2)
theorem PU:∀ {l l':List Oper},l.length=l'.length->(∀ (j:Nat) (o o':Oper),l[j]? = some o->l'[j]? = some o'->Nu o o')->Dh l l'
 |[],[],_,_=>trivial
 |[],_::_,h,_=>by grind
 |_::_,[],h,_=>by grind
 |o::l,o'::l',h,hs=>⟨hs 0 o o' rfl rfl,PU (by grind) fun j a b h1 h2=>hs (j+1) a b (by grind) (by grind)⟩
theorem Mx:∀ (pre post:List Oper) (x y:Oper),lZ pre.length (pre++x::y::post)=pre++y::x::post
 |[],post,x,y=>rfl
 |o::pre,post,x,y=>by
  show o::lZ pre.length (pre++x::y::post)=_
  rw[Mx pre post x y];rfl
theorem Hr(h:vR pops i=true):∃ ty a v t0 ps f,pops[i]? = some ⟨none,.store ty a v,t0,ps,f,none⟩:=by
 unfold vR at h;cases hp:pops[i]? with
 |none=>grind
 |some o =>obtain⟨d,op,t0,ps,f,g⟩:=o;grind[Lk]
theorem XY{RA RB:List Rec}(h1:vR pops k=true)(h2:vR pops (k+1)=true)
  (hA:bI P S nt pops pops.toList t st=some RA) (hB:bI P S nt (fp k pops) (fp k pops).toList t st=some RB) (hap:qL pops k RA=true):jo RB=jo RA:=by
 obtain⟨ty1,a1,v1,t1,p1,f1,e1⟩:=Hr h1;obtain⟨ty2,a2,v2,t2,p2,f2,e2⟩:=Hr h2;have hk:k+1<pops.size:=(Q6.1 e2).1;have l1:=(xi pops.toList t st).2 RA hA;have l2:=(xi (fp k pops).toList t st).2 RB hB;rw[<-l1.2,<-l2.2];have hsplit:pops.toList=pops.toList.take k++(⟨none,.store ty1 a1 v1,t1,p1,f1,none⟩:Oper)::⟨none,.store ty2 a2 v2,t2,p2,f2,none⟩::pops.toList.drop (k+2):=by grind[List.drop_eq_getElem_cons,List.take_append_drop]
 have hlen:(pops.toList.take k).length=k:=by grind
 generalize pops.toList.take k=pre at hsplit hlen;generalize pops.toList.drop (k+2)=post at hsplit;have hsame:Dh (fp k pops).toList (pre++(⟨none,.store ty2 a2 v2,t2,p2,f2,none⟩:Oper)::⟨none,.store ty1 a1 v1,t1,p1,f1,none⟩::post):=by
  rw[<-Mx,hlen,<-hsplit];refine PU (by grind[My,IA]) fun j o o' q1 q2=>?_
  rw[GA _ _ _ (by grind),Q4]at q2;rw[Q4,Aj hk,q2]at q1;cases q1;obtain⟨z1,z2,z3,-⟩:=EW k (jf k j) o';exact⟨z1,z2,z3⟩
 have hdst:∀ j:Nat,((fp k pops)[j]?).bind (fun o:Oper=>o.dst)=(pops[j]?).bind (fun o:Oper=>o.dst):=by grind[Aj,DV,EW,BB,Bf]
 rw[OQ hdst _ _ t st hsame,hsplit];have hA':=hA;rw[hsplit]at hA';obtain⟨r,r1,r2⟩:=WC pre _ t st RA hA';rw[hlen]at r1;rw[r2,r2];unfold qL at hap;rw[r1,e1,e2]at hap;simp only[Eh]at hap;cases hp1:(ai r.t a1).bW with
 |none=>grind
 |some q1 =>
  obtain⟨r1',o1⟩:=q1;cases hp2:(ai r.t a2).bW with
  |none=>grind
  |some q2 =>
   obtain⟨r2',o2⟩:=q2;rw[hp1,hp2]at hap;simp only at hap;cases hc1:r.st.ce r1' with
   |none=>grind
   |some c1 =>
    obtain⟨cl1,g1,b1⟩:=c1;cases hc2:r.st.ce r2' with
    |none=>grind
    |some c2 =>obtain⟨cl2,g2,b2⟩:=c2;rw[hc1,hc2]at hap;simp[bu]at hap;exact(abj (AV.wV hp1) (AV.wV hp2) hc1 hc2 hap.1 hap.2).symm
theorem ab0{m:uV}(h:qE ops=some m):∃ x y,x<ops.size/\y<ops.size/\x≠y/\zo (sS x y ops) x y=some m.m/\bh m.m.τ x=m.k/\bh m.m.τ y=m.k+1/\kj (fp m.k m.m.pops)=some m.flB/\
  vR m.m.pops m.k=true/\vR m.m.pops (m.k+1)=true/\∀ o∈m.m.pops.toList,Cg m.k o=true:=by
 unfold qE at h;cases hb:lG ops.toList [] with
 |none=>grind
 |some bs =>
  rw[hb]at h;simp only at h;cases hq:Fs (ops.toList.map fun o=>kind o.op) (ops.toList.map fun o=>kind o.op) bs 0 with
  |none=>rw[hq]at h;cases h
  |some xy =>
   obtain⟨x,y⟩:=xy;rw[hq]at h;simp[Px]at h;cases hc:(Z4 x ops.size&&(Z4 y ops.size&&!Q3 x y)) with
   |false=>grind
   |true =>
    rw[hc]at h;cases hm:zo (sS x y ops) x y with
    |none=>rw[hm]at h;cases h
    |some pm =>
     rw[hm]at h;simp[Mo]at h;cases hd:Q3 (bh pm.τ y) (bh pm.τ x+1) with
     |false=>grind
     |true =>
      rw[hd]at h;cases hf:kj (fp (bh pm.τ x) pm.pops) with
      |none=>rw[hf]at h;cases h
      |some fl =>grind[JT,V9,V4]
theorem Uw(hS:cq x.P x.S){id:Nat}{k:List Item}(hr:Rel E w.heap st)(ht:cJ E x.nt t a.tmps)(hm:Marks n0 b.defers E w.heap st a.defers)
  (hl:(yE x.P x.S x.nt t st (qE ops)).lim E.top):dF x.P ks n0 E x.nt b w st (lone (b.atR a (.code (.region id ops true)::k)) ks w) k (yE x.P x.S x.nt t st (qE ops)):=by
 cases hp:qE ops with
 |none=>trivial
 |some m =>
  rw[hp]at hl;obtain⟨u,y,hu,hy,huy,hmm,hτx,hτy,hflB,hs1,hs2,hgo⟩:=ab0 hp;obtain⟨hplA,hperm,hedge,hord⟩:=WZ hmm;unfold yE at hl|-;simp only at hl|-;cases hA:bI x.P x.S x.nt m.m.pops m.m.pops.toList t st with
  |none=>trivial
  |some RA =>
   cases hB:bI x.P x.S x.nt (fp m.k m.m.pops) (fp m.k m.m.pops).toList t st with
   |none=>trivial
   |some RB =>
    rw[hA,hB]at hl;unfold Ai at hl|-;simp only at hl|-;cases hc:(m.m.fl.all (recheck x.P x.S m.m.pops RA)&&(m.flB.all (recheck x.P x.S (fp m.k m.m.pops) RB)&&qL m.m.pops m.k RA)) with
    |false=>trivial
    |true =>
     rw[hc]at hl;simp at hl|-;rw[Z5,Z5]at hc;obtain⟨cA,cB,cap⟩:=hc;have hk:m.k+1<m.m.pops.size:=by grind[Hr]
     have permA:Perm ops m.m.pops (bh m.m.σ) (bh m.m.τ):=aaN hperm;have permB:=SP permA hk hgo;have hedge':∀ j o,ops[j]? = some o->∀ e∈o.after,J4 .any e=true->e.on<j:=by
      intro j o ho e he hb;have hmo:=EL u y ops j;rw[ho]at hmo;by_cases hj:j=y
      ·rw[Z6,if_pos hj]at hmo;exact hedge j _ hmo e (by unfold sj;exact Z7.2 (.inl he)) hb
      ·rw[Z6,if_neg hj]at hmo;exact hedge j _ hmo e he hb
     have hsz:ops.size=m.m.pops.size:=permA.size;obtain⟨l1,l2,l3⟩:=FC hedge' (w.tape w.drawn (.order b.fn id));have ask:∀ j o,j<ops.size->m.m.pops[bh m.m.τ j]? = some o->∀ e∈o.after,J4 .any e=true->∃ i,e.on=bh m.m.τ i/\i<ops.size/\
       ((∀ pre post,J6 .any ops (w.tape w.drawn (.order b.fn id))=pre++j::post->i∈pre)\/(j=y/\i=u)):=by
      intro j o hj ho e he hb;have hmo:=EL u y ops j;rw[X0 hj,Z6]at hmo;obtain⟨e',he',hb',h1⟩:=hord j o _ hmo ho e he hb;have orig:e'∈(ops[j]).after->∃ i,e.on=bh m.m.τ i/\i<ops.size/\((∀ pre post,J6 .any ops (w.tape w.drawn (.order b.fn id))=pre++j::post->i∈pre)\/(j=y/\i=u)):=by intro hin;have:=hedge' j ops[j] (X0 hj) e' hin hb';grind
      by_cases hjy:j=y
      ·rw[if_pos hjy]at he';unfold sj at he';rcases Z7.1 he' with hin|rfl
       ·exact orig hin
       ·exact⟨u,h1,hu,.inr ⟨hjy,rfl⟩⟩
      ·rw[if_neg hjy]at he';exact orig he'
     have hLm:∀ i,i<ops.size->i∈J6 .any ops (w.tape w.drawn (.order b.fn id)):=fun i hi=>(l2 i).2 hi
     rcases ZM l1 (hLm u hu) (hLm y hy) huy with hfirst|hfirst
     ·
      have hres:nD x.P x.S m.m.pops m.m.fl (bI x.P x.S x.nt m.m.pops m.m.pops.toList t st)=jo RA:=by
       rw[hA];show cond (m.m.fl.all (recheck x.P x.S m.m.pops RA)) (jo RA) .no=_
       grind
      have:=H6 (ks:=ks) (b:=b) (id:=id) (k:=k) hS permA hedge' hr ht hm (fun pre j post o hL1 ho e he hb=>by
       have hj:j<ops.size:=(l2 j).1 (by rw[hL1];simp);obtain⟨i,q1,q2,q3⟩:=ask j o hj ho e he hb;rw[q1,permA.st i (by rw[<-hsz];exact q2)];rcases q3 with q3|⟨rfl,rfl⟩
       ·exact q3 pre post hL1
       ·exact hfirst pre post hL1) hplA (by rw[hres];exact hl)
      grind
     ·have hres:nD x.P x.S (fp m.k m.m.pops) m.flB (bI x.P x.S x.nt (fp m.k m.m.pops) (fp m.k m.m.pops).toList t st)=jo RA:=by
       rw[hB];show cond (m.flB.all (recheck x.P x.S (fp m.k m.m.pops) RB)) (jo RB) .no=_
       rw[cB,<-XY hs1 hs2 hA hB cap];rfl
      have:=H6 (ks:=ks) (b:=b) (id:=id) (k:=k) hS permB hedge' hr ht hm (fun pre j post o hL1 ho e he hb=>by
       have hj:j<ops.size:=(l2 j).1 (by rw[hL1];simp);rw[Aj hk,Bz]at ho;cases ho0:m.m.pops[bh m.m.τ j]? with
       |none=>rw[ho0]at ho;cases ho
       |some o0 =>
        rw[ho0]at ho;cases ho;have hcase:(∃ e0∈o0.after,e=xL m.k e0/\(bh m.m.τ j=m.k+1->e0.on≠m.k))\/(bh m.m.τ j=m.k/\e=xL m.k (Jv (m.k+1))):=by
         have he':=he;unfold vO at he';by_cases g1:bh m.m.τ j=m.k
         ·rw[bu,decide_eq_true g1]at he';have he'':e∈(((o0.after.push (Jv (m.k+1))).toList.map (xL m.k)).toArray):=he';rw[Z8,Q9]at he'';obtain⟨e0,h0,rfl⟩:=he'';rcases Z7.1 (J5.1 h0) with h0|rfl
          ·exact .inl ⟨e0,h0,rfl,fun h=>by omega⟩
          ·exact .inr ⟨g1,rfl⟩
         ·rw[bu,decide_eq_false g1]at he';by_cases g2:bh m.m.τ j=m.k+1
          ·rw[bu,decide_eq_true g2]at he';have he'':e∈(((((o0.after.toList.filter fun e=>!(Q3 e.on m.k)).toArray).toList).map (xL m.k)).toArray):=he';rw[Z8,Q9]at he'';obtain⟨e0,h0,rfl⟩:=he'';have h0:e0∈o0.after.toList.filter fun e=>!(Q3 e.on m.k):=by simpa using h0
           rw[List.mem_filter]at h0;refine .inl ⟨e0,J5.1 h0.1,rfl,fun _ hh=>?_⟩;have:=h0.2;rw[bu,decide_eq_true hh]at this;cases this
          ·rw[bu,decide_eq_false g2]at he';have he'':e∈((o0.after.toList.map (xL m.k)).toArray):=he';rw[Z8,Q9]at he'';obtain⟨e0,h0,rfl⟩:=he'';exact .inl ⟨e0,J5.1 h0,rfl,fun h=>absurd h g2⟩
        rcases hcase with ⟨e0,h0,rfl,hne⟩|⟨g1,rfl⟩
        ·have hb0:J4 .any e0=true:=hb;obtain⟨i,q1,q2,q3⟩:=ask j o0 hj ho0 e0 h0 hb0;show bh m.m.σ (jf m.k (jf m.k e0.on))∈pre
         rw[Bz,q1,permA.st i (by rw[<-hsz];exact q2)];rcases q3 with q3|⟨rfl,rfl⟩
         ·exact q3 pre post hL1
         ·exact absurd (q1.trans hτx) (hne hτy)
        ·show bh m.m.σ (jf m.k (jf m.k (m.k+1)))∈pre
         rw[Bz,<-hτy,permA.st y (by rw[<-hsz];exact hy)];have hju:j=u:=by have h1:=permA.st j (by rw[<-hsz];exact hj);have h2:=permA.st u (by rw[<-hsz];exact hu);rw[g1,<-hτx]at h1;exact h1.symm.trans h2
         rw[hju]at hL1;exact hfirst pre post hL1) hflB (by rw[hres];exact hl)
      rw[hres]at this;exact this
theorem RV(hS:cq x.P x.S){id:Nat}{k:List Item}(hr:Rel E w.heap st)(ht:cJ E x.nt t a.tmps)(hm:Marks n0 b.defers E w.heap st a.defers)
  (hl:(wC x.P x.S x.nt ops t st (oh ops)).lim E.top):dF x.P ks n0 E x.nt b w st (lone (b.atR a (.code (.region id ops true)::k)) ks w) k (wC x.P x.S x.nt ops t st (oh ops)):=by
 cases hp:oh ops with
 |none =>rw[hp]at hl;exact Uw hS hr ht hm hl
 |some m =>grind[wC,UI]
theorem UA{kd:TypeDesc}{k x:AV}{ku xu:Value}{q:Bool}(hk:Conc E k ku)(hkd:zx kd ku)(hx:Conc E x xu)(he:ju k x=some q):J8 kd ku xu=some q:=by
 rcases If he hk hx with ⟨kk,a,c,rfl,hm,rfl⟩|⟨a,c,rfl,hm,rfl⟩
 ·rw[hm];rcases hkd with ⟨k1,k2,n,rfl,hh⟩|⟨s,-,hh⟩
  ·simp[J8];rfl
  ·cases hh
 ·rw[hm];rcases hkd with ⟨k1,k2,n,rfl,hh⟩|⟨s,rfl,hh⟩
  ·cases hh
  ·simp[J8];rw[bytes_beq]
theorem YW{t:TypeId}{k:AV}{uk uv:Value}(hkf:kV P t k=true)(hk:Conc E k uk){μ:Nat}{ents:Array MapEntry}{clock:Nat}(hH:w.heap[μ]? = some (.map ents clock))
  (hno:∀ m∈ents.toList,∃ x,ju k x=some false/\Conc E x m.key):
  (X4 t (.map (some μ)) uk uv).run P w=.ok () { w with heap:=w.heap.setIfInBounds μ (.map (ents.push { key:=uk,val:=uv,born:=clock }) (clock+1)) }:=by
 obtain⟨kt,e,kd,hu,hkd,hkk,hdesc⟩:=Dm hkf hk;have hgo:=oI (P:=P) hH (by grind);have hf:∀ m∈ents.toList,J8 kd uk m.key=some false:=by grind[UA]
 have g1:Instr.findNow kd uk ents.toList 0=some none:=by grind[Iq]
 simp_all[X4,bQ,rV,Instr.findKey,wE]
theorem OG:∀ {l:List Oper}{k i:Nat}{d:Tmp},DO l k=some (i,d)->k<=i/\∃ o,l[i-k]? = some o/\yg o=some d
 |[],k,i,d,h=>by cases h
 |o::l,k,i,d,h=>by
  unfold DO at h;cases hm:yg o with
  |some e=>grind
  |none =>rw[hm]at h;obtain⟨h1,o',h2,h3⟩:=OG h;grind
theorem AQ{aops:Array Oper}{d:Tmp}{i0 h:Nat}:∀ {l:List Oper}{bs:List Nat}{k:Nat},zQ aops d i0 h l bs k=true->∀ j o,l[j]? = some o->
  d∉(lV d o).looksAt aops/\(∀ g wnt,o.guard=some (g,wnt)->g<h/\g≠i0)/\(∀ q,ij d o=some q->(bh bs j).testBit i0=true)/\(ij d o=none->k+j≠i0->o.dst≠some d)
 |[],bs,k,_,j,o,ho=>by grind
 |x::l,[],k,hh,j,o,ho=>by cases hh
 |x::l,b::bs,k,hh,j,o,ho=>by
  unfold zQ at hh;simp only[Z5]at hh;obtain⟨⟨h1,h2,h3⟩,h4⟩:=hh;cases j with
  |zero =>
   have:x=o:=by simpa using ho
   subst this;refine⟨fun hm=>?_,fun g wnt hg=>?_,fun q hq=>?_,fun hn hne hd=>?_⟩
   ·rw[List.contains_iff_mem.2 hm]at h1;cases h1
   ·unfold Qp at h2;rw[hg]at h2;simp at h2;refine⟨by simpa[V9]using h2.1,fun e=>?_⟩;rw[e]at h2;simp at h2
   ·rw[hq]at h3;exact h3
   ·rw[hn]at h3;simp at h3;rcases h3 with h3|h3
    ·omega
    ·rw[hd]at h3;simp at h3
  |succ j =>have:=AQ h4 j o (by simpa using ho);rw[show k+1+j=k+(j+1) by omega]at this;exact this
theorem NM{b:Nat}:∀ {n:Nat},BZ b n=true->∀ i,i<n->b.testBit i=true
 |0,_,i,h=>by omega
 |n+1,hh,i,h=>by
  unfold BZ at hh;simp at hh;by_cases e:i=n
  ·subst e;exact hh.1
  ·exact NM hh.2 i (by omega)
theorem Qb:∀ {bs:List Nat}{k:Nat},xX bs k=true->∀ j,j<bs.length->∀ i,i<k+j->(bh bs j).testBit i=true
 |[],k,_,j,hj,i,hi=>by grind
 |b::bs,k,hh,0,hj,i,hi=>by unfold xX at hh;simp at hh;exact NM hh.1 i hi
 |b::bs,k,hh,j+1,hj,i,hi=>by unfold xX at hh;simp at hh;have:=Qb hh.2 j (by simpa using hj) i (by omega);exact this
structure Ag(ops aops:Array Oper)(bs bsF:List Nat)(i0:Nat)(d:Tmp)(h:Nat):Prop where
 set:o7 aops bs
 hn:h<=ops.size
 ih:i0<h
 asz:aops.size=h
 aop:∀ j o,j<h->ops[j]? = some o->aops[j]? = some (lV d o)
 mkr:∃ o,ops[i0]? = some o/\yg o=some d
 look:∀ j o,j<h->ops[j]? = some o->d∉(lV d o).looksAt aops
 gd:∀ j o,j<h->ops[j]? = some o->∀ g wnt,o.guard=some (g,wnt)->g<h/\g≠i0
 ins:∀ j o q,j<h->ops[j]? = some o->ij d o=some q->(bh bs j).testBit i0=true
 dst:∀ j o,j<h->ops[j]? = some o->ij d o=none->j≠i0->o.dst≠some d
 tail:∀ j,h<=j->j<ops.size->∀ i,i<j->(bh bsF j).testBit i=true
 edgeF:∀ j o,ops[j]? = some o->∀ e∈o.after,J4 .any e=true->e.on<j
 befF:∀ j o i,ops[j]? = some o->(bh bsF j).testBit i=true->∃ e∈o.after,J4 .any e=true/\(i=e.on\/(bh bsF e.on).testBit i=true)
theorem aaJ(hm:vZ ops=some m):
  ∃ bs bsF,Ag ops m.aops bs bsF m.i0 m.d m.h/\m.fl=ue (m.aops.toList.map fun o=>kind o.op) bs (0::qf (m.aops.toList.map fun o=>kind o.op) 0) (m.aops.toList.map fun o=>kind o.op) 0:=by
 unfold vZ at hm;split at hm
 case h_2=>grind
 rename_i i0 d hf;generalize Fp d ops.toList 0 (i0+1)=h at hm;unfold MX at hm;generalize hao:((ops.toList.take h).map (lV d)).toArray=aops at hm;cases hb:lG aops.toList [] with
 |none=>grind
 |some bs =>
  rw[hb]at hm;cases hbF:lG ops.toList [] with
  |none=>grind
  |some bsF =>
   rw[hbF]at hm;simp only at hm;cases hc:((Z4 i0 h&&Nat.ble h ops.size)&&(vT aops bs [] aops.toList bs&&(zQ aops d i0 h (ops.toList.take h) bs 0&&xX (bsF.drop h) h))) with
   |false=>grind
   |true =>
    rw[hc]at hm;cases hm;simp at hc;obtain⟨⟨c1,c2⟩,c3,c4,c5⟩:=hc;have hih:i0<h:=by simp_all
    have hhn:h<=ops.size:=by simp_all
    obtain⟨f1,o0,f2,f3⟩:=OG hf;obtain⟨b1,b2,b3⟩:=Ee hbF;have hl:∀ (j:Nat) (o:Oper),ops[j]? = some o->ops.toList[j]? = some o:=fun j o h=>by grind
    have htk:∀ (j:Nat) (o:Oper),j<h->ops[j]? = some o->(ops.toList.take h)[j]? = some o:=fun j o hj ho=>by grind
    refine⟨bs,bsF,⟨settled hb c3,hhn,hih,?_,?_,⟨o0,by grind,f3⟩,?_,?_,?_,?_,?_,?_,?_⟩,rfl⟩
    ·grind
    ·intro j o hj ho;rw[<-hao,J9,List.getElem?_map,htk j o hj ho];rfl
    ·intro j o hj ho;exact(AQ c4 j o (htk j o hj ho)).1
    ·intro j o hj ho;exact(AQ c4 j o (htk j o hj ho)).2.1
    ·intro j o q hj ho;exact(AQ c4 j o (htk j o hj ho)).2.2.1 q
    ·intro j o hj ho hn hne;exact(AQ c4 j o (htk j o hj ho)).2.2.2 hn (by grind)
    ·intro j hj hjn i hi;replace hj:h<=j:=hj;have hlen:bsF.length=ops.size:=by grind
     have:=Qb c5 (j-h) (by simp;omega) i (by omega);unfold bh at this|-;rw[List.getElem?_drop,show h+(j-h)=j by omega]at this;exact this
    ·intro j o ho e he hbd;simpa using(b3 j o (hl j o ho)).1 e he hbd
    ·intro j o i ho hi;exact(b3 j o (hl j o ho)).2 i (by simpa using hi)
def KV(R:List Rec)(i:Nat):AV× AV:=match Di (recAt R i).v with|some p=>p|none=>(.un,.un)
def se(ops:Array Oper)(d:Tmp)(h i:Nat):Prop:=i<h/\∃ o q,ops[i]? = some o/\ij d o=some q
theorem Nx{k:AV}:∀ {es:List (AV× AV)},AK k es=true->∀ p∈es,ju k p.1=some false/\ju p.1 k=some false
 |[],_,p,hp=>by grind
 |(x,v)::es,h,p,hp=>by
  unfold AK at h;simp at h;have f:∀ {o:Option Bool},isFalse o=true->o=some false:=by
   intro o ho;cases o with
   |none=>cases ho
   |some b=>cases b;rfl;cases ho
  rcases J1.1 hp with rfl|hp
  ·exact⟨f h.1.1,f h.1.2⟩
  ·exact Nx h.2 p hp
theorem HM{P:Program}{d:Tmp}{R0:List Rec}:∀ {l:List Oper}{R:List Rec}{k:Nat}{es:List (AV× AV)},(∀ i,R[i]? = R0[k+i]?)->yZ P d l R=some es->
  ∃ js:List Nat,es=js.map (KV R0)/\js.Nodup/\(∀ i,i∈js↔k<=i/\∃ o q,l[i-k]? = some o/\ij d o=some q)/\(∀ i∈js,Di (recAt R0 i).v=some (KV R0 i))/\
   (∀ i∈js,∀ o q,l[i-k]? = some o->ij d o=some q->kV P q.1 (KV R0 i).1=true)/\∀ i∈js,∀ i'∈js,i≠i'->ju (KV R0 i).1 (KV R0 i').1=some false
 |[],R,k,es,_,h=>by cases h;simp_all
 |o::l,[],k,es,_,h=>by cases h
 |o::l,r::R,k,es,hR,h=>by
  have hR':∀ i,R[i]? = R0[k+1+i]?:=fun i=>by have:=hR (i+1);grind
  have hr:recAt R0 k=r:=by grind[List.getElem?_cons_zero,recAt]
  have shift:∀ (i:Nat) (P':Oper->Prop),k+1<=i->((∃ o',l[i-(k+1)]? = some o'/\P' o')↔∃ o',(o::l)[i-k]? = some o'/\P' o'):=by grind
  unfold yZ at h;cases hi:ij d o with
  |none =>
   rw[hi]at h;obtain⟨js,g1,g2,g3,g4,g5,g6⟩:=HM hR' h;refine⟨js,g1,g2,fun i=>?_,g4,fun i hij o' q ho' hq=>?_,g6⟩
   ·rw[g3];constructor
    ·rintro⟨h1,o',q,h2,h3⟩;refine⟨by omega,?_⟩;obtain⟨o'',h4,h5⟩:=(shift i (fun o'=>∃ q,ij d o'=some q) h1).1 ⟨o',h2,q,h3⟩;obtain⟨q',h5⟩:=h5;exact⟨o'',q',h4,h5⟩
    ·rintro⟨h1,o',q,h2,h3⟩;have hne:i≠k:=by
      rintro rfl;simp at h2;subst h2;rw[hi]at h3;cases h3
     refine⟨by omega,?_⟩;obtain⟨o'',h4,q',h5⟩:=(shift i (fun o'=>∃ q,ij d o'=some q) (by omega)).2 ⟨o',h2,q,h3⟩;exact⟨o'',q',h4,h5⟩
   ·have h1:=((g3 i).1 hij).1;rw[show i-k=(i-(k+1))+1 by omega]at ho';exact g5 i hij o' q (by simpa using ho') hq
  |some q0 =>
   obtain⟨ty,kk,xx⟩:=q0;rw[hi]at h;cases hk:yZ P d l R with
   |none=>grind
   |some es' =>
    rw[hk]at h;simp only at h;cases hv:Di r.v with
    |none=>grind
    |some kv =>
     rw[hv]at h;simp only at h;cases hc:(kV P ty kv.1&&AK kv.1 es') with
     |false=>grind
     |true =>
      rw[hc]at h;cases h;simp at hc;obtain⟨js,g1,g2,g3,g4,g5,g6⟩:=HM hR' hk;have hKV:KV R0 k=kv:=by unfold KV;grind
      have hnk:k∉js:=fun hm=>by grind
      have hfr:=Nx hc.2;refine⟨k::js,by grind,V6.2 ⟨hnk,g2⟩,fun i=>?_,fun i hij=>?_,fun i hij o' q ho' hq=>?_,fun i hij i' hij' hne=>?_⟩
      ·rw[J1,g3];constructor
       ·rintro(rfl|⟨h1,o',q,h2,h3⟩)
        ·exact⟨Q0 _,o,(ty,kk,xx),by simp,hi⟩
        ·refine⟨by omega,?_⟩;obtain⟨o'',h4,q',h5⟩:=(shift i (fun o'=>∃ q,ij d o'=some q) h1).1 ⟨o',h2,q,h3⟩;exact⟨o'',q',h4,h5⟩
       ·rintro⟨h1,o',q,h2,h3⟩;by_cases e:i=k
        ·exact .inl e
        ·right;refine⟨by omega,?_⟩;obtain⟨o'',h4,q',h5⟩:=(shift i (fun o'=>∃ q,ij d o'=some q) (by omega)).2 ⟨o',h2,q,h3⟩;exact⟨o'',q',h4,h5⟩
      ·rcases J1.1 hij with rfl|hij
       ·rw[hKV,hr];exact hv
       ·exact g4 i hij
      ·rcases J1.1 hij with rfl|hij
       ·simp at ho';subst ho';rw[hi]at hq;cases hq;rw[hKV];exact hc.1
       ·have h1:=((g3 i).1 hij).1;rw[show i-k=(i-(k+1))+1 by omega]at ho';exact g5 i hij o' q (by simpa using ho') hq
      ·rcases J1.1 hij with e1|m1<;>rcases J1.1 hij' with e2|m2
       ·exact absurd (e1.trans e2.symm) hne
       ·rw[e1,hKV];exact(hfr _ (by rw[g1];exact Q9.2 ⟨i',m2,rfl⟩)).1
       ·rw[e2,hKV];exact(hfr _ (by rw[g1];exact Q9.2 ⟨i,m1,rfl⟩)).2
       ·exact g6 i m1 i' m2 hne
theorem ON{k x:Operand}(h:ij d o=some (ty,k,x)):o.guard=none/\o.dst=none/\o.op=.insert ty (.tmp d) k x:=by grind[ij,bu]
theorem NQ(h:yg o=some d):o.guard=none/\o.dst=some d/\∃ ty,o.op=.makeMap ty none:=by grind[yg]
theorem SM(d:Tmp)(o:Oper):(lV d o).after=o.after:=by grind[lV]
section
variable {E' : Env}{H : Array Obj}{ex : Tmp->Prop}{xb : Option (Nat× Obj)}{D Pd : Nat->Prop}{p q : Nat}{X : St}{β ν : Nat->Nat}{ζ : Nat->Value}
theorem Inv.Uc(h:Inv ops R nt E H0 ex xb D Pd p q a H E' X β ν ζ)(he:ex d)(hd:∀ (i:Nat) (o:Oper),ops[i]? = some o->o.dst≠some d)(z:Value):Inv ops R nt E H0 ex xb D Pd p q (a.put (some d) z) H E' X β ν ζ:=by
 have hg:∀ x,x≠d->(a.put (some d) z).tmps.getD x undef=a.tmps.getD x undef:=by simp_all[Z9,Ne.symm]
 have ne:∀ (x:Tmp) (i:Nat) (o:Oper),ops[i]? = some o->o.dst=some x->x≠d:=fun x i o ho hx e=>hd i o ho (e▸hx)
 refine⟨h.st,by simpa[Z9]using h.sz,fun x i o hD ho hx hn=>?_,fun x i o hD ho hx ha hq=>?_,fun x hxe hx=>?_,h.gap,h.next,h.freshP,h.lows,h.undone,h.rest,h.pend,h.inj,h.xtra⟩
 ·rw[hg x (ne x i o ho hx)];exact h.slotV x i o hD ho hx hn
 ·rw[hg x (ne x i o ho hx)];exact h.slotP x i o hD ho hx ha hq
 ·rw[hg x (fun e=>hxe (e▸he))];exact h.slot0 x hxe hx
theorem Inv.acC(h:Inv ops R nt E H0 ex none D Pd p q a H E' X β ν ζ){b:Nat}(h1:H0.size<=b)(h2:H[b]? = some ob)(h3:Un E' X b)(h4:∀ i,D i->ev ops R i->Pd i->β i≠b):
  Inv ops R nt E H0 ex (some (b,ob)) D Pd p q a H E' X β ν ζ :=
 ⟨h.st,h.sz,h.slotV,h.slotP,h.slot0,h.gap,h.next,h.freshP,h.lows,h.undone,h.rest,h.pend,h.inj,fun _ _ e=>by grind⟩
theorem Inv.VC(_:Rel E H0 (recAt R 0).st){b:Nat}(h:Inv ops R nt E H0 ex (some (b,ob)) D Pd p q a H E' X β ν ζ)(hnc:∀ cs t fz,ob≠Obj.cells cs t fz)(ob':Obj):
  Inv ops R nt E H0 ex (some (b,ob')) D Pd p q a (H.setIfInBounds b ob') E' X β ν ζ:=by
 obtain⟨u1,u2,u3,u4⟩:=h.xtra b ob rfl;refine⟨h.st.zA (.inr u1) u3 ob' (fI.yj (fun cs t fz e=>hnc cs t fz (Q7 (u2.symm.trans e)))),h.sz,h.slotV,h.slotP,h.slot0,h.gap,h.next,h.freshP,h.lows,h.undone,h.rest,fun i hd ha hq=>?_,h.inj,fun _ _ e=>?_⟩
 ·obtain⟨v1,v2,v3,v4,v5⟩:=h.pend i hd ha hq;refine⟨v1,by grind,v3,fun l hl g=>(v4 l hl g).mono (.refl _) ?_,v5⟩;grind
 grind
def ES(ops:Array Oper)(d:Tmp)(h:Nat)(R:List Rec)(D:Nat->Prop)(E':Env)(a:Act)(xb:Option (Nat× Obj)):Prop :=
 ∃ (μ:Nat) (ents:Array MapEntry) (clock:Nat) (js:List Nat) (m:Nat->MapEntry),xb=some (μ,.map ents clock)/\a.tmps.getD d undef=.map (some μ)/\ents.toList=js.map m/\js.Nodup/\
  (∀ i,i∈js↔se ops d h i/\D i)/\∀ i∈js,Conc E' (KV R i).1 (m i).key/\Conc E' (KV R i).2 (m i).val
theorem Pv{x:Operand}(h:∀ y,x=.tmp y->Conc E (ab t y) (a.tmps.getD y undef)):Conc E (ai t x) (a.eval x):=by
 cases x with
 |tmp y=>exact h y rfl
 |const v=>exact uw v
 |global g=>exact .gp g
 |func f=>exact .f (.func f) [] [] [] [] rfl .nil .nil
theorem ED(h:o.guard=none)(y:Nat->Option Bool):Q2 o y=true:=by unfold Q2;rw[h]
theorem goM(hS:cq P S)(hM:Ag ops aops bs bsF i0 d h)(hR:jz P S nt aops R)(hL:Looks P S aops bs R)(hr0:Rel E H0 (recAt R 0).st)(hn:(recAt R aops.size).st.next<=E.top)(hdn:d<nt)
  (hkf:∀ i o q,i<h->ops[i]? = some o->ij d o=some q->kV P q.1 (KV R i).1=true) (hkd:∀ i i',se ops d h i->se ops d h i'->i≠i'->ju (KV R i).1 (KV R i').1=some false) {k:List Item} (hI:Inv aops R nt E H0 (fun x=>x=d) xb D (fun i=>q<=i) p q a w.heap E' X β ν ζ) (hno:¬ D i0->xb=none) (hyes:D i0->ES ops d h R D E' a xb)
  (hdown:∀ j,D j->∀ i,(bh bs j).testBit i=true->D i) (hjh:j<h) (ho:ops[j]? = some o) (hj:¬ D j) (hrdy:∀ i,(bh bs j).testBit i=true->D i) (cs:List Frame) (rest:List Nat):
  ∃ p' q' a' w' E'' X' β' ν' ζ' xb',Inv aops R nt E H0 (fun x=>x=d) xb' (fun i=>i=j\/D i) (fun i=>q'<=i) p' q' a' (X5 w') E'' X' β' ν' ζ'/\(¬ (i0=j\/D i0)->xb'=none) /\
   ((i0=j\/D i0)->ES ops d h R (fun i=>i=j\/D i) E'' a' xb')/\a'.defers=a.defers/\(w'.os=w.os/\w'.output=w.output)/\
   Steps P (lone (b.atR a (.inRegion ops (j::rest)::k)) cs w) (lone (b.atR a' (.inRegion ops rest::k)) cs w'):=by
 have hao:=hM.aop j o hjh ho;obtain⟨o0,ho0,hmk0⟩:=hM.mkr;have hnoIns0:¬ se ops d h i0:=by rintro⟨_,o',q',h1,h2⟩;rw[ho0]at h1;cases h1;obtain⟨ty,kk,xx⟩:=q';have e1:=(ON h2).2.2;obtain⟨ty',e2⟩:=(NQ hmk0).2.2;grind
 have hadst:∀ (i:Nat) (oa:Oper),aops[i]? = some oa->oa.dst≠some d:=by
  intro i oa hoa;have hih:i<h:=by have:=(Q6.1 hoa).1;rw[hM.asz]at this;grind
  have hin:i<ops.size:=J3 hih hM.hn;have hoi:ops[i]? = some ops[i]:=by grind
  rw[hM.aop i _ hih hoi]at hoa;grind[lV,ij]
 cases hins:ij d o with
 |some qq =>
  obtain⟨ty,kk,xx⟩:=qq;obtain⟨hg,hdst,hop⟩:=ON hins;have hji:j≠i0:=by rintro rfl;exact hnoIns0 ⟨hjh,o,_,ho,hins⟩
  have hD0:D i0:=hrdy i0 (hM.ins j o _ hjh ho hins);obtain⟨μ,ents,clock,js,m,rfl,hμ,hents,hnd,hjs,hcc⟩:=hyes hD0;have habs:lV d o={ o with op:=.makeFunc (.func 0) #[] #[kk,xx] }:=by unfold lV;rw[hins]
  rw[habs]at hao;have hsee:=hI.Qv hM.set hR hdown hao hj hrdy (fun x hx e=>by have:=hM.look j o hjh ho;rw[habs]at this;exact this (e▸hx));obtain⟨r1,r2,r3,r4⟩:=hR j _ hao;have hW:(recAt R j).w=true:=by unfold gj at r1;rw[hg]at r1;exact(Q7 r1).symm
  have hv:=r4 hW;have hV:(recAt R j).v=.f (.func 0) [] [ai (recAt R j).t kk,ai (recAt R j).t xx]:=by have:da P S (recAt R j).t (recAt R j).st { o with op:=.makeFunc (.func 0) #[] #[kk,xx] }=some (.f (.func 0) [] [ai (recAt R j).t kk,ai (recAt R j).t xx],(recAt R j).st):=rfl;rw[this]at hv;exact(Prod.mk.inj (Q7 hv)).1.symm
  have hKV:KV R j=(ai (recAt R j).t kk,ai (recAt R j).t xx):=by unfold KV;rw[hV];rfl
  have look:∀ y,(kk=.tmp y\/xx=.tmp y)->y∈Oper.looksAt aops { o with op:=.makeFunc (.func 0) #[] #[kk,xx] }:=by intro y hy;refine List.mem_append_left _ (List.mem_filterMap.2 ⟨.tmp y,?_,rfl⟩);simp[Op.operands];rcases hy with rfl|rfl<;>simp
  have hck:Conc E' (ai (recAt R j).t kk) (a.eval kk):=Pv fun y hy=>hsee y (look y (.inl hy))
  have hcx:Conc E' (ai (recAt R j).t xx) (a.eval xx):=Pv fun y hy=>hsee y (look y (.inr hy))
  have hisj:se ops d h j:=⟨hjh,o,_,ho,hins⟩;obtain⟨u1,u2,u3,u4⟩:=hI.xtra μ _ rfl;have hfit:kV P ty (ai (recAt R j).t kk)=true:=by have:=hkf j o _ hjh ho hins;rw[hKV]at this;exact this
  have hrun:=YW (P:=P) (w:=w) (uv:=a.eval xx) hfit hck u2 (fun mm hmm=>by
   rw[hents]at hmm;obtain⟨i,hi,rfl⟩:=Q9.1 hmm;have hii:=(hjs i).1 hi;have hne:j≠i:=by rintro rfl;exact hj hii.2
   have:=hkd j i hisj hii.1 hne;rw[hKV]at this;exact⟨_,this,(hcc i hi).1⟩)
  let nm:Obj:=.map (ents.push { key:=a.eval kk,val:=a.eval xx,born:=clock }) (clock+1)
  have hstep:∀ cs rest,Steps P (lone (b.atR a (.inRegion ops (j::rest)::k)) cs w) (lone (b.atR a (.inRegion ops rest::k)) cs { w with heap:=w.heap.setIfInBounds μ nm }):=by
   intro cs rest;have hex:(execOp a.eval o).run P w=.ok .skip { w with heap:=w.heap.setIfInBounds μ nm }:=by have hmu:a.eval (.tmp d)=.map (some μ):=hμ;simp[execOp,hop,hmu,hrun,nm]
   have hnd':∀ c,o.op≠.defer c:=fun c e=>by rw[hop]at e;cases e
   have:=V0 (Ix (b:=b) (a:=a) (k:=k) (cs:=cs) (rest:=rest) ho (ED hg _) hnd' hex);rw[hdst]at this;exact this
  have hkk:¬ lN aops j:=fun⟨o',h1,h2⟩=>by rw[hao]at h1;cases h1;simp[kind]at h2
  have hnA:¬ ev aops R j:=fun⟨o',h1,h2,_⟩=>by rw[hao]at h1;cases h1;simp[kind]at h2
  have hI2:=(hI.VC hr0 (fun _ _ _ e=>by cases e) nm).add hM.set hR hao hj hkk (z:=.func (.func 0) #[] #[a.eval kk,a.eval xx]) (fun _=>by rw[hV];exact .f (.func 0) [] _ [] [a.eval kk,a.eval xx] rfl .nil (.cons _ _ _ _ hck (.cons _ _ _ _ hcx .nil))) (fun ha=>absurd ha hnA);have hput:a.put ({ o with op:=.makeFunc (.func 0) #[] #[kk,xx] }:Oper).dst (.func (.func 0) #[] #[a.eval kk,a.eval xx])=a:=by
   show a.put o.dst _=a
   rw[hdst];rfl
  rw[hput]at hI2;refine⟨p,q,a,{ w with heap:=w.heap.setIfInBounds μ nm },E',X,β,ν,ζ,some (μ,nm),hI2,fun hn=>absurd (.inr hD0) hn,fun _=>?_,rfl,⟨rfl,rfl⟩,hstep cs rest⟩;refine⟨μ,_,_,js++[j],fun i=>if i=j then { key:=a.eval kk,val:=a.eval xx,born:=clock } else m i,rfl,hμ,?_,?_,fun i=>?_,fun i hi=>?_⟩
  ·rw[Array.toList_push,hents,List.map_append];congr 1
   ·refine List.map_congr_left fun i hi=>?_
    have hne:i≠j:=by rintro rfl;exact hj ((hjs i).1 hi).2
    rw[if_neg hne]
   ·simp
  ·rw[List.nodup_append];refine⟨hnd,by simp,fun x hx y hy e=>?_⟩;have:y=j:=by simpa using hy
   subst this;subst e;exact hj ((hjs x).1 hx).2
  ·rw[X6,hjs];constructor
   ·rintro(⟨h1,h2⟩|h1)
    ·exact⟨h1,.inr h2⟩
    ·have:i=j:=by simpa using h1
     subst this;exact⟨hisj,.inl rfl⟩
   ·rintro⟨h1,rfl|h2⟩
    ·exact .inr (by simp)
    ·exact .inl ⟨h1,h2⟩
  ·rcases X6.1 hi with m1|m1
   ·have hne:i≠j:=fun e=>hj (e▸((hjs i).1 m1).2)
    simp[if_neg hne];exact hcc i m1
   ·have:i=j:=by simpa using m1
    subst this;simp[hKV];exact⟨hck,hcx⟩
 |none =>
  by_cases hj0:j=i0
  ·
   subst hj0;obtain rfl:o0=o:=Q7 (ho0.symm.trans ho);obtain⟨hg,hdst,ty,hop⟩:=NQ hmk0;have hxn:=hno hj;subst hxn;have habs:lV d o0={ o0 with op:=.move (.const (.bool true)),dst:=none }:=by
    unfold lV;rw[hins];have:(o0.dst==some d)=true:=by rw[hdst];simp
    simp[this]
   rw[habs]at hao;obtain⟨r1,r2,r3,r4⟩:=hR j _ hao;have hW:(recAt R j).w=true:=by unfold gj at r1;rw[hg]at r1;exact(Q7 r1).symm
   have hV:(recAt R j).v=.b true:=by have hv:=r4 hW;have:da P S (recAt R j).t (recAt R j).st { o0 with op:=.move (.const (.bool true)),dst:=none }=some (.b true,(recAt R j).st):=rfl;rw[this]at hv;exact(Prod.mk.inj (Q7 hv)).1.symm
   have hkk:¬ lN aops j:=fun⟨o',h1,h2⟩=>by rw[hao]at h1;cases h1;simp[kind]at h2
   have hnA:¬ ev aops R j:=fun⟨o',h1,h2,_⟩=>by rw[hao]at h1;cases h1;simp[kind]at h2
   have hnB:Un E' X w.heap.size:=by refine hI.st.rel.Gj (Q0 _) ?_;rintro⟨r,row,C,hr,hC,hb⟩;obtain⟨C',hC',hR'⟩:=hI.st.rel.rows _ _ hr;rw[hC]at hC';cases hC';have:=hR'.lt;omega
   have hI2:=(((hI.other (.map #[] 0)).acC (b:=w.heap.size) (ob:=.map #[] 0) hI.st.fr.size (by simp) hnB (fun i hd ha hq=>by have:=(hI.pend i hd ha hq).2.1; omega)).add hM.set hR hao hj hkk
    (z:=.bool true) (fun _=>by rw[hV];exact .b true) (fun ha=>absurd ha hnA)).Uc (d:=d) rfl hadst (.map (some w.heap.size))
   have hput:(a.put ({ o0 with op:=.move (.const (.bool true)),dst:=none }:Oper).dst (.bool true))=a:=rfl;rw[hput]at hI2;have hstep:∀ cs rest,Steps P (lone (b.atR a (.inRegion ops (j::rest)::k)) cs w) (lone (b.atR (a.put (some d) (.map (some w.heap.size))) (.inRegion ops rest::k)) cs { w with heap:=w.heap.push (.map #[] 0) }):=by
    intro cs rest;have hex:(execOp a.eval o0).run P w=.ok (.value (.map (some w.heap.size))) { w with heap:=w.heap.push (.map #[] 0) }:=by simp[execOp,hop,Instr.makeMap]
    have hnd':∀ c,o0.op≠.defer c:=fun c e=>by rw[hop]at e;cases e
    have:=V0 (BS (b:=b) (a:=a) (k:=k) (cs:=cs) (rest:=rest) ho0 (ED hg _) hnd' hex);rw[hdst]at this;exact this
   refine⟨p,q,a.put (some d) (.map (some w.heap.size)),{ w with heap:=w.heap.push (.map #[] 0) },E',X,β,ν,ζ,_,hI2,fun hn=>absurd (.inl rfl) hn,fun _=>?_,rfl,⟨rfl,rfl⟩,hstep cs rest⟩;refine⟨w.heap.size,#[],0,[],fun _=>{ key:=undef,val:=undef,born:=0 },rfl,?_,by simp,List.nodup_nil,fun i=>?_,fun i hi=>by cases hi⟩
   ·simp only[Z9,Array.getD_eq_getD_getElem?];rw[Array.getElem?_setIfInBounds_self];have:d<a.tmps.size:=by rw[hI.sz];exact hdn
    simp[this]
   ·constructor
    ·intro h;cases h
    ·rintro⟨h1,rfl|h2⟩
     ·exact absurd h1 hnoIns0
     ·obtain⟨h3,o',q',h4,h5⟩:=h1;exact absurd (hdown i h2 j (hM.ins i o' q' h3 h4 h5)) hj
  ·
   have hod:o.dst≠some d:=hM.dst j o hjh ho hins hj0;have habs:lV d o=o:=by
    unfold lV;rw[hins];have:(o.dst==some d)=false:=by
     cases hb:(o.dst==some d) with
     |false=>rfl
     |true=>exact absurd (by simpa using hb) hod
    simp[this]
   rw[habs]at hao;have hwy:Q2 o (yielded ops a.tmps)=Q2 o (yielded aops a.tmps):=by
    unfold Q2;cases hg:o.guard with
    |none=>rfl
    |some gw =>
     obtain⟨g,wnt⟩:=gw;obtain⟨g1,g2⟩:=hM.gd j o hjh ho g wnt hg;have hgn:g<ops.size:=J3 g1 hM.hn;have hog:ops[g]? = some ops[g]:=by simp[hgn]
     have hag:=hM.aop g _ g1 hog;have hd':(lV d ops[g]).dst=ops[g].dst:=by
      unfold lV;cases hi:ij d ops[g] with
      |some qq=>rfl
      |none =>
       simp only;have:=hM.dst g _ g1 hog hi g2;cases hb:(ops[g].dst==some d) with
       |false=>rfl
       |true=>exact absurd (by simpa using hb) this
     have:yielded ops a.tmps g=yielded aops a.tmps g:=by unfold yielded;rw[hog,hag];simp[hd']
     simp[this]
   obtain⟨p',q',a',w',E'',X',β',ν',ζ',h1,h2,h3,⟨h4,h5⟩,h6⟩:=hI.Ko hS hM.set hR hL hr0 hn (b:=b) (k:=k) hdown hao hj hrdy (fun x hx e=>by have:=hM.look j o hjh ho;rw[habs]at this;exact this (e▸hx)) (mops:=ops) ho (fun _=>rfl) rfl rfl hwy cs rest;refine⟨p',q',a',w',E'',X',β',ν',ζ',xb,h1,fun hn=>hno fun hd=>hn (.inr hd),fun hd=>?_,h2,h3,h6⟩;obtain⟨μ,ents,clock,js,m,k1,k2,k3,k4,k5,k6⟩:=hyes (hd.resolve_left (fun e=>hj0 e.symm));refine⟨μ,ents,clock,js,m,k1,by rw[h5 d hod];exact k2,k3,k4,fun i=>?_,fun i hi=>⟨(k6 i hi).1.mono h4,(k6 i hi).2.mono h4⟩⟩;rw[k5];constructor
   ·rintro⟨e1,e2⟩;exact⟨e1,.inr e2⟩
   ·rintro⟨e1,rfl|e2⟩
    ·obtain⟨_,o',q',e3,e4⟩:=e1;rw[ho]at e3;cases e3;rw[hins]at e4;cases e4
    ·exact⟨e1,e2⟩
end
theorem acw:∀ {l:List Nat},l.Nodup->(∀ x,x∈l↔x=k)->l=[k]
 |[],_,h=>by simp_all
 |x::l,hn,h=>by
  have hx:x=k:=(h x).1 (V1 ..);subst hx;cases l with
  |nil=>rfl
  |cons y l =>simp_all
theorem TB(hM:Ag ops aops bs bsF i0 d h):∀ (j:Nat) (o:Oper),ops[j]? = some o->∀ i,(bh bsF j).testBit i=true->i<j:=by
 intro j;induction j using Nat.strongRecOn with
 |_ j ih =>intro o ho i hi;obtain⟨e,he,hb,h1⟩:=hM.befF j o i ho hi;have hlt:=hM.edgeF j o ho e he hb;grind
theorem TA(hM:Ag ops aops bs bsF i0 d h):∀ (fuel t:Nat) (listed:Array Bool) (k:Nat),listed.size=ops.size->h<=k->k+fuel=ops.size->(∀ i,listed.getD i false=true↔i<k)->
  Q8 .any ops fuel t listed []=List.range' k fuel:=by
 intro fuel;induction fuel with
 |zero=>intro t listed k hsz hk hf hl;rfl
 |succ fuel ih =>
  intro t listed k hsz hk hf hl;have hkn:k<ops.size:=by omega
  have hok:ops[k]? = some ops[k]:=by grind
  have hready:Q1 .any ops listed=[k]:=by
   refine acw ((X7).filter _) fun i=>?_
   rw[mem_ready];constructor
   ·rintro⟨h0,o,ho,hal⟩;have hin:i<ops.size:=(Q6.1 ho).1;rcases X8 k i with hlt|hge
    ·have hb:=hM.tail i (by omega) hin k hlt;obtain⟨e,he,hbd,h1⟩:=hM.befF i o k ho hb;have hli:=(hl e.on).1 (hal e he hbd);rcases h1 with h1|h1
     ·omega
     ·have:=TB hM e.on ops[e.on] (by grind) k h1;omega
    grind
   ·rintro rfl;refine⟨?_,ops[i],hok,fun e he hb=>(hl e.on).2 (hM.edgeF i _ hok e he hb)⟩;grind
  change (match (Q1 .any ops listed)[t % (Q1 .any ops listed).length]? with
   |some i=>Q8 .any ops fuel (t / (Q1 .any ops listed).length) (listed.setIfInBounds i true) [i]
   |none=>[].reverse)=_
  rw[hready];have hz:t % [k].length=0:=by grind
  rw[hz];simp;rw[linearise_go_acc,X9,Y0,List.range'_succ];congr 1;refine ih _ _ (k+1) (by grind) (by omega) (by omega) fun i=>?_
  by_cases e:i=k
  ·simp_all
  ·rw[getD_set_ne false (Ne.symm e),hl];omega
theorem RT(hS:cq P S)(hM:Ag ops aops bs bsF i0 d h)(hR:jz P S nt aops R)(hL:Looks P S aops bs R)(hr0:Rel E H0 (recAt R 0).st)(hn:(recAt R aops.size).st.next<=E.top)(hdn:d<nt)
  (hkf:∀ i o q,i<h->ops[i]? = some o->ij d o=some q->kV P q.1 (KV R i).1=true) (hkd:∀ i i',se ops d h i->se ops d h i'->i≠i'->ju (KV R i).1 (KV R i').1=some false) {k:List Item}:
  ∀ (n t:Nat) (listed:Array Bool) (L:List Nat),listed.size=ops.size->L.Nodup->L.length=n->(∀ i,i∈L↔i<h/\listed.getD i false=false)->(∀ i,listed.getD i false=true->i<h)->
   (∀ j,listed.getD j false=true->∀ i,(bh bs j).testBit i=true->listed.getD i false=true)->(∀ j,listed.getD j false=true->∀ i,(bh bsF j).testBit i=true->listed.getD i false=true)->
   ∀ {p q:Nat} {a:Act} {w:World} {E':Env} {X:St} {β ν:Nat->Nat} {ζ:Nat->Value} {xb:Option (Nat× Obj)},Inv aops R nt E H0 (fun x=>x=d) xb (fun i=>listed.getD i false=true) (fun i=>q<=i) p q a w.heap E' X β ν ζ->
   (¬ listed.getD i0 false=true->xb=none)->(listed.getD i0 false=true->ES ops d h R (fun i=>listed.getD i false=true) E' a xb)->
   ∃ p' q' a' w' E'' X' β' ν' ζ' xb' t' listed',Inv aops R nt E H0 (fun x=>x=d) xb' (fun i=>i<h) (fun i=>q'<=i) p' q' a' (X5 w') E'' X' β' ν' ζ'/\ES ops d h R (fun i=>i<h) E'' a' xb' /\
    a'.defers=a.defers/\(w'.os=w.os/\w'.output=w.output)/\Array.size listed'=ops.size/\(∀ i,listed'.getD i false=true↔i<h)/\
    Steps P (lone (b.atR a (.inRegion ops (Q8 .any ops (n+(ops.size-h)) t listed [])::k)) ks w) (lone (b.atR a' (.inRegion ops (Q8 .any ops (ops.size-h) t' listed' [])::k)) ks w'):=by
 intro n;induction n with
 |zero =>
  intro t listed L hsz hnd hlen hL' hlt hdown hdownF p q a w E' X β ν ζ xb hI hno hyes;have hall:∀ i,listed.getD i false=true↔i<h:=by grind
  have hfun:(fun i=>listed.getD i false=true)=fun i=>i<h:=funext fun i=>propext (hall i)
  have hI':=hI;have hy:=hyes ((hall i0).2 hM.ih);rw[hfun]at hI' hy;refine⟨p,q,a,w,E',X,β,ν,ζ,xb,t,listed,hI',hy,rfl,⟨rfl,rfl⟩,hsz,hall,?_⟩;rw[Z3];exact .refl _ _
 |succ n ih =>
  intro t listed L hsz hnd hlen hL' hlt hdown hdownF p q a w E' X β ν ζ xb hI hno hyes;have hex:∃ i,i<h/\¬ listed.getD i false=true:=by
   cases hLL:L with
   |nil=>grind
   |cons x l =>grind[V1]
  obtain⟨j0,hj0,hu0,hall0⟩:=Jw h hex;have hj0n:j0<ops.size:=J3 hj0 hM.hn;have hr0':j0∈Q1 .any ops listed:=by refine mem_ready.2 ⟨?_,ops[j0],by simp[hj0n],fun e he hb=>hall0 e.on (hM.edgeF j0 _ (by simp[hj0n]) e he hb)⟩;grind
  have hfu:n+1+(ops.size-h)=(n+(ops.size-h))+1:=by omega
  rw[hfu]
  change ∃ p' q' a' w' E'' X' β' ν' ζ' xb' t' listed',_/\_/\_/\_/\_/\_/\Steps P (lone (b.atR a (.inRegion ops (match (Q1 .any ops listed)[t % (Q1 .any ops listed).length]? with
   |some i=>Q8 .any ops (n+(ops.size-h)) (t / (Q1 .any ops listed).length) (listed.setIfInBounds i true) [i]
   |none=>[].reverse)::k)) ks w) _
  cases hi:(Q1 .any ops listed)[t % (Q1 .any ops listed).length]? with
  |none =>
   exfalso;cases hr:Q1 .any ops listed with
   |nil=>rw[hr]at hr0';cases hr0'
   |cons x xs =>rw[hr]at hi;have hlt:t % (x::xs).length<(x::xs).length:=Nat.mod_lt _ (by simp);simp at hi;simp at hlt;omega
  |some j =>
   have hjr:j∈Q1 .any ops listed:=List.mem_of_getElem? hi;obtain⟨hjz,o,ho,hal⟩:=mem_ready.1 hjr;have hjn:j<ops.size:=(Q6.1 ho).1;have hjl:j<listed.size:=by omega
   have hj:listed.getD j false=false:=by simp at hjz|-;simp[hjl]at hjz|-;exact hjz
   have hrdyF:∀ i,(bh bsF j).testBit i=true->listed.getD i false=true:=by
    intro i hb;obtain⟨e,he,hbi,h1⟩:=hM.befF j o i ho hb;rcases h1 with rfl|h1
    ·exact hal e he hbi
    ·exact hdownF e.on (hal e he hbi) i h1
   have hjh:j<h:=by
    rcases X8 j h with h1|h1
    ·exact h1
    ·exact absurd (hrdyF j0 (hM.tail j h1 hjn j0 (by omega))) hu0
   have hrdy:∀ i,(bh bs j).testBit i=true->listed.getD i false=true:=by
    intro i hb;obtain⟨e,he,hbi,h1⟩:=hM.set.bef j _ i (hM.aop j o hjh ho) hb;rw[SM]at he;rcases h1 with rfl|h1
    ·exact hal e he hbi
    ·exact hdown e.on (hal e he hbi) i h1
   obtain⟨p',q',a',w',E'',X',β',ν',ζ',xb',g1,g2,g3,g4,g5,g6⟩:=goM hS hM hR hL hr0 hn hdn hkf hkd hI hno hyes hdown hjh ho (by rw[hj];simp) hrdy ks (Q8 .any ops (n+(ops.size-h)) (t / (Q1 .any ops listed).length) (listed.setIfInBounds j true) []);have hset:∀ i,(listed.setIfInBounds j true).getD i false=true↔i=j\/listed.getD i false=true:=by
    intro i;by_cases e:i=j
    ·subst e;simp;simp[hjl]
    ·rw[getD_set_ne false (Ne.symm e)];simp[e]
   have hfun:(fun i=>(listed.setIfInBounds j true).getD i false=true)=fun i=>i=j\/listed.getD i false=true:=funext fun i=>propext (hset i)
   have hjL:j∈L:=(hL' j).2 ⟨hjh,hj⟩;obtain⟨p2,q2,a2,w2,E2,X2,β2,ν2,ζ2,xb2,t2,listed2,k1,k2,k3,k4,k5,k6,k7⟩:=ih (t / (Q1 .any ops listed).length) (listed.setIfInBounds j true) (L.erase j) (by simpa using hsz) (hnd.erase j) (by rw[List.length_erase_of_mem hjL];omega) (by
    intro i;rw[hnd.mem_erase_iff,hL' i];constructor
    ·rintro⟨h1,h2,h3⟩;refine⟨h2,?_⟩;rw[getD_set_ne false (Ne.symm h1)];exact h3
    ·rintro⟨h1,h2⟩;have hne:i≠j:=by
      rintro rfl;have:=(hset i).2 (.inl rfl);rw[this]at h2;cases h2
     rw[getD_set_ne false (Ne.symm hne)]at h2;exact⟨hne,h1,h2⟩) (by
    intro i hd;rw[hset]at hd;rcases hd with rfl|hd
    ·exact hjh
    ·exact hlt i hd) (by
    intro i hd i' hb;rw[hset]at hd|-;rcases hd with rfl|hd
    ·exact .inr (hrdy i' hb)
    ·exact .inr (hdown i hd i' hb)) (by
    intro i hd i' hb;rw[hset]at hd|-;rcases hd with rfl|hd
    ·exact .inr (hrdyF i' hb)
    ·exact .inr (hdownF i hd i' hb)) (by rw[hfun];exact g1) (fun hn'=>g2 fun hd=>hn' ((hset i0).2 hd)) (fun hd=>by rw[hfun];exact g3 ((hset i0).1 hd))
   refine⟨p2,q2,a2,w2,E2,X2,β2,ν2,ζ2,xb2,t2,listed2,k1,k2,k3.trans g4,⟨k4.1.trans g5.1,k4.2.trans g5.2⟩,k5,k6,?_⟩;simp;rw[linearise_go_acc,X9,Y0];exact g6.trans k7
theorem aat(hfl:fl=ue (ops.toList.map fun o=>kind o.op) bs (0 :: qf (ops.toList.map fun o=>kind o.op) 0) (ops.toList.map fun o=>kind o.op) 0)
  (hsz:R.length=ops.size+1) (hall:fl.all (recheck P S ops R)=true):Looks P S ops bs R:=by
 generalize hks:ops.toList.map (fun o=>kind o.op)=ks at hfl;have hks':∀ (i:Nat) (o:Oper),ops[i]? = some o->ks[i]? = some (kind o.op):=by grind
 have hksr:∀ (i m:Nat),ks[i]? = some m->∃ o,ops[i]? = some o/\kind o.op=m:=by grind
 intro j p o ho hk hw hp;have hpn:p<=ops.size:=by
  rcases hp with rfl|⟨kk,rfl,o',h1,_⟩
  ·omega
  ·have:=(Q6.1 h1).1;omega
 cases hpin:pinned ks bs j p with
 |true =>
  unfold pinned at hpin;simp at hpin;rcases hpin with h1|h1|⟨h1,h2⟩
  ·grind
  ·obtain⟨i,k1,k2,k3⟩:=JD h1;obtain⟨o',k4,k5⟩:=hksr i 3 k1;exact .inr (.inl ⟨i,⟨o',k4,k5⟩,by omega,by grind⟩)
  grind[Nat.ble_eq,IX]
 |false =>
  refine .inr (.inr (.inr (Rm hsz hall ho ?_ hpn hw)));have hmem:p∈(0::qf ks 0):=by
   rcases hp with rfl|⟨kk,rfl,o',h1,h2⟩
   ·simp
   ·have hk3:ks[kk]? = some 3:=by grind
    have:=Ic (k:=0) hk3;grind
  have:=Gw (ks:=ks) (bs:=bs) (l:=ks) (k:=0) (j:=j) (by grind) hmem (by grind);grind
theorem Mt{E:Env}{f:Nat->AV× AV}{m:Nat->MapEntry}:∀ {js:List Nat},(∀ i∈js,Conc E (f i).1 (m i).key/\Conc E (f i).2 (m i).val)->tn E (js.map f) (js.map m)
 |[],_=>trivial
 |j::_,h=>⟨h j (V1 ..),Mt fun i hi=>h i (V8 _ hi)⟩
theorem Xg(hS:cq x.P x.S){id:Nat}{k:List Item}(hr:Rel E w.heap st)(ht:cJ E x.nt t a.tmps)(hmk:Marks n0 b.defers E w.heap st a.defers)(hm:vZ ops=some m)(hl:(vU x.P x.S x.nt ops t st (some m)).lim E.top):dF x.P ks n0 E x.nt b w st (lone (b.atR a (.code (.region id ops true)::k)) ks w) k (vU x.P x.S x.nt ops t st (some m)):=by
 obtain⟨bs,bsF,hM,hfl⟩:=aaJ hm;unfold vU Gy at hl|-;simp only at hl|-;cases hrc:bI x.P x.S x.nt m.aops m.aops.toList t st with
 |none=>trivial
 |some R =>
  rw[hrc]at hl;simp only at hl|-;cases hall:m.fl.all (recheck x.P x.S m.aops R) with
  |false=>trivial
  |true =>
   rw[hall]at hl;simp at hl|-;cases hkv:yZ x.P m.d (ops.toList.take m.h) R with
   |none=>trivial
   |some es =>
    rw[hkv]at hl;simp only at hl|-;obtain⟨e1,e2,e3,e4⟩:=Ff hrc;have hsz:R.length=m.aops.size+1:=by grind
    rw[HV hsz]at hl|-;unfold ND Cv at hl|-;simp only at hl|-;have hah:m.aops.size=m.h:=hM.asz;rw[hah]at hl|-;cases hp:eN x.nt (recAt R m.h).t (some m.d) (.m (recAt R m.h).st.next) with
    |none=>trivial
    |some t2 =>
     rw[hp]at hl;simp[Tr.seen_eq]at hl|-;rcases wz (vP hS.up (ops.toList.drop m.h) t2 ((recAt R m.h).st.new (.mu es))) hl with hno|hnn
     ·rw[hno];trivial
     have hn1:(recAt R m.h).st.next+1<=E.top:=hnn;have hdn:m.d<x.nt:=Gc hp;have hR:jz x.P x.S x.nt m.aops R:=fun i o ho=>e4 i o (by rw[Q4];exact ho)
     have hL:Looks x.P x.S m.aops bs R:=aat hfl hsz hall;have hn:(recAt R m.aops.size).st.next<=E.top:=by rw[hah];omega
     have hr0:Rel E w.heap (recAt R 0).st:=by rw[e3];exact hr
     obtain⟨js0,f1,f2,f3,f4,f5,f6⟩:=HM (fun i=>by rw[Z3]) hkv;have hins:∀ i,i∈js0↔se ops m.d m.h i:=by
      intro i;rw[f3];constructor
      ·rintro⟨_,o,q,h1,h2⟩;have hlt:i<m.h:=by
        have:=(List.getElem?_eq_some_iff.1 h1).1;simp at this;omega
       rw[V2,V3 hlt,Q4]at h1;exact⟨hlt,o,q,h1,h2⟩
      ·rintro⟨hlt,o,q,h1,h2⟩;exact⟨Nat.zero_le _,o,q,by rw[V2,V3 hlt,Q4];exact h1,h2⟩
     have hkf:∀ i o q,i<m.h->ops[i]? = some o->ij m.d o=some q->kV x.P q.1 (KV R i).1=true:=fun i o q hi ho hq =>
      f5 i ((hins i).2 ⟨hi,o,q,ho,hq⟩) o q (by rw[V2,V3 hi,Q4];exact ho) hq
     have hkd:∀ i i',se ops m.d m.h i->se ops m.d m.h i'->i≠i'->ju (KV R i).1 (KV R i').1=some false:=fun i i' h1 h2 h3=>f6 i ((hins i).2 h1) i' ((hins i').2 h2) h3
     obtain⟨q,n1,n2,n3,n4⟩:=Ct m.aops m.aops.size 0 (by omega);obtain⟨g1,g2⟩:=Av hS.up hR q n1 n2 n3
     let X:St:=⟨(recAt R 0).st.rows,(recAt R 0).st.live,(recAt R q).st.next⟩
     let listed:=Array.replicate ops.size false
     have hlf:∀ i,listed.getD i false=false:=by intro i;simp[listed,Array.getElem?_replicate];split<;>rfl
     have hnol:∀ i,¬ (listed.getD i false=true):=fun i h=>by rw[hlf]at h;cases h
     have hI:Inv m.aops R x.nt E w.heap (fun y=>y=m.d) none (fun i=>listed.getD i false=true) (fun i=>q<=i) 0 q a w.heap E X (fun _=>0) (fun _=>0) (fun _=>undef):=by
      refine⟨(Step.refl hr0).ext (fun _=>rfl) (fun _=>rfl) (oY hS.up hR n1 n2),ht.1,fun x i o hd=>absurd hd (hnol i),fun x i o hd=>absurd hd (hnol i),fun y _ _=>?_,⟨n1,n2,fun i o h=>by omega,n3,n4,fun i _ _ hd=>hnol i hd,.inl rfl⟩,rfl,?_,?_,?_,?_,fun i hd=>absurd hd (hnol i),fun i i' hd=>absurd hd (hnol i),fun b ob hb=>by cases hb⟩
      ·rw[e2];exact ht.2 y
      ·intro r h;exact⟨hr0.freshRow r h,hr0.freshG r h⟩
      ·intro g al hg y hy;exact hr0.liveLt g al y hg hy
      ·intro i h1 h2 ha _;have hge:(recAt R 0).st.next<=rowAt R i:=oY hS.up hR h1 (Nat.le_of_lt ha.lt);have hlt:=wB hS.up hR ha h2 n2;have hq:=oY hS.up hR n2 (Q0 _);exact⟨hr0.freshRow _ hge,hr0.freshG _ hge,hr0.fresh _ hge (by omega)⟩
      ·intro r h;have:=g1 r fun i h1 h2 ha=>h i h1 h2 ha (fun⟨h3,_⟩=>hnol i h3)
       exact⟨this.1.symm,this.2.symm⟩
     obtain⟨p2,q2,a2,w2,E2,X2,β2,ν2,ζ2,xb2,t',listed2,k1,k2,k3,k4,k5,k6,k7⟩:=RT hS hM hR hL hr0 hn hdn hkf hkd m.h (w.tape w.drawn (.order b.fn id)) listed (List.range m.h) (by simp[listed]) X7 (by simp) (by intro i;simp[hlf i]) (fun i hd=>absurd hd (hnol i)) (fun j hd=>absurd hd (hnol j)) (fun j hd=>absurd hd (hnol j)) (w:={ w with drawn:=w.drawn+1 }) hI (fun _=>rfl) (fun hd=>absurd hd (hnol _));have hq2:q2=m.aops.size:=by
      rcases k1.gap.atq with h1|h1
      ·exact h1
      ·have hlt:q2<m.aops.size:=by obtain⟨o,ho,_⟩:=h1;exact(Q6.1 ho).1
       exact absurd (by rw[<-hah];exact hlt) (k1.gap.after q2 (Q0 _) h1)
     subst hq2;have hX:∀ r,X2.get r=(recAt R m.aops.size).st.get r/\X2.live.get r=(recAt R m.aops.size).st.live.get r:=fun r =>
      k1.rest r fun i h1 h2 ha hno=>absurd ⟨by rw[<-hah];exact h2,by omega⟩ hno
     rw[hah]at hX;have hst:Step E E2 w.heap w2.heap (recAt R 0).st (recAt R m.h).st:=k1.st.ext (fun r=>(hX r).1.symm) (fun g=>(hX g).2.symm) (by rw[k1.next,hah];exact Q0 _);obtain⟨μ,ents,clock,js,mm,c1,c2,c3,c4,c5,c6⟩:=k2;obtain⟨u1,u2,u3,u4⟩:=k1.xtra μ _ c1
     let Y:St:=⟨(recAt R m.h).st.rows,(recAt R m.h).st.live,(recAt R m.h).st.next+1⟩
     have hstY:Step E E2 w.heap w2.heap (recAt R 0).st Y:=hst.ext (fun _=>rfl) (fun _=>rfl) (Nat.le_succ _);have hrel:=hst.rel;have hunY:Un E2 Y μ:=by refine⟨?_,u3.2⟩;rintro⟨r,row,B,hra,hB,hb⟩;exact u3.1 ⟨r,row,B,by rw[St.BR (fun r=>(hX r).1) (fun g=>(hX g).2)];exact hra,hB,hb⟩
     have hperm:(js.map mm).Perm (js0.map mm):=by refine List.Perm.map mm ((List.perm_ext_iff_of_nodup c4 f2).2 fun i=>?_);rw[c5,hins];exact⟨fun h=>h.1,fun h=>⟨h,h.1⟩⟩
     have hrow:im E2 w2.heap ⟨μ,0,0⟩ (.mu es):=by refine⟨ents,clock,js0.map mm,u2,?_,by rw[c3];exact hperm⟩;rw[f1];exact Mt fun i hi=>c6 i ((c5 i).2 ⟨(hins i).1 hi,((hins i).1 hi).1⟩)
     have htop:E2.top=E.top:=hst.top;have hreg:=Step.AF hstY (hrel.fresh _ (Q0 _) (by omega)) (hrel.freshRow _ (Q0 _)) (Nat.lt_succ_self _)
      (fun g al hg hmem=>by have:=hrel.liveLt g al _ hg hmem;omega) (hrel.freshG _ (Q0 _)) (fun y=>St.pP _ _ _) rfl (fun g=>.inl rfl) (fun _ _ e=>by cases e) u1 hunY hrow
     have hle:E2.le (E2.bind (recAt R m.h).st.next ⟨μ,0,0⟩):=Env.pk (hrel.fresh _ (Q0 _) (by omega));have hT:cJ (E2.bind (recAt R m.h).st.next ⟨μ,0,0⟩) x.nt t2 a2.tmps:=by
      refine⟨k1.sz,fun y=>?_⟩;rw[FH hp y];by_cases hy:y=m.d
      ·subst hy;rw[if_pos rfl,c2];exact .m _ ⟨μ,0,0⟩ Env.fj
      ·rw[if_neg (fun e=>hy (Q7 e).symm)];refine Conc.mono hle ?_;by_cases hex:∃ (i:Nat) (oi:Oper),m.aops[i]? = some oi/\oi.dst=some y
       ·obtain⟨i,oi,hoi,hdi⟩:=hex;have hin:i<m.aops.size:=(Q6.1 hoi).1;have hval:ab (recAt R m.aops.size).t y=(recAt R i).v:=HO hR hoi hdi m.aops.size hin (Q0 _) fun i' o' h1 h2 h3 h4=>by
         have:=hM.set.dst hoi h3 hdi h4;omega
        rw[<-hah,hval];exact k1.slotV y i oi (by rw[<-hah];exact hin) hoi hdi fun⟨_,hq⟩=>by omega
       ·have hno:∀ (i:Nat) (oi:Oper),m.aops[i]? = some oi->oi.dst≠some y:=fun i oi h1 h2=>hex ⟨i,oi,h1,h2⟩
        rw[<-hah,zH hR m.aops.size (Q0 _) fun i o _=>hno i o];exact k1.slot0 y hy fun i o _=>hno i o
     rw[e3]at hreg;have hregW:bt E (E2.bind (recAt R m.h).st.next ⟨μ,0,0⟩) w w2 st ((recAt R m.h).st.new (.mu es)):=⟨hreg,k4.1,k4.2⟩;have htail:=FW (ks:=ks) (k:=k) hS (ops.toList.drop m.h) m.h rfl hreg.rel hT (by rw[k3];exact hmk.step hreg) (by rw[hreg.top];exact hl);refine dF.pre hregW ?_ htail;refine(V0 stepR_region_draw).trans ?_;have hsch:Y1 (x.P.follows .mixedOrders) ops (w.tape w.drawn (.order b.fn id))=Q8 .any ops (m.h+(ops.size-m.h)) (w.tape w.drawn (.order b.fn id)) listed []:=by
      have:m.h+(ops.size-m.h)=ops.size:=by have:=hM.hn;omega
      rw[this];simp[Y1,hS.mixed,J6,listed]
     rw[hsch];refine k7.trans ?_;rw[TA hM (ops.size-m.h) t' listed2 m.h k5 (Q0 _) (by have:=hM.hn;omega) k6];have hlen:(ops.toList.drop m.h).length=ops.size-m.h:=by simp
     rw[hlen];exact .refl _ _
theorem Yc(hS:cq x.P x.S){id:Nat}{k:List Item}(hr:Rel E w.heap st)(ht:cJ E x.nt t a.tmps)(hm:Marks n0 b.defers E w.heap st a.defers)
  (hl:(kc x ops t st).lim E.top):dF x.P ks n0 E x.nt b w st (lone (b.atR a (.code (.region id ops true)::k)) ks w) k (kc x ops t st):=by
 unfold kc at hl|-;cases hp:kj ops with
 |some fl=>grind[ab7]
 |none =>
  have e:xf x.P x.S x.nt ops t st none=vU x.P x.S x.nt ops t st (vZ ops):=rfl;cases hpm:vZ ops with
  |none =>grind[vU,RV]
  |some m=>grind[Xg]
