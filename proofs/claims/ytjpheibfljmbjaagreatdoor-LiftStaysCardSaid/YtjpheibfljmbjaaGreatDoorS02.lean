/- A part of the proof. -/
import Derived.Test.YtjpheibfljmbjaaGreatDoorS01
import Derived.Laws.Cells
import Derived.IntWalk
import Derived.Laws.StructEq
open Go renaming binOp->Q0, eqGuard->Q4
open Go.Op renaming equalIn->Q1, bytesLess->Q6, stringOp->Q7, intCmp->Q9, intBits->J5, intArith->Z6, unary->Z8, eqFields->X5
open Nat renaming le_refl->Q2, beq->Q3, ble->Q8, le_of_ble_eq_true->J9, blt->Z4, blt_eq->Z5, lt_or_ge->V0, add_comm->V4, lt_irrefl->X7, le_trans->X8, lt_of_lt_of_le->X9, not_lt->Y0
open List renaming length_take->J1, getElem?_eq_none->J6, ext_getElem?->V2, pairwise_cons->V6, length_append->V7, getElem?_append->Y1, getElem?_take->Y2, take_succ_eq_append_getElem->Y3, take_set->Y4, set_eq_of_length_le->Y5, drop_set_of_lt->Y6, getElem?_drop->Y7, drop_take->Y8, drop_drop->Y9
open Go.Result renaming andThen->J3, andThen_ok->X4
open Bool renaming and_eq_true->J4, eq_iff_iff->U1
open Go.Addr renaming add->J8
open Go.Sem renaming run_bind->Z3
open Go.ByteArray renaming toList_eq->Z7
open Go.Obj renaming cells->Z9
open Array renaming getElem?_eq_some_iff->V1, eq_empty_of_size_eq_zero->W8
open Go.World renaming cell?->V3
open Go.Instr renaming loadAt->V8, sureAddr->V9, fill->X0, storeAt->W9
open Go.Value renaming int->X6
noncomputable section
namespace Go.Ev
variable {E E' E'' F : Env}{H H' H'' : Array Obj}{P : Program}{a v x y : AV}{al al' : List Nat}{b g k n nt o r : Nat}{fz : Nat× Nat}{l l' new old : List AV}{op : BinOp}{row row' : Row}{st st' st'' : St}{t : TypeId}{u u1 u2 : Value}{us vs : List Value}{w : World}{xo yo : Operand}{α : Type}
def St.alive(st:St)(r:Nat):Option Row :=
 match st.get r with
 |some (.ce l g)=>match st.live.get g with
  |some al=>cond (mem r al) (some (.ce l g)) none
  |none=>none
 |some (.ty _ _ _)=>none
 |x=>x
theorem St.pR(h:st.ce r=some (l,g,al)):
  st.alive r=some (.ce l g)/\st.live.get g=some al/\mem r al=true/\st.get r=some (.ce l g):=by
 unfold St.ce at h;unfold St.alive;split at h
 ·split at h
  ·rename_i al' hl;cases hm:mem r al' with
   |false=>simp_all
   |true =>simp_all
  grind
 grind
theorem mem_iff{l:List Nat}:mem r l=true↔r∈l:=by
 induction l with
 |nil=>simp[mem]
 |cons x l ih =>
  by_cases h:x=r
  ·simp[mem,h]
  ·have:Q3 x r=false:=by simp[bu,h]
   simp[mem,this,ih,Ne.symm h]
theorem CB(r:Nat):∀ l:List Nat,∃ p,l=p++from_ r l
 |[]=>⟨[],rfl⟩
 |x::l=>by
  by_cases h:x=r
  ·exact⟨[],by simp[from_,h]⟩
  ·obtain⟨p,hp⟩:=CB r l;have:Q3 x r=false:=by simp[bu,h]
   exact⟨x::p,by simp[from_,this];grind⟩
theorem vJ{x:Nat}{l:List Nat}(h:x∈from_ r l):x∈l:=by obtain⟨p,hp⟩:=CB r l;grind
theorem Xy{l:List Nat}(h:r∈l):∃ t,from_ r l=r::t:=by
 induction l with
 |nil=>grind
 |cons x l ih =>
  by_cases hx:x=r
  ·subst hx;exact⟨l,by simp[from_]⟩
  ·have hb:Q3 x r=false:=by simp[bu,hx]
   obtain⟨t,ht⟩:=ih (by simpa[Ne.symm hx]using h);exact⟨t,by simp[from_,hb,ht]⟩
def Ib(E:Env)(e:AV× AV× Nat)(m:MapEntry):Prop:=Conc E e.1 m.key/\Conc E e.2.1 m.val/\m.born=e.2.2
def fS(E:Env):List (AV× AV× Nat)->List MapEntry->Prop
 |[],[]=>True
 |e::es,m::ms=>Ib E e m/\fS E es ms
 |_,_=>False
theorem fS.mono{E F:Env}(h:E.le F):∀ {es:List (AV× AV× Nat)}{ms:List MapEntry},fS E es ms->fS F es ms
 |[],[],_=>trivial
 |_::_,_::_,⟨⟨a,b,c⟩,t⟩=>⟨⟨a.mono h,b.mono h,c⟩,fS.mono h t⟩
def ab(t:Tr AV)(x:Nat):AV:=match t.get x with|some v=>v|none=>.un
def cJ(E:Env)(nt:Nat)(t:Tr AV)(a:Array Value):Prop:=a.size=nt/\∀ x,Conc E (ab t x) (a.getD x undef)
theorem cJ.mono{E F:Env}(h:E.le F){nt:Nat}{t:Tr AV}{a:Array Value}(k:cJ E nt t a):cJ F nt t a:=⟨k.1,fun x=>(k.2 x).mono h⟩
def tn(E:Env):List (AV× AV)->List MapEntry->Prop
 |[],[]=>True
 |e::es,m::ms=>(Conc E e.1 m.key/\Conc E e.2 m.val)/\tn E es ms
 |_,_=>False
theorem tn.mono{E F:Env}(h:E.le F):∀ {es:List (AV× AV)}{ms:List MapEntry},tn E es ms->tn F es ms
 |[],[],_=>trivial
 |_::_,_::_,⟨⟨a,b⟩,t⟩=>⟨⟨a.mono h,b.mono h⟩,tn.mono h t⟩
def rM(n:Nat)(fz:Nat× Nat):Prop:=fz.1=fz.2\/n<=fz.1
theorem rM.not(h:rM n fz)(off:Nat)(ho:off<n):¬ (fz.1<=off/\off<fz.2):=by rcases h with h|h<;>omega
def im(E:Env)(H:Array Obj)(B:fy):Row->Prop
 | .ce l _=>∃ cs t fz,H[B.b]? = some (.cells cs t fz)∧rM cs.size fz∧cs.size=B.n∧B.d+l.length≤B.n ∧
   aP E l ((cs.toList.drop B.d).take l.length)
 |.mp es clock=>∃ ents,H[B.b]? = some (.map ents clock)/\fS E es ents.toList
 |.si s pos=>B.d=0/\∃ str:ByteArray,H[B.b]? = some (.stringIter str pos)/\str.data.toList.map UInt8.toNat=s
 | .mi m since seen stepped=>B.d=0∧∃ mm,H[B.b]? = some (.mapIter mm since seen.toArray stepped) ∧
   (match m with|none=>mm=none|some r=>∃ Bm,E.phi r=some Bm/\mm=some Bm.b)
 |.lp t nt ps a b=>∃ (f:FuncId) (tmps:Array Value) (d:Nat),H[B.b]? = some (.loop { state:=.ready,pending:=none,fn:=f,tmps,params:=ps.toArray,assign:=a,body:=b,defers:=d })/\cJ E nt t tmps
 |.mu es=>∃ ents clock ms,H[B.b]? = some (.map ents clock)/\tn E es ms/\ents.toList.Perm ms
 |.ch cap buf=>∃ (s r:Nat) (us:List Value),H[B.b]? = some (.chan cap us.toArray false s r false)/\aP E buf us
 |.ty _ _ _=>False
def xp:Array Value:=((List.range 20).map fun k=>X6 .u64 ((10 ^ k:Nat):Int)).toArray
def sZ(E:Env)(H:Array Obj)(t r0:Nat):Bool->Prop
 |true=>∃ B,E.phi r0=some B/\(true=true->B.d=0)/\∃ (cs:Array Value) (fz:Nat× Nat),H[B.b]? = some (Z9 cs t fz)
 |false=>∃ (ty:TypeId) (fz:Nat× Nat),E.imm r0=some (.cells xp ty fz)
def fI(H H':Array Obj):Prop:=∀ (b:Nat) (cs:Array Value) (t:TypeId) (fz:Nat× Nat),H[b]? = some (Z9 cs t fz)->∃ (cs':Array Value) (fz':Nat× Nat),H'[b]? = some (Z9 cs' t fz')
theorem sZ.mono(hE:E.le F)(hH:fI H H'){t r0:Nat}:∀ {x:Bool},sZ E H t r0 x->sZ F H' t r0 x
 |true,⟨B,h1,h2,cs,_,h3⟩=>⟨B,hE.phi _ _ h1,h2,hH _ _ _ _ h3⟩
 |false,⟨ty,fz,h⟩=>⟨ty,fz,hE.imm _ _ h⟩
theorem fI.refl(H:Array Obj):fI H H:=fun _ cs _ fz h=>⟨cs,fz,h⟩
theorem fI.push(H:Array Obj)(o:Obj):fI H (H.push o):=fun b cs t fz h=>by grind
theorem fI.set{cs cs':Array Value}{fz':Nat× Nat}(hb:H[b]? = some (.cells cs t fz)):fI H (H.setIfInBounds b (.cells cs' t fz')):=fun c cs1 t1 fz1 h=>by grind
theorem fI.yj{o:Obj}(hb:∀ cs t fz,H[b]?≠some (.cells cs t fz)):fI H (H.setIfInBounds b o):=fun c cs1 t1 fz1 h=>by grind
theorem fI.H5(h:∀ b,b<H.size->H'[b]? = H[b]?):fI H H':=fun b cs t fz hb=>⟨cs,fz,by grind⟩
theorem im.mono{E F:Env}{H H':Array Obj}{B:fy}(h:E.le F)(hb:H'[B.b]? = H[B.b]?):∀ {row:Row},im E H B row->im F H' B row
 |.ce _ _,⟨cs,t,fz,a,b,c,d,e⟩=>⟨cs,t,fz,hb▸a,b,c,d,e.mono h⟩
 |.mp _ _,⟨ents,a,b⟩=>⟨ents,hb▸a,b.mono h⟩
 |.si _ _,⟨z,str,a,b⟩=>⟨z,str,hb▸a,b⟩
 |.mi m _ _ _,⟨z,mm,a,b⟩=>⟨z,mm,hb▸a,by
   cases m with
   |none=>grind
   |some r=>obtain⟨Bm,h1,h2⟩:=b;exact⟨Bm,h.phi r Bm h1,h2⟩⟩
 |.lp _ _ _ _ _,⟨f,tmps,d,a,b⟩=>⟨f,tmps,d,hb▸a,b.mono h⟩
 |.mu _,⟨ents,c,ms,a,b,d⟩=>⟨ents,c,ms,hb▸a,b.mono h,d⟩
 |.ch _ _,⟨s,r,us,a,b⟩=>⟨s,r,us,hb▸a,b.mono h⟩
 |.ty _ _ _,h=>h.elim
theorem im.lt{B:fy}(h:im E H B row):B.b<H.size:=by
 have:∃ o,H[B.b]? = some o:=by
  cases row with
  |ce=>obtain⟨_,_,_,a,_⟩:=h;grind
  |mp=>obtain⟨_,a,_⟩:=h;grind
  |si=>obtain⟨_,_,a,_⟩:=h;grind
  |mi=>obtain⟨_,_,a,_⟩:=h;grind
  |lp=>obtain⟨_,_,_,a,_⟩:=h;grind
  |mu=>obtain⟨_,_,_,a,_⟩:=h;grind
  |ch=>obtain⟨_,_,_,a,_⟩:=h;grind
  |ty=>exact h.elim
 grind
def uN(E:Env)(st:St)(g x y:Nat):Prop :=
 ∀ lx ly Bx By,st.get x=some (.ce lx g)->st.get y=some (.ce ly g)->E.phi x=some Bx->E.phi y=some By->Bx.b=By.b->By.d+ly.length<=Bx.d+lx.length
structure Rel(E:Env)(H:Array Obj)(st:St):Prop where
 imm:∀ b o,E.imm b=some o->H[b]? = some o
 fresh:∀ r,st.next<=r->r<E.top->E.phi r=none
 freshRow:∀ r,st.next<=r->st.get r=none
 freshG:∀ g,st.next<=g->st.live.get g=none
 liveLt:∀ g al x,st.live.get g=some al->x∈al->x<st.next
 rows:∀ r row,st.alive r=some row->∃ B,E.phi r=some B/\im E H B row
 own:∀ r row B,st.alive r=some row->E.phi r=some B->E.imm B.b=none
 sep:∀ r r' row row' B B',st.alive r=some row->st.alive r'=some row'->E.phi r=some B->E.phi r'=some B'->B.b=B'.b->
  r=r'\/∃ g l l',row=.ce l g/\row'=.ce l' g
 ends:∀ g al,st.live.get g=some al->al.Pairwise (uN E st g)
 tys:∀ r t r0 x,st.get r=some (.ty t r0 x)->sZ E H t r0 x
theorem im.Yg{B:fy}(h:im E H B row)(hce:∀ l g,row≠.ce l g):∀ cs t fz,H[B.b]?≠some (.cells cs t fz):=by
 intro cs t fz e;cases row with
 |ce l g=>grind
 |mp=>obtain⟨_,a,_⟩:=h;grind
 |si=>obtain⟨_,_,a,_⟩:=h;grind
 |mi=>obtain⟨_,_,a,_⟩:=h;grind
 |lp=>obtain⟨_,_,_,a,_⟩:=h;grind
 |mu=>obtain⟨_,_,_,a,_⟩:=h;grind
 |ch=>obtain⟨_,_,_,a,_⟩:=h;grind
 |ty=>exact h
def Env.bind(E:Env)(r:Nat)(B:fy):Env:=⟨E.imm,fun x=>if x=r then some B else E.phi x,E.top⟩
theorem Env.pk{B:fy}(h:E.phi r=none):E.le (E.bind r B):=
 ⟨fun _ _ h=>h,fun x C hx=>by grind[Env.bind]⟩
theorem Env.fj{B:fy}:(E.bind r B).phi r=some B:=by simp[Env.bind]
theorem Env.dY{x:Nat}{B:fy}(h:x≠r):(E.bind r B).phi x=E.phi x:=by simp[Env.bind,h]
theorem Rel.BD(h:Rel E H st)(ha:st.alive r=some row):r<st.next:=by
 rcases V0 r st.next with hl|hl
 ·grind
 ·have:=h.freshRow r hl;simp[St.alive,this]at ha
theorem Rel.pc(ha:st.alive r=some row):st.get r=some row:=by grind[St.alive]
theorem Rel.xh(h:Rel E H st){o:Obj}(hb:E.imm b=some o):b<H.size :=
 (V1.1 (h.imm b o hb)).1
theorem Rel.push(h:Rel E H st)(hn:st.next<E.top)(o:Obj)(n:Nat)(row:Row)(st':St)
  (hget:∀ r,st'.get r=if r=st.next then some row else st.get r) (hnext:st'.next=st.next+1)
  (hlive:∀ g,st'.live.get g=st.live.get g\/(g=st.next/\st'.live.get g=some [st.next]))
  (hce:∀ l g,row=.ce l g->g=st.next)
  (hrow:im (E.bind st.next ⟨H.size,0,n⟩) (H.push o) ⟨H.size,0,n⟩ row):
  Rel (E.bind st.next ⟨H.size,0,n⟩) (H.push o) st':=by
 have hle:E.le (E.bind st.next ⟨H.size,0,n⟩):=Env.pk (h.fresh _ (Q2 _) hn);have hold:∀ b,b<H.size->(H.push o)[b]? = H[b]?:=fun b hb=>by grind
 have hal:∀ r x,st'.alive r=some x->(r=st.next/\x=row)\/(r≠st.next/\st.alive r=some x):=by grind[St.alive,mem_iff]
 refine⟨?_,?_,?_,?_,?_,?_,?_,?_,?_,?_⟩
 ·intro b o' hb;have hb':E.imm b=some o':=hb;rw[hold b (h.xh hb')];exact h.imm b o' hb'
 ·intro r hr ht;rw[Env.dY (by omega)];exact h.fresh r (by omega) ht
 ·intro r hr;rw[hget,if_neg (by omega)];exact h.freshRow r (by omega)
 ·intro g hg;rcases hlive g with hh|⟨rfl,_⟩
  ·rw[hh];exact h.freshG g (by omega)
  grind
 ·intro g al x hg hx;rcases hlive g with hh|⟨rfl,hh⟩
  ·rw[hh]at hg;have:=h.liveLt g al x hg hx;omega
  grind
 ·intro r x hx;rcases hal r x hx with ⟨rfl,rfl⟩|⟨hne,hx'⟩
  ·exact⟨_,Env.fj,hrow⟩
  ·obtain⟨B,hB,hR⟩:=h.rows r x hx';exact⟨B,by rw[Env.dY hne];grind,hR.mono hle (hold _ hR.lt)⟩
 ·intro r x B hx hB;rcases hal r x hx with ⟨rfl,rfl⟩|⟨hne,hx'⟩
  ·rw[Env.fj]at hB;cases hB;show E.imm H.size=none
   cases hi:E.imm H.size with
   |none=>rfl
   |some o'=>exact absurd (h.xh hi) (X7 _)
  ·rw[Env.dY hne]at hB;exact h.own r x B hx' hB
 ·intro r r' x x' B B' hx hx' hB hB' hb;rcases hal r x hx with ⟨rfl,rfl⟩|⟨hne,hx1⟩<;>rcases hal r' x' hx' with ⟨rfl,rfl⟩|⟨hne',hx1'⟩
  ·grind
  ·rw[Env.fj]at hB;rw[Env.dY hne']at hB';obtain⟨C,hC,hR⟩:=h.rows r' x' hx1';rw[hB']at hC;have:=hR.lt;grind
  ·rw[Env.fj]at hB';cases hB';rw[Env.dY hne]at hB;obtain⟨C,hC,hR⟩:=h.rows r x hx1;rw[hB]at hC;cases hC;have:=hR.lt;grind
  ·rw[Env.dY hne]at hB;rw[Env.dY hne']at hB';exact h.sep r r' x x' B B' hx1 hx1' hB hB' hb
 ·intro g al hg;rcases hlive g with hh|⟨rfl,hh⟩
  ·rw[hh]at hg;refine(h.ends g al hg).imp_of_mem ?_;intro x y hx hy hxy lx ly Bx By h1 h2 h3 h4 h5;have hxn:x≠st.next:=by have:=h.liveLt g al x hg hx;omega
   have hyn:y≠st.next:=by have:=h.liveLt g al y hg hy;omega
   rw[hget,if_neg hxn]at h1;rw[hget,if_neg hyn]at h2;rw[Env.dY hxn]at h3;rw[Env.dY hyn]at h4;exact hxy lx ly Bx By h1 h2 h3 h4 h5
  grind
 ·intro r t r0 x hx;rw[hget]at hx;split at hx
  ·cases hx;exact(show False from hrow).elim
  ·exact(h.tys r t r0 x hx).mono hle (fI.push H o)
theorem St.uJ(st:St)(l:List AV)(r:Nat):(st.aw l).get r=if r=st.next then some (.ce l st.next) else st.get r:=by simp[St.aw,St.get,Tr.eh]
theorem St.pP(st:St)(w:Row)(r:Nat):(st.new w).get r=if r=st.next then some w else st.get r:=by simp[St.new,St.get,Tr.eh]
theorem Rel.aw(h:Rel E H st)(hn:st.next<E.top)(l:List AV)(vs:List Value)(t:TypeId)(fz:Nat× Nat)(hfz:rM vs.length fz)
  (hl:l.length<=vs.length) (hc:aP E l (vs.take l.length)):
  Rel (E.bind st.next ⟨H.size,0,vs.length⟩) (H.push (.cells vs.toArray t fz)) (st.aw l):=by
 have hle:E.le (E.bind st.next ⟨H.size,0,vs.length⟩):=Env.pk (h.fresh _ (Q2 _) hn);refine h.push hn _ _ (.ce l st.next) _ (St.uJ st l) rfl ?_ ?_ ?_
 ·grind[St.aw,Tr.eh]
 ·grind
 ·exact⟨vs.toArray,t,fz,by simp,by grind,by simp,by grind,by simpa using hc.mono hle⟩
theorem Rel.newRow(h:Rel E H st)(hn:st.next<E.top)(o:Obj)(row:Row)(hce:∀ l g,row≠.ce l g)
  (hrow:∀ F,E.le F->im F (H.push o) ⟨H.size,0,0⟩ row):
  Rel (E.bind st.next ⟨H.size,0,0⟩) (H.push o) (st.new row):=by
 have hle:E.le (E.bind st.next ⟨H.size,0,0⟩):=Env.pk (h.fresh _ (Q2 _) hn);exact h.push hn _ _ row _ (St.pP st row) rfl (fun g=>.inl rfl) (fun l g e=>absurd e (hce l g)) (hrow _ hle)
theorem Rel.putRow(h:Rel E H st){B:fy}(ha:st.alive r=some row)(hB:E.phi r=some B)(hce:∀ l g,row≠.ce l g)(hce':∀ l g,row'≠.ce l g)(o:Obj)
  (hrow:∀ H',H'[B.b]? = some o->im E H' B row'):Rel E (H.setIfInBounds B.b o) (st.put r row'):=by
 have hlt:B.b<H.size:=by obtain⟨C,hC,hR⟩:=h.rows r row ha;rw[hB]at hC;cases hC;exact hR.lt
 have hget:∀ x,(st.put r row').get x=if x=r then some row' else st.get x:=fun x=>by simp[St.put,St.get,Tr.eh]
 have hal:∀ x w,(st.put r row').alive x=some w->(x=r/\w=row')\/(x≠r/\st.alive x=some w):=by
  intro x w hx;by_cases e:x=r
  ·have:=Rel.pc hx;grind
  ·right;refine⟨e,?_⟩;unfold St.alive at hx|-;rw[hget,if_neg e]at hx;exact hx
 have hne:∀ x w C,x≠r->st.alive x=some w->E.phi x=some C->C.b≠B.b:=by
  intro x w C hx hw hC e;rcases h.sep x r w row C B hw ha hC hB e with rfl|⟨g,l,l',_,rfl⟩
  ·exact hx rfl
  ·exact hce l' g rfl
 have hother:∀ b,b≠B.b->(H.setIfInBounds B.b o)[b]? = H[b]?:=fun b hb=>by grind
 refine⟨?_,h.fresh,?_,h.freshG,h.liveLt,?_,?_,?_,?_,?_⟩
 ·intro b o' hb;have:b≠B.b:=by
   have:=h.own r row B ha hB;grind
  rw[hother b this];exact h.imm b o' hb
 ·intro x hx;have hx':st.next<=x:=hx;rw[hget,if_neg (by have:=h.BD ha;omega)];exact h.freshRow x hx'
 ·intro x w hx;rcases hal x w hx with ⟨rfl,rfl⟩|⟨hxr,hw⟩
  ·grind
  ·obtain⟨C,hC,hR⟩:=h.rows x w hw;exact⟨C,hC,hR.mono (Env.le.refl E) (hother _ (hne x w C hxr hw hC))⟩
 ·intro x w C hx hC;rcases hal x w hx with ⟨rfl,rfl⟩|⟨_,hw⟩
  ·rw[hB]at hC;cases hC;exact h.own x row B ha hB
  ·exact h.own x w C hw hC
 ·intro x x' w w' C C' hx hx' hC hC' hb;rcases hal x w hx with ⟨rfl,rfl⟩|⟨hxr,hw⟩<;>rcases hal x' w' hx' with ⟨rfl,rfl⟩|⟨hxr',hw'⟩
  ·grind
  ·grind
  ·grind
  ·exact h.sep x x' w w' C C' hw hw' hC hC' hb
 ·intro g al hg;refine(h.ends g al hg).imp ?_;intro x y hxy lx ly Bx By h1 h2 h3 h4 h5;rw[hget]at h1 h2;by_cases e1:x=r
  ·grind
  ·by_cases e2:y=r
   ·grind
   ·rw[if_neg e1]at h1;rw[if_neg e2]at h2;exact hxy lx ly Bx By h1 h2 h3 h4 h5
 ·intro x t r0 q hx;rw[hget]at hx;split at hx
  ·cases hx;exact(show False from hrow (H.setIfInBounds B.b o) (by grind)).elim
  ·refine(h.tys x t r0 q hx).mono (.refl E) (fI.yj ?_);obtain⟨C,hC,hR⟩:=h.rows r row ha;rw[hB]at hC;cases hC;exact hR.Yg hce
def mw(E:Env)(st:St)(b:Nat):Prop:=∃ r row B,st.alive r=some row/\E.phi r=some B/\B.b=b
def Un(E:Env)(st:St)(b:Nat):Prop:=¬ mw E st b/\E.imm b=none
structure Fr(E E':Env)(H H':Array Obj)(st st':St):Prop where
 size:H.size<=H'.size
 keep:∀ b,b<H.size->¬ mw E st b->H'[b]? = H[b]?
 own:∀ b,mw E' st' b->H.size<=b\/mw E st b
theorem Fr.refl(E:Env)(H:Array Obj)(st:St):Fr E E H H st st:=⟨Q2 _,fun _ _ _=>rfl,fun _ h=>.inr h⟩
theorem Fr.trans(h:Fr E E' H H' st st')(k:Fr E' E'' H' H'' st' st''):Fr E E'' H H'' st st'' :=
 ⟨X8 h.size k.size,fun b hb ho=>by
  rw[k.keep b (X9 hb h.size) (fun ho'=>(h.own b ho').elim (fun hh=>absurd hb (Y0.2 hh)) ho)];exact h.keep b hb ho,fun b hb=>by
  rcases k.own b hb with hh|hh
  ·exact .inl (X8 h.size hh)
  ·exact h.own b hh⟩
structure Step(E E':Env)(H H':Array Obj)(st st':St):Prop where
 le:E.le E'
 imm:∀ b,b<H.size->¬ mw E st b->E.imm b=none->E'.imm b=none
 top:E'.top=E.top
 rel:Rel E' H' st'
 fr:Fr E E' H H' st st'
theorem Step.refl{E:Env}{H:Array Obj}{st:St}(h:Rel E H st):Step E E H H st st:=⟨.refl E,fun _ _ _ h=>h,rfl,h,.refl E H st⟩
theorem Step.trans{E E' E'':Env}{H H' H'':Array Obj}{st st' st'':St}(h:Step E E' H H' st st')(k:Step E' E'' H' H'' st' st''):Step E E'' H H'' st st'' :=
 ⟨h.le.trans k.le,fun b hb ho hi=>k.imm b (X9 hb h.fr.size) (fun ho'=>(h.fr.own b ho').elim (fun hh=>absurd hb (Y0.2 hh)) ho) (h.imm b hb ho hi),k.top.trans h.top,k.rel,h.fr.trans k.fr⟩
structure bt(E E':Env)(w w':World)(st st':St):Prop extends Step E E' w.heap w'.heap st st' where
 os:w'.os=w.os
 out:w'.output=w.output
theorem bt.refl{E:Env}{w:World}{st:St}(h:Rel E w.heap st):bt E E w w st st:=⟨.refl h,rfl,rfl⟩
theorem bt.trans{E E' E'':Env}{w w' w'':World}{st st' st'':St}(h:bt E E' w w' st st')(k:bt E' E'' w' w'' st' st''):bt E E'' w w'' st st'' :=
 ⟨h.toStep.trans k.toStep,k.os.trans h.os,k.out.trans h.out⟩
theorem bt.of(h:Step E E' w.heap H st st'):bt E E' w { w with heap:=H } st st':=⟨h,rfl,rfl⟩
theorem Step.aw(h:Rel E H st)(hn:st.next<E.top)(l:List AV)(vs:List Value)(t:TypeId)(fz:Nat× Nat)(hfz:rM vs.length fz)
  (hl:l.length<=vs.length) (hc:aP E l (vs.take l.length)):
  Step E (E.bind st.next ⟨H.size,0,vs.length⟩) H (H.push (.cells vs.toArray t fz)) st (st.aw l):=by
 refine⟨Env.pk (h.fresh _ (Q2 _) hn),fun _ _ _ h=>h,rfl,h.aw hn l vs t fz hfz hl hc,by simp,?_,?_⟩
 ·grind
 ·rintro b ⟨r,row,B,ha,hB,rfl⟩;by_cases e:r=st.next
  ·grind[Env.fj]
  ·right;rw[Env.dY e]at hB;refine⟨r,row,B,?_,hB,rfl⟩;grind[St.uJ,St.alive,St.aw,Tr.eh,mem_iff]
theorem Step.newRow(h:Rel E H st)(hn:st.next<E.top)(o:Obj)(row:Row)(hce:∀ l g,row≠.ce l g)
  (hrow:∀ F,E.le F->im F (H.push o) ⟨H.size,0,0⟩ row):
  Step E (E.bind st.next ⟨H.size,0,0⟩) H (H.push o) st (st.new row):=by
 refine⟨Env.pk (h.fresh _ (Q2 _) hn),fun _ _ _ h=>h,rfl,h.newRow hn o row hce hrow,by simp,?_,?_⟩
 ·grind
 ·rintro b ⟨r,row',B,ha,hB,rfl⟩;by_cases e:r=st.next
  ·grind[Env.fj]
  ·right;rw[Env.dY e]at hB;refine⟨r,row',B,?_,hB,rfl⟩;unfold St.alive at ha|-;rw[St.pP,if_neg e]at ha;exact ha
theorem Step.putRow(h:Rel E H st){r:Nat}{row row':Row}{B:fy}(ha:st.alive r=some row)(hB:E.phi r=some B)(hce:∀ l g,row≠.ce l g)(hce':∀ l g,row'≠.ce l g)(o:Obj)
  (hrow:∀ H',H'[B.b]? = some o->im E H' B row'):Step E E H (H.setIfInBounds B.b o) st (st.put r row'):=by
 refine⟨.refl E,fun _ _ _ h=>h,rfl,h.putRow ha hB hce hce' o hrow,by simp,?_,?_⟩
 ·intro b hb ho;have:b≠B.b:=by rintro rfl;exact ho ⟨r,row,B,ha,hB,rfl⟩
  grind
 ·rintro b ⟨x,w,C,hx,hC,rfl⟩;right;by_cases e:x=r
  ·subst e;rw[hB]at hC;cases hC;exact⟨x,row,B,ha,hB,rfl⟩
  ·refine⟨x,w,C,?_,hC,rfl⟩;grind[St.alive,St.put,St.get,Tr.eh]
theorem NJ:∀ (l vs:List α),(over l vs).length=l.length
 |[],[]=>rfl
 |[],_::_=>rfl
 |_::_,[]=>rfl
 |_::l,_::vs=>by simp[over,NJ l vs]
theorem tG:∀ (l:List α) (o:Nat) (vs:List α),(bO l o vs).length=l.length
 |l,0,vs=>by simp[bO,NJ]
 |[],_+1,_=>rfl
 |_::l,o+1,vs=>by simp[bO,tG l o vs]
theorem Nn:∀ (l vs:List α),vs.length<=l.length->over l vs=vs++l.drop vs.length
 |[],[],_=>rfl
 |[],_::_,h=>by grind
 |_::_,[],_=>by simp[over]
 |_::l,_::vs,h=>by simp[over,Nn l vs (by grind)]
theorem kg:∀ (l:List α) (o:Nat) (vs:List α),o+vs.length<=l.length->bO l o vs=l.take o++vs++l.drop (o+vs.length)
 |l,0,vs,h=>by simp[bO,Nn l vs (by grind)]
 |[],o+1,vs,h=>by grind
 |x::l,o+1,vs,h=>by
  have h':o+vs.length<=l.length:=by grind
  simp[bO,kg l o vs h'];grind
theorem acS(l:List α)(k:Nat)(vs:List α)(d n:Nat)(hk:k+vs.length<=l.length)(h:d+n<=k):
  ((bO l k vs).drop d).take n=(l.drop d).take n:=by
 rw[kg l k vs hk];apply V2;grind[J1]
theorem Xm(l:List α)(d o:Nat)(vs:List α)(n:Nat)(h:o+vs.length<=n)(hl:d+n<=l.length):
  ((bO l (d+o) vs).drop d).take n=bO ((l.drop d).take n) o vs:=by
 rw[kg l (d+o) vs (by omega),kg _ o vs (by grind)];apply V2;intro j;by_cases hj:j<n
 ·simp[Y1,Y2];grind
 ·rw[J6 (by grind),J6 (by grind)]
theorem aP.bO{E:Env}{a b:List AV}{x y:List Value}(h:aP E a x)(k:aP E b y)(o:Nat)(ho:o+b.length<=a.length):aP E (bO a o b) (bO x o y):=by have h1:=h.length;have h2:=k.length;rw[kg a o b ho,kg x o y (by omega),h2];exact((h.take o).append k).append (h.drop _)
theorem MI:∀ {n:Nat}{l r:List AV},takeN n l=some r->r=l.take n/\n<=l.length
 |0,l,r,h=>by simp[takeN]at h;grind
 |n+1,[],r,h=>by simp[takeN]at h
 |n+1,v::l,r,h=>by
  simp[takeN]at h;split at h
  ·rename_i r' hr;obtain⟨rfl,hl⟩:=MI hr;cases h;exact⟨by simp,by simpa using hl⟩
  ·cases h
theorem sq:∀ {l:List AV}{o n:Nat}{r:List AV},cut l o n=some r->r=(l.drop o).take n/\(o+n<=l.length\/n=0)
 |l,0,n,r,h=>by
  have h':takeN n l=some r:=by cases l<;>exact h
  grind[MI]
 |[],o+1,n,r,h=>by
  simp[cut,bu]at h;by_cases hn:n=0
  ·subst hn;simp at h;subst h;simp
  ·simp[hn]at h
 |v::l,o+1,n,r,h=>by simp[cut]at h;obtain⟨h1,h2⟩:=sq h;exact⟨by simpa using h1,by rcases h2 with h2|h2<;>simp<;>omega⟩
theorem om{r:List AV}(h:cut l o n=some r):r.length=n:=by obtain⟨rfl,h2⟩:=sq h;grind
theorem acE(h:Conc E v u)(hs:bS v=true):u.oneCell'=true:=by cases h<;>first|rfl|simp[bS]at hs
theorem BW{E:Env}:∀ {l:List AV}{us:List Value},aP E l us->bq l=true->∀ u∈us,u.oneCell'=true
 |[],[],_,_=>by simp
 |v::l,u::us,.cons _ _ _ _ h t,hs=>by
  cases hv:bS v with
  |false=>simp[bq,hv]at hs
  |true =>
   simp[bq,hv]at hs;intro x hx;rcases List.mem_cons.1 hx with rfl|hx
   ·exact acE h hv
   ·exact BW t hs x hx
theorem yv(P:Program)(b o:Nat)(t:TypeId)(fz:Nat× Nat):∀ (vs:List Value) (i:Nat) (cs:List Value) (w:World),
  w.heap[b]? = some (.cells cs.toArray t fz)->(∀ off,off<cs.length->¬ (fz.1<=off/\off<fz.2))->o+i+vs.length<=cs.length->(∀ v∈vs,v.oneCell'=true)->
  (storeCells ⟨b,o,none⟩ vs i).run P w=.ok () { w with heap:=w.heap.setIfInBounds b (.cells (bO cs (o+i) vs).toArray t fz) }
 |[],i,cs,w,hw,_,_,_=>by
  have:bO cs (o+i) []=cs:=by simp_all[kg]
  simp[storeCells,this];cases w;grind[World.mk.injEq]
 |v::vs,i,cs,w,hw,hf,hl,h1=>by
  have hadd:J8 ⟨b,o,none⟩ i=⟨b,o+i,none⟩:=by grind[J8]
  have hlen:o+i<cs.length:=by grind
  have hcell:w.cell? ⟨b,o+i,none⟩=some (cs[o+i]):=by simp[V3,hw,hlen]
  have hfr:w.frozen? ⟨b,o+i,none⟩=false:=by grind[World.frozen?]
  have hset:w.setCell ⟨b,o+i,none⟩ v={ w with heap:=w.heap.setIfInBounds b (.cells (cs.set (o+i) v).toArray t fz) }:=by simp[World.setCell];grind
  have ih:=yv P b o t fz vs (i+1) (cs.set (o+i) v) { w with heap:=w.heap.setIfInBounds b (.cells (cs.set (o+i) v).toArray t fz) }
   (by grind) (by grind) (by grind) (fun x hx=>h1 x (by grind))
  simp[storeCells,hadd,run_store P w _ v _ (h1 v (by simp)),hcell,hfr,hset,J3];have e2:bO (cs.set (o+i) v) (o+(i+1)) vs=bO cs (o+i) (v::vs):=by
   rw[kg _ _ _ (by grind),kg _ _ _ (by grind)];have ht:(cs.set (o+i) v).take (o+(i+1))=cs.take (o+i)++[v]:=by grind[Y3,Y4,Y5]
   grind[Y6]
  simp_all
theorem Rel.cells(h:Rel E H st){r:Nat}{l:List AV}{g:Nat}{al:List Nat}(hr:st.ce r=some (l,g,al)):
  ∃ (B:fy) (cs:List Value) (t:TypeId) (fz:Nat× Nat),E.phi r=some B/\H[B.b]? = some (.cells cs.toArray t fz)/\rM cs.length fz/\cs.length=B.n/\
   B.d+l.length<=B.n/\aP E l ((cs.drop B.d).take l.length):=by
 obtain⟨ha,-,-,-⟩:=St.pR hr;obtain⟨B,hB,cs,t,fz,h1,h2,h3,h4,h5⟩:=h.rows r _ ha;exact⟨B,cs.toList,t,fz,hB,by omega,by grind,by grind,h4,h5⟩
theorem Rel.MA(h:Rel E H st){o:Obj}(_:b<H.size)(hbi:E.imm b=none)
  (hle:E.le E') (himm:E'.imm=E.imm) (hphi:∀ x,x<st.next->E'.phi x=E.phi x)
  (_:st.next<=st'.next) (htop:E'.top=E.top) (hfresh:∀ r,st'.next<=r->(r<E.top->E'.phi r=none)/\st'.get r=none) (hg:∀ g,st'.next<=g->st'.live.get g=none)
  (hll:∀ g al x,st'.live.get g=some al->x∈al->x<st'.next)
  (hal:∀ x w,st'.alive x=some w->(x<st.next/\st.alive x=some w/\(∀ C,E.phi x=some C->C.b=b->im E' (H.setIfInBounds b o) C w))\/
   (∃ C,E'.phi x=some C/\C.b=b/\im E' (H.setIfInBounds b o) C w))
  (hsep:∀ x x' w w' C C',st'.alive x=some w->st'.alive x'=some w'->E'.phi x=some C->E'.phi x'=some C'->C.b=b->C'.b=b->x=x'\/∃ g l l',w=.ce l g/\w'=.ce l' g)
  (hends:∀ g al,st'.live.get g=some al->al.Pairwise (uN E' st' g))
  (hty:∀ r t r0 x,st'.get r=some (.ty t r0 x)->st.get r=some (.ty t r0 x)) (htk:fI H (H.setIfInBounds b o)):
  Rel E' (H.setIfInBounds b o) st':=by
 have hother:∀ c,c≠b->(H.setIfInBounds b o)[c]? = H[c]?:=fun c hc=>by grind
 refine⟨?_,fun r hr ht=>(hfresh r hr).1 (htop▸ht),fun r hr=>(hfresh r hr).2,hg,hll,?_,?_,?_,hends,fun r t r0 x hx=>(h.tys r t r0 x (hty r t r0 x hx)).mono hle htk⟩
 ·intro c o' hc;rw[himm]at hc;have:c≠b:=by grind
  rw[hother c this];exact h.imm c o' hc
 ·intro x w hx;rcases hal x w hx with ⟨hlt,hw,hin⟩|⟨C,hC,-,hR⟩
  ·obtain⟨C,hC,hR⟩:=h.rows x w hw;refine⟨C,hle.phi x C hC,?_⟩;by_cases e:C.b=b
   ·grind
   ·exact hR.mono hle (hother _ e)
  grind
 ·intro x w C hx hC;rw[himm];rcases hal x w hx with ⟨hlt,hw,-⟩|⟨C',hC',hb',-⟩
  ·rw[hphi x hlt]at hC;exact h.own x w C hw hC
  grind
 ·intro x x' w w' C C' hx hx' hC hC' hcc;by_cases e:C.b=b
  ·grind
  ·rcases hal x w hx with ⟨hlt,hw,-⟩|⟨D,hD,hb',-⟩
   ·rcases hal x' w' hx' with ⟨hlt',hw',-⟩|⟨D,hD,hb',-⟩
    ·rw[hphi x hlt]at hC;rw[hphi x' hlt']at hC';exact h.sep x x' w w' C C' hw hw' hC hC' hcc
    grind
   grind
theorem Rel.wt(h:Rel E H st){r o:Nat}{vs:List AV}{us:List Value}{st':St}(hw:wt st r o vs=some st')(hc:aP E vs us):
  ∃ (B:fy) (cs:List Value) (t:TypeId) (fz:Nat× Nat),E.phi r=some B/\H[B.b]? = some (.cells cs.toArray t fz)/\rM cs.length fz/\
   (o+B.d)+us.length<=cs.length/\(∀ u∈us,u.oneCell'=true)/\Rel E (H.setIfInBounds B.b (.cells (bO cs (o+B.d) us).toArray t fz)) st':=by
 unfold Ev.wt at hw;cases hr:st.ce r with
 |none=>grind
 |some x =>
  obtain⟨l,g,al⟩:=x;simp[hr]at hw;cases hb:Q8 (o+vs.length) l.length with
  |false=>simp_all
  |true =>
   cases hs:bq vs with
   |false=>simp_all
   |true =>
    simp[hb,hs]at hw;have hle:=J9 hb;obtain⟨ha,hlg,hm,hget⟩:=St.pR hr;obtain⟨B,cs,t,fz,hB,hH,hfz,hn,hd,hC⟩:=h.cells hr;have hlen:=hc.length;refine⟨B,cs,t,fz,hB,hH,hfz,by omega,BW hc hs,?_⟩;have hlt:B.b<H.size:=(V1.1 hH).1;subst hw;have hget':∀ x,(St.mk (st.rows.set r (some (.ce (bO l o vs) g))) (st.live.set g (some [r])) st.next).get x=if x=r then some (.ce (bO l o vs) g) else st.get x:=fun x=>by simp[St.get,Tr.eh]
    have hrlt:=h.BD ha;have hal:∀ x w,(St.mk (st.rows.set r (some (.ce (bO l o vs) g))) (st.live.set g (some [r])) st.next).alive x=some w->
      (x=r/\w=.ce (bO l o vs) g)\/(x≠r/\st.alive x=some w/\∀ lx,w≠.ce lx g):=by
     grind[Rel.pc,St.alive,Tr.eh,mem_iff]
    have hne:∀ x w C,x≠r->st.alive x=some w->(∀ lx,w≠.ce lx g)->E.phi x=some C->C.b≠B.b:=by
     intro x w C hx hw hng hC e;rcases h.sep x r w _ C B hw ha hC hB e with rfl|⟨g',l1,l2,rfl,h2⟩
     ·exact hx rfl
     ·cases h2;exact hng l1 rfl
    refine h.MA hlt (h.own r _ B ha hB) (Env.le.refl E) rfl (fun _ _=>rfl) (Q2 _) rfl ?_ ?_ ?_ ?_ ?_ ?_ (fun x t' r0 q hx=>by grind) (fI.set hH)
    ·intro x hx;exact⟨fun ht=>h.fresh x hx ht,by rw[hget',if_neg (by grind)];exact h.freshRow x hx⟩
    ·intro g' hg';have:g≠g':=by rintro rfl;rw[h.freshG g hg']at hlg;grind
     simp[Tr.eh,if_neg (Ne.symm this)];exact h.freshG g' hg'
    ·intro g' al' x hg' hx;simp[Tr.eh]at hg';by_cases eg:g'=g
     ·grind
     ·rw[if_neg eg]at hg';exact h.liveLt g' al' x hg' hx
    ·intro x w hx;rcases hal x w hx with ⟨rfl,rfl⟩|⟨hxr,hw,hng⟩
     ·right;refine⟨B,hB,rfl,(bO cs (o+B.d) us).toArray,t,fz,by grind,?_,?_,?_,?_⟩
      ·simpa[tG]using hfz
      ·simpa[tG]using hn
      ·rw[tG];grind
      ·rw[tG];have:=Xm cs B.d o us l.length (by omega) (by omega);rw[V4 o B.d];simp;rw[this];exact hC.bO hc o hle
     ·left;exact⟨h.BD hw,hw,fun C hC e=>absurd e (hne x w C hxr hw hng hC)⟩
    ·intro x x' w w' C C' hx hx' hC hC' e1 e2;rcases hal x w hx with ⟨rfl,rfl⟩|⟨hxr,hw,hng⟩
     ·rcases hal x' w' hx' with ⟨rfl,rfl⟩|⟨hxr',hw',hng'⟩
      ·exact .inl rfl
      ·exact absurd e2 (hne x' w' C' hxr' hw' hng' hC')
     ·exact absurd e1 (hne x w C hxr hw hng hC)
    ·intro g' al' hg';simp[Tr.eh]at hg';by_cases eg:g'=g
     ·rw[if_pos eg]at hg';cases hg';simp
     ·rw[if_neg eg]at hg';refine(h.ends g' al' hg').imp ?_;intro x y hxy lx ly Bx By h1 h2 h3 h4 h5;rw[hget']at h1 h2;have e1:x≠r:=by grind
      have e2:y≠r:=by rintro rfl;rw[if_pos rfl]at h2;cases h2;exact eg rfl
      rw[if_neg e1]at h1;rw[if_neg e2]at h2;exact hxy lx ly Bx By h1 h2 h3 h4 h5
def grown(st:St)(l':List AV)(g:Nat)(al':List Nat):St:=⟨st.rows.set st.next (some (.ce l' g)),st.live.set g (some al'),st.next+1⟩
theorem qh(st:St)(l':List AV)(g:Nat)(al':List Nat)(x:Nat):(grown st l' g al').get x=if x=st.next then some (.ce l' g) else st.get x:=by simp[grown,St.get,Tr.eh]
theorem we(hr:st.ce r=some (l,g,al))(hsub:∀ x∈al',x=st.next\/x∈from_ r al){x:Nat}{w:Row}
  (hx:(grown st l' g al').alive x=some w):(x=st.next/\w=.ce l' g)\/(x≠st.next/\st.alive x=some w/\(∀ lx,w=.ce lx g->x∈al')):=by
 by_cases e:x=st.next
 ·have:=Rel.pc hx;grind[qh]
 ·obtain⟨-,hlg,-,-⟩:=St.pR hr;grind[Rel.pc,qh,St.alive,grown,Tr.eh,mem_iff,vJ]
theorem Ot(h:Rel E H st)(hlg:st.live.get g=some al)(hm:r∈al){x:Nat}(hx:x∈from_ r al):x=r\/uN E st g r x:=by have hp:=h.ends g al hlg;obtain⟨p,hpa⟩:=CB r al;grind[Xy,V6]
theorem PL(h:Rel E H st)(hlg:st.live.get g=some al):(from_ r al).Pairwise (uN E st g):=by have hp:=h.ends g al hlg;obtain⟨p,hpa⟩:=CB r al;grind
theorem Rel.Hd(h:Rel E H st)(hnt:st.next<E.top)(hr:st.ce r=some (l,g,al))(hcut:cut l o k=some old)
  (hal':(al'=st.next::from_ r al/\o+k=l.length)\/al'=[st.next]) (hnew:aP E new us)
  {B:fy} (hB:E.phi r=some B) (hroom:o+B.d+k+us.length<=B.n):
  ∃ (cs:List Value) (t:TypeId) (fz:Nat× Nat),H[B.b]? = some (.cells cs.toArray t fz)/\rM cs.length fz/\cs.length=B.n/\
   Rel (E.bind st.next ⟨B.b,o+B.d,B.n⟩) (H.setIfInBounds B.b (.cells (bO cs (o+B.d+k) us).toArray t fz)) (grown st (old++new) g al'):=by
 obtain⟨ha,hlg,hm,hget⟩:=St.pR hr;obtain⟨B',cs,t,fz,hB',hH,hfz,hn,hd,hC⟩:=h.cells hr;rw[hB]at hB';cases hB';refine⟨cs,t,fz,hH,hfz,hn,?_⟩;have hlt:B.b<H.size:=(V1.1 hH).1;have hsub:∀ x∈al',x=st.next\/x∈from_ r al:=by grind
 have hmem:r∈al:=mem_iff.1 hm;have hle:E.le (E.bind st.next ⟨B.b,o+B.d,B.n⟩):=Env.pk (h.fresh _ (Q2 _) hnt);have hg1:g<st.next:=by
  rcases V0 g st.next with hh|hh
  ·grind
  ·rw[h.freshG g hh]at hlg;grind
 have hin:∀ x w C,x≠st.next->st.alive x=some w->(∀ lx,w=.ce lx g->x∈al')->E.phi x=some C->C.b=B.b->∃ lx,w=.ce lx g/\C.d+lx.length<=o+B.d+k:=by
  intro x w C hx hw hin hC e;have hxg:∃ lx,w=.ce lx g:=by
   rcases h.sep x r w _ C B hw ha hC hB e with rfl|⟨g',l1,l2,rfl,h2⟩
   ·rw[ha]at hw;cases hw;exact⟨l,rfl⟩
   ·cases h2;exact⟨l1,rfl⟩
  obtain⟨lx,rfl⟩:=hxg;refine⟨lx,rfl,?_⟩;have hxm:=hin lx rfl;rcases hal' with ⟨rfl,hk⟩|rfl
  ·have hx2:x∈from_ r al:=by grind
   rcases Ot h hlg hmem hx2 with rfl|he
   ·grind
   ·have:=he l lx B C hget (Rel.pc hw) hB hC e.symm;omega
  grind
 refine h.MA hlt (h.own r _ B ha hB) hle rfl (fun x hx=>Env.dY (by omega)) (show st.next<=st.next+1 from Nat.le_succ _) rfl ?_ ?_ ?_ ?_ ?_ ?_ (fun x t' r0 q hx=>by grind[qh]) (fI.set hH)
 ·intro x hx;simp[grown]at hx;exact⟨fun ht=>by rw[Env.dY (by omega)];exact h.fresh x (by omega) ht,by rw[qh,if_neg (by omega)];exact h.freshRow x (by omega)⟩
 ·intro g' hg';simp[grown]at hg';have:g'≠g:=by omega
  simp[grown,Tr.eh,if_neg this];exact h.freshG g' (by omega)
 ·intro g' al2 x hg' hx;simp[grown,Tr.eh]at hg'|-;by_cases eg:g'=g
  ·rw[if_pos eg]at hg';cases hg';rcases hsub x hx with rfl|h1
   ·omega
   ·have:=h.liveLt g al x hlg (vJ h1);omega
  ·rw[if_neg eg]at hg';have:=h.liveLt g' al2 x hg' hx;omega
 ·intro x w hx;rcases we hr hsub hx with ⟨rfl,rfl⟩|⟨hxn,hw,hxin⟩
  ·right;refine⟨_,Env.fj,rfl,(bO cs (o+B.d+k) us).toArray,t,fz,by simp[hlt],?_,?_,?_,?_⟩
   ·simpa[tG]using hfz
   ·simpa[tG]using hn
   ·simp;have:=om hcut;have:=hnew.length;omega
   ·have hol:=om hcut;have hnl:=hnew.length;obtain⟨rfl,hok⟩:=sq hcut;simp only[V7];have e1:((bO cs (o+B.d+k) us).drop (o+B.d)).take (((l.drop o).take k).length+new.length)=((cs.drop (o+B.d)).take k)++us:=by
     rw[kg _ _ _ (by omega),hol,hnl];apply V2;intro j;by_cases hj:j<k+us.length
     ·rw[List.getElem?_take_of_lt hj,Y7];simp only[Y1,J1,V7,List.length_drop,Y2,Y7];have a1:min (o+B.d+k) cs.length=o+B.d+k:=by omega
      have a2:min k (cs.length-(o+B.d))=k:=by omega
      rw[a1,a2];by_cases h1:j<k
      ·rw[if_pos (by omega),if_pos (by omega),if_pos (by omega),if_pos h1,if_pos h1]
      ·rw[if_pos (by omega),if_neg (by omega),if_neg h1];congr 1;omega
     ·rw[J6 (by rw[J1];omega),J6 (by simp;omega)]
    rw[e1];refine aP.append (aP.mono hle ?_) (hnew.mono hle);have h2:=(hC.drop o).take k;rw[Y8,Y9,List.take_take]at h2;rw[V4 o B.d];rcases hok with hok|rfl
    ·rwa [show min k (l.length-o)=k by omega]at h2
    ·simp at h2|-;exact .nil
  ·left;refine⟨h.BD hw,hw,fun C hC e=>?_⟩;obtain⟨lx,rfl,hend⟩:=hin x w C hxn hw hxin hC e;obtain⟨C',hC',cs',t',fz',g1,g2,g3,g4,g5⟩:=h.rows x _ hw;rw[hC]at hC';cases hC';rw[e,hH]at g1;cases g1;refine⟨(bO cs (o+B.d+k) us).toArray,t,fz,by rw[e];simp[hlt],?_,?_,g4,?_⟩
   ·simpa[tG]using hfz
   ·simp[tG];simpa using g3
   ·simp at g5|-;rw[acS cs _ us C.d lx.length (by omega) hend];exact g5.mono hle
 ·intro x x' w w' C C' hx hx' hC hC' e1 e2;rcases we hr hsub hx with ⟨rfl,rfl⟩|⟨hxn,hw,hxin⟩<;>rcases we hr hsub hx' with ⟨rfl,rfl⟩|⟨hxn',hw',hxin'⟩
  ·exact .inl rfl
  ·rw[Env.dY hxn']at hC';obtain⟨lx,rfl,-⟩:=hin x' w' C' hxn' hw' hxin' hC' e2;exact .inr ⟨g,_,_,rfl,rfl⟩
  ·rw[Env.dY hxn]at hC;obtain⟨lx,rfl,-⟩:=hin x w C hxn hw hxin hC e1;exact .inr ⟨g,_,_,rfl,rfl⟩
  ·rw[Env.dY hxn]at hC;rw[Env.dY hxn']at hC';obtain⟨lx,rfl,-⟩:=hin x w C hxn hw hxin hC e1;obtain⟨lx',rfl,-⟩:=hin x' w' C' hxn' hw' hxin' hC' e2;exact .inr ⟨g,_,_,rfl,rfl⟩
 ·intro g' al2 hg';simp[grown,Tr.eh]at hg';have keep:∀ (gg:Nat) (al3:List Nat),(∀ x∈al3,x<st.next)->al3.Pairwise (uN E st gg)->al3.Pairwise (uN (E.bind st.next ⟨B.b,o+B.d,B.n⟩) (grown st (old++new) g al') gg):=by
   intro gg al3 hall hp;refine hp.imp_of_mem ?_;intro x y hx hy hxy lx ly Bx By h1 h2 h3 h4 h5;have a1:=hall x hx;have a2:=hall y hy;rw[qh,if_neg (by omega)]at h1 h2;rw[Env.dY (by omega)]at h3 h4;exact hxy lx ly Bx By h1 h2 h3 h4 h5
  by_cases eg:g'=g
  ·subst eg;rw[if_pos rfl]at hg';cases hg';rcases hal' with ⟨rfl,hk⟩|rfl
   ·refine V6.2 ⟨?_,keep _ _ (fun x hx=>h.liveLt _ al x hlg (vJ hx)) (PL h hlg)⟩;intro y hy lx ly Bx By h1 h2 h3 h4 h5;rw[qh,if_pos rfl]at h1;cases h1;rw[Env.fj]at h3;cases h3;have hyn:y≠st.next:=by have:=h.liveLt _ al y hlg (vJ hy);omega
    rw[qh,if_neg hyn]at h2;rw[Env.dY hyn]at h4;have hol:=om hcut;simp only at h5|-;rw[V7,hol];rcases Ot h hlg hmem hy with rfl|he
    ·rw[hget]at h2;cases h2;rw[hB]at h4;cases h4;omega
    ·have:=he l ly B By hget h2 hB h4 h5;omega
   ·simp
  ·rw[if_neg eg]at hg';exact keep _ _ (fun x hx=>h.liveLt g' al2 x hg' hx) (h.ends g' al2 hg')
theorem Rel.Hc(h:Rel E H st)(hn:st.next<E.top)(hr:st.ce r=some (l,g,al))(_:cut l o k=some old)
  (hal':(al'=st.next::from_ r al/\o+k=l.length)\/al'=[st.next]) (t:TypeId)
  (hl:(old++new).length<=vs.length) (hc:aP E (old++new) (vs.take (old++new).length)):
  Rel (E.bind st.next ⟨H.size,0,vs.length⟩) (H.push (.cells vs.toArray t (0,0))) (grown st (old++new) g al'):=by
 obtain⟨ha,hlg,hm,hget⟩:=St.pR hr;have hsub:∀ x∈al',x=st.next\/x∈from_ r al:=by grind
 have hle:E.le (E.bind st.next ⟨H.size,0,vs.length⟩):=Env.pk (h.fresh _ (Q2 _) hn);have hold:∀ b,b<H.size->(H.push (.cells vs.toArray t (0,0)))[b]? = H[b]?:=fun b hb=>by grind
 have hg1:g<st.next:=by
  rcases V0 g st.next with hh|hh
  ·grind
  ·rw[h.freshG g hh]at hlg;grind
 refine⟨?_,?_,?_,?_,?_,?_,?_,?_,?_,fun x t' r0 q hx=>by
  rw[qh]at hx;split at hx
  ·grind
  ·exact(h.tys x t' r0 q hx).mono hle (fI.push H _)⟩
 ·intro b o' hb;have hb':E.imm b=some o':=hb;rw[hold b (h.xh hb')];exact h.imm b o' hb'
 ·intro x hx ht;simp[grown]at hx;rw[Env.dY (by omega)];exact h.fresh x (by omega) ht
 ·intro x hx;simp[grown]at hx;rw[qh,if_neg (by omega)];exact h.freshRow x (by omega)
 ·intro g' hg';simp[grown]at hg';simp[grown,Tr.eh,if_neg (show ¬ g'=g by omega)];exact h.freshG g' (by omega)
 ·intro g' al2 x hg' hx;simp[grown,Tr.eh]at hg'|-;by_cases eg:g'=g
  ·rw[if_pos eg]at hg';cases hg';rcases hsub x hx with rfl|h1
   ·omega
   ·have:=h.liveLt g al x hlg (vJ h1);omega
  ·rw[if_neg eg]at hg';have:=h.liveLt g' al2 x hg' hx;omega
 ·intro x w hx;rcases we hr hsub hx with ⟨rfl,rfl⟩|⟨hxn,hw,-⟩
  ·exact⟨_,Env.fj,vs.toArray,t,(0,0),by simp,by exact .inl rfl,by simp,by simpa using hl,by simpa using hc.mono hle⟩
  ·obtain⟨C,hC,hR⟩:=h.rows x w hw;exact⟨C,by rw[Env.dY hxn];exact hC,hR.mono hle (hold _ hR.lt)⟩
 ·intro x w C hx hC;rcases we hr hsub hx with ⟨rfl,rfl⟩|⟨hxn,hw,-⟩
  ·rw[Env.fj]at hC;cases hC;show E.imm H.size=none
   cases hi:E.imm H.size with
   |none=>rfl
   |some o'=>exact absurd (h.xh hi) (X7 _)
  ·rw[Env.dY hxn]at hC;exact h.own x w C hw hC
 ·intro x x' w w' C C' hx hx' hC hC' hb;rcases we hr hsub hx with ⟨rfl,rfl⟩|⟨hxn,hw,-⟩<;>rcases we hr hsub hx' with ⟨rfl,rfl⟩|⟨hxn',hw',-⟩
  ·exact .inl rfl
  ·rw[Env.fj]at hC;cases hC;rw[Env.dY hxn']at hC';obtain⟨D,hD,hR⟩:=h.rows x' w' hw';rw[hC']at hD;cases hD;have:=hR.lt;simp at hb;omega
  ·rw[Env.fj]at hC';cases hC';rw[Env.dY hxn]at hC;obtain⟨D,hD,hR⟩:=h.rows x w hw;rw[hC]at hD;cases hD;have:=hR.lt;simp at hb;omega
  ·rw[Env.dY hxn]at hC;rw[Env.dY hxn']at hC';exact h.sep x x' w w' C C' hw hw' hC hC' hb
 ·intro g' al2 hg';simp[grown,Tr.eh]at hg';have keep:∀ (gg:Nat) (al3:List Nat),(∀ x∈al3,x<st.next)->al3.Pairwise (uN E st gg)->al3.Pairwise (uN (E.bind st.next ⟨H.size,0,vs.length⟩) (grown st (old++new) g al') gg):=by
   intro gg al3 hall hp;refine hp.imp_of_mem ?_;intro x y hx hy hxy lx ly Bx By h1 h2 h3 h4 h5;have a1:=hall x hx;have a2:=hall y hy;rw[qh,if_neg (by omega)]at h1 h2;rw[Env.dY (by omega)]at h3 h4;exact hxy lx ly Bx By h1 h2 h3 h4 h5
  by_cases eg:g'=g
  ·subst eg;rw[if_pos rfl]at hg';cases hg';rcases hal' with ⟨rfl,hk⟩|rfl
   ·refine V6.2 ⟨?_,keep _ _ (fun x hx=>h.liveLt _ al x hlg (vJ hx)) (PL h hlg)⟩;intro y hy lx ly Bx By h1 h2 h3 h4 h5;rw[Env.fj]at h3;cases h3;have hyn:y≠st.next:=by have:=h.liveLt _ al y hlg (vJ hy);omega
    rw[qh,if_neg hyn]at h2;rw[Env.dY hyn]at h4;have hmy:mem y al=true:=mem_iff.2 (vJ hy);have hay:st.alive y=some (.ce ly g'):=by simp[St.alive,h2,hlg,hmy]
    obtain⟨D,hD,hR⟩:=h.rows y _ hay;rw[h4]at hD;cases hD;have:=hR.lt;simp at h5;omega
   ·simp
  ·rw[if_neg eg]at hg';exact keep _ _ (fun x hx=>h.liveLt g' al2 x hg' hx) (h.ends g' al2 hg')
theorem Step.wt(h:Rel E H st){r o:Nat}{vs:List AV}{us:List Value}{st':St}(hw:wt st r o vs=some st')(hc:aP E vs us):
  ∃ (B:fy) (cs:List Value) (t:TypeId) (fz:Nat× Nat),E.phi r=some B/\H[B.b]? = some (.cells cs.toArray t fz)/\rM cs.length fz/\
   (o+B.d)+us.length<=cs.length/\(∀ u∈us,u.oneCell'=true)/\Step E E H (H.setIfInBounds B.b (.cells (bO cs (o+B.d) us).toArray t fz)) st st':=by
 obtain⟨B,cs,t,fz,h1,h2,h3,h4,h5,h6⟩:=h.wt hw hc;refine⟨B,cs,t,fz,h1,h2,h3,h4,h5,.refl E,fun _ _ _ h=>h,rfl,h6,by simp,?_,?_⟩
 ·intro b hb ho;have hw':=hw;unfold Ev.wt at hw';cases hr:st.ce r with
  |none=>grind
  |some x =>
   obtain⟨ha,-,-,-⟩:=St.pR hr;have:b≠B.b:=by rintro rfl;exact ho ⟨r,_,B,ha,h1,rfl⟩
   grind
 ·rintro b ⟨x,w,C,hx,hC,rfl⟩;right;have hw':=hw;unfold Ev.wt at hw';cases hr:st.ce r with
  |none=>grind
  |some y =>
   obtain⟨l,g,al⟩:=y;simp[hr]at hw';obtain⟨ha,hlg,hm,hget⟩:=St.pR hr;by_cases e:x=r
   ·subst e;exact⟨x,_,C,ha,hC,rfl⟩
   ·cases hb:(Q8 (o+vs.length) l.length&&bq vs) with
    |false=>simp_all
    |true =>simp[hb]at hw';refine⟨x,w,C,?_,hC,rfl⟩;grind[St.get,Tr.eh,St.alive,mem_iff]
theorem Pb(hr:st.ce r=some (l,g,al))(hsub:∀ x∈al',x=st.next\/x∈from_ r al)
  (hE:∀ x,x≠st.next->E'.phi x=E.phi x) (ho:mw E' (grown st l' g al') b):(∃ B,E'.phi st.next=some B/\B.b=b)\/mw E st b:=by
 obtain⟨x,w,C,hx,hC,rfl⟩:=ho;rcases we hr hsub hx with ⟨rfl,rfl⟩|⟨hxn,hw,-⟩
 ·grind
 ·rw[hE x hxn]at hC;exact .inr ⟨x,w,C,hw,hC,rfl⟩
theorem Step.Hd(h:Rel E H st)(hnt:st.next<E.top){r o k:Nat}{l old new:List AV}{g:Nat}{al al':List Nat}{us:List Value}(hr:st.ce r=some (l,g,al))(hcut:cut l o k=some old)
  (hal':(al'=st.next::from_ r al/\o+k=l.length)\/al'=[st.next]) (hnew:aP E new us)
  {B:fy} (hB:E.phi r=some B) (hroom:o+B.d+k+us.length<=B.n):
  ∃ (cs:List Value) (t:TypeId) (fz:Nat× Nat),H[B.b]? = some (.cells cs.toArray t fz)/\rM cs.length fz/\cs.length=B.n/\
   Step E (E.bind st.next ⟨B.b,o+B.d,B.n⟩) H (H.setIfInBounds B.b (.cells (bO cs (o+B.d+k) us).toArray t fz)) st (grown st (old++new) g al'):=by
 obtain⟨cs,t,fz,h1,h2,h3,h4⟩:=h.Hd hnt hr hcut hal' hnew hB hroom;obtain⟨ha,-,-,-⟩:=St.pR hr;have hsub:∀ x∈al',x=st.next\/x∈from_ r al:=by grind
 refine⟨cs,t,fz,h1,h2,h3,Env.pk (h.fresh _ (Q2 _) hnt),fun _ _ _ h=>h,rfl,h4,by simp,?_,?_⟩
 ·intro b hb ho;have:b≠B.b:=by rintro rfl;exact ho ⟨r,_,B,ha,hB,rfl⟩
  grind
 ·intro b ho;right;rcases Pb hr hsub (fun x hx=>Env.dY hx) ho with ⟨C,hC,rfl⟩|ho
  ·rw[Env.fj]at hC;cases hC;exact⟨r,_,B,ha,hB,rfl⟩
  grind
theorem Step.Hc(h:Rel E H st)(hnt:st.next<E.top){r o k:Nat}{l old new:List AV}{g:Nat}{al al':List Nat}{vs:List Value}(hr:st.ce r=some (l,g,al))(hcut:cut l o k=some old)
  (hal':(al'=st.next::from_ r al/\o+k=l.length)\/al'=[st.next]) (t:TypeId)
  (hl:(old++new).length<=vs.length) (hc:aP E (old++new) (vs.take (old++new).length)):
  Step E (E.bind st.next ⟨H.size,0,vs.length⟩) H (H.push (.cells vs.toArray t (0,0))) st (grown st (old++new) g al'):=by
 have hsub:∀ x∈al',x=st.next\/x∈from_ r al:=by grind
 refine⟨Env.pk (h.fresh _ (Q2 _) hnt),fun _ _ _ h=>h,rfl,h.Hc hnt hr hcut hal' t hl hc,by simp,?_,?_⟩
 ·intro b hb ho;simp[Array.getElem?_push,Nat.ne_of_lt hb]
 ·intro b ho;rcases Pb hr hsub (fun x hx=>Env.dY hx) ho with ⟨C,hC,rfl⟩|ho
  ·rw[Env.fj]at hC;cases hC;exact .inl (Q2 _)
  ·exact .inr ho
theorem St.yS(st:St)(r x:Nat):(st.drop r).get x=if x=r then none else st.get x:=by simp[St.drop,St.get,Tr.eh]
theorem St.get_put(st:St)(r:Nat)(row:Row)(x:Nat):(st.put r row).get x=if x=r then some row else st.get x:=by simp[St.put,St.get,Tr.eh]
theorem xH{x:Nat}(h:(st.drop r).alive x=some row):x≠r/\st.alive x=some row:=by
 have hx:x≠r:=by have:=Rel.pc h;grind[St.yS]
 refine⟨hx,?_⟩;unfold St.alive at h|-;rw[St.yS,if_neg hx]at h;exact h
theorem Step.drop(h:Rel E H st)(r:Nat):Step E E H H st (st.drop r):=by
 refine⟨.refl E,fun _ _ _ h=>h,rfl,⟨h.imm,h.fresh,?_,h.freshG,h.liveLt,?_,?_,?_,?_,fun x t r0 q hx=>by
  rw[St.yS]at hx;split at hx
  ·grind
  ·exact h.tys x t r0 q hx⟩,Q2 _,fun _ _ _=>rfl,?_⟩
 ·intro x hx;rw[St.yS];split
  ·rfl
  ·exact h.freshRow x hx
 ·intro x row hx;exact h.rows x row (xH hx).2
 ·intro x row B hx hB;exact h.own x row B (xH hx).2 hB
 ·intro x y row row' B B' hx hy hB hB' hb;exact h.sep x y row row' B B' (xH hx).2 (xH hy).2 hB hB' hb
 ·intro g al hg;refine(h.ends g al hg).imp ?_;intro x y hxy lx ly Bx By h1 h2;rw[St.yS]at h1 h2;split at h1
  ·grind
  ·split at h2
   ·grind
   ·exact hxy lx ly Bx By h1 h2
 ·rintro b ⟨x,row,B,hx,hB,rfl⟩;exact .inr ⟨x,row,B,(xH hx).2,hB,rfl⟩
theorem Step.other(h:Rel E H st)(o:Obj):Step E E H (H.push o) st st:=by
 have hold:∀ b,b<H.size->(H.push o)[b]? = H[b]?:=fun b hb=>by grind
 refine⟨.refl E,fun _ _ _ h=>h,rfl,⟨?_,h.fresh,h.freshRow,h.freshG,h.liveLt,?_,h.own,h.sep,h.ends,fun x t r0 q hx=>(h.tys x t r0 q hx).mono (.refl E) (fI.push H o)⟩,by simp,fun b hb _=>hold b hb,fun _ h=>.inr h⟩
 ·intro b o' hb;rw[hold b (h.xh hb)];exact h.imm b o' hb
 ·intro r row hr;obtain⟨B,hB,hR⟩:=h.rows r row hr;exact⟨B,hB,hR.mono (.refl E) (hold _ hR.lt)⟩
theorem Step.zA(h:Step E E' H H' st st')(hb:mw E st b\/H.size<=b)(hn:Un E' st' b)(o:Obj)(hk:fI H' (H'.setIfInBounds b o)):Step E E' H (H'.setIfInBounds b o) st st':=by
 have hold:∀ c,c≠b->(H'.setIfInBounds b o)[c]? = H'[c]?:=fun c hc=>by grind
 have hr:=h.rel;refine⟨h.le,h.imm,h.top,⟨?_,hr.fresh,hr.freshRow,hr.freshG,hr.liveLt,?_,hr.own,hr.sep,hr.ends,fun x t r0 q hx=>(hr.tys x t r0 q hx).mono (.refl E') hk⟩,by simpa using h.fr.size,?_,h.fr.own⟩
 ·intro c o' hc;have:c≠b:=by rintro rfl;rw[hn.2]at hc;grind
  rw[hold c this];exact hr.imm c o' hc
 ·intro r row hrow;obtain⟨B,hB,hR⟩:=hr.rows r row hrow;refine⟨B,hB,hR.mono (.refl E') (hold _ ?_)⟩;rintro rfl;exact hn.1 ⟨r,row,B,hrow,hB,rfl⟩
 ·intro c hc ho;have:c≠b:=by
   grind
  rw[hold c this];exact h.fr.keep c hc ho
theorem Bv{x:Nat}{w:Row}(_:∀ l g,row≠.ce l g)(h:(st.put r row).alive x=some w):(x=r/\w=row)\/(x≠r/\st.alive x=some w):=by
 by_cases e:x=r
 ·have:=Rel.pc h;grind[St.get_put]
 ·right;refine⟨e,?_⟩;unfold St.alive at h|-;rw[St.get_put,if_neg e]at h;exact h
theorem Step.Vp(h:Step E E' H H' st st'){B:fy}(hce:∀ l g,row≠.ce l g)(hr:r<st'.next)(hB:E'.phi r=some B)(hrow:im E' H' B row)
  (hb:mw E st B.b\/H.size<=B.b) (hn:Un E' st' B.b):Step E E' H H' st (st'.put r row):=by
 have hh:=h.rel;refine⟨h.le,h.imm,h.top,⟨hh.imm,hh.fresh,?_,hh.freshG,hh.liveLt,?_,?_,?_,?_,fun x t r0 q hx=>by
  rw[St.get_put]at hx;split at hx
  ·cases hx;exact(show False from hrow).elim
  ·exact hh.tys x t r0 q hx⟩,h.fr.size,h.fr.keep,?_⟩
 ·intro x hx;have hx':st'.next<=x:=hx;rw[St.get_put,if_neg (by omega)];exact hh.freshRow x hx'
 ·intro x w hx;rcases Bv hce hx with ⟨rfl,rfl⟩|⟨_,hx⟩
  ·grind
  ·exact hh.rows x w hx
 ·intro x w C hx hC;rcases Bv hce hx with ⟨rfl,rfl⟩|⟨_,hx⟩
  ·rw[hB]at hC;cases hC;exact hn.2
  ·exact hh.own x w C hx hC
 ·intro x y w w' C C' hx hy hC hC' hbb;rcases Bv hce hx with ⟨rfl,rfl⟩|⟨_,hx1⟩<;>rcases Bv hce hy with ⟨rfl,rfl⟩|⟨_,hy1⟩
  ·grind
  ·rw[hB]at hC;cases hC;exact absurd ⟨y,w',C',hy1,hC',hbb.symm⟩ hn.1
  ·rw[hB]at hC';cases hC';exact absurd ⟨x,w,C,hx1,hC,hbb⟩ hn.1
  ·exact hh.sep x y w w' C C' hx1 hy1 hC hC' hbb
 ·intro g al hg;refine(hh.ends g al hg).imp ?_;intro x y hxy lx ly Bx By h1 h2;rw[St.get_put]at h1 h2;split at h1
  ·grind
  ·split at h2
   ·grind
   ·exact hxy lx ly Bx By h1 h2
 ·rintro b ⟨x,w,C,hx,hC,rfl⟩;rcases Bv hce hx with ⟨rfl,rfl⟩|⟨_,hx⟩
  ·grind
  ·exact h.fr.own _ ⟨x,w,C,hx,hC,rfl⟩
theorem Step.Zr(h:Step E E' H H' st st')(hb:b<H.size)(hn:¬ mw E st b):¬ mw E' st' b:=fun ho=>by
 rcases h.fr.own b ho with hh|hh
 ·omega
 ·exact hn hh
theorem Step.un(h:Step E E' H H' st st')(hb:b<H.size)(hn:Un E st b):Un E' st' b:=⟨h.Zr hb hn.1,h.imm b hb hn.1 hn.2⟩
theorem Rel.Gj(h:Rel E H st)(hb:H.size<=b)(hn:¬ mw E st b):Un E st b:=⟨hn,by
 cases hi:E.imm b with
 |none=>rfl
 |some o=>have:=h.xh hi;omega⟩
theorem P9(h:Rel E H st){B:fy}(ha:st.alive r=some row)(hce:∀ l g,row≠.ce l g)(hB:E.phi r=some B):Un E (st.drop r) B.b:=by
 refine⟨?_,h.own _ _ _ ha hB⟩;rintro⟨x,w,C,hx,hC,hb⟩;obtain⟨hne,hx⟩:=xH hx;rcases h.sep x r w row C B hx ha hC hB hb with rfl|⟨g,l,l',_,rfl⟩
 ·exact hne rfl
 ·exact hce _ _ rfl
theorem Step.UH(h:Rel E H st){t r0:Nat}{x:Bool}(ht:sZ E H t r0 x):Step E E H H st (st.new (.ty t r0 x)):=by
 have hget:∀ r,(st.new (.ty t r0 x)).get r=if r=st.next then some (.ty t r0 x) else st.get r:=St.pP st _
 have hal:∀ {r:Nat} {row:Row},(st.new (.ty t r0 x)).alive r=some row->st.alive r=some row:=by
  intro r row hr;unfold St.alive at hr|-;rw[hget]at hr;by_cases e:r=st.next
  ·grind
  ·rw[if_neg e]at hr;exact hr
 have hce:∀ {r:Nat} {l:List AV} {g:Nat},(st.new (.ty t r0 x)).get r=some (.ce l g)->st.get r=some (.ce l g):=by grind
 have hnext:(st.new (.ty t r0 x)).next=st.next+1:=rfl;refine⟨.refl E,fun _ _ _ h=>h,rfl,⟨h.imm,fun r hr=>h.fresh r (by omega),fun r hr=>?_,fun g hg=>h.freshG g (by omega),fun g al y hg hy=>?_,fun r row hr=>h.rows r row (hal hr),fun r row B hr hB=>h.own r row B (hal hr) hB,
  fun r r' row row' B B' hr hr' hB hB' hb=>h.sep r r' row row' B B' (hal hr) (hal hr') hB hB' hb,fun g al hg=>?_,fun r t' r' q hr=>?_⟩,Q2 _,fun _ _ _=>rfl,?_⟩
 ·rw[hget,if_neg (by omega)];exact h.freshRow r (by omega)
 ·have:=h.liveLt g al y hg hy;omega
 ·refine(h.ends g al hg).imp ?_;intro a b hab la lb Ba Bb h1 h2;exact hab la lb Ba Bb (hce h1) (hce h2)
 ·rw[hget]at hr;split at hr
  ·grind
  ·exact h.tys r t' r' q hr
 ·rintro b ⟨r,row,B,hr,hB,rfl⟩;exact .inr ⟨r,row,B,hal hr,hB,rfl⟩
theorem oU(v:Value):Conc E (qU v) v:=by
 cases v with
 |bool x=>exact .b x
 |int k n=>exact .i k n
 |string s=>exact .s s
 |pointer a=>cases a with
  |none=>exact .pn
  |some a=>exact .bad _
 |slice a n c=>cases a with
  |none =>
   show Conc E (@Bool.rec (fun _=>AV) .bad .sn (Q3 (n+c) 0)) _
   rw[bu];by_cases h:n+c=0
   ·have h1:n=0:=by omega
    have h2:c=0:=by omega
    subst h1;subst h2;exact .sn
   ·simp only[h,decide_false];exact .bad _
  |some a=>exact .bad _
 |map r=>cases r with
  |none=>exact .mn
  |some r=>exact .bad _
 |func fn a b =>
  show Conc E (@Bool.rec (fun _=>AV) .bad (.f fn [] []) (Q3 (a.size+b.size) 0&&ou fn)) _
  cases hh:(Q3 (a.size+b.size) 0&&ou fn) with
  |false=>exact .bad _
  |true =>simp only[J4,bu,decide_eq_true_eq]at hh;obtain⟨h,hf⟩:=hh;have h1:a = #[]:=W8 (by omega);have h2:b = #[]:=W8 (by omega);subst h1;subst h2;exact .f fn [] [] [] [] hf .nil .nil
 |nilFunc=>exact .fn0
 |nilIface=>exact .if0
 |chan r =>
  cases r with
  |none=>exact .cn
  |some r=>exact .bad _
 |_=>exact .bad _
theorem BA:∀ l:List Value,aP E (l.map qU) l
 |[]=>.nil
 |v::l=>.cons _ _ _ _ (oU v) (BA l)
theorem uw(v:Value):Conc E (Cq v) v:=by
 cases v with
 |agg cs=>exact .ag _ cs.toList (BA _)
 |tuple cs=>exact .tu _ cs.toList (BA _)
 |iface t v=>exact .ifc t _ _ (oU v)
 |func fn a b =>
  show Conc E (@Bool.rec (fun _=>AV) .bad (.f fn (a.toList.map qU) (b.toList.map qU)) (ou fn)) _
  cases hf:ou fn with
  |false=>exact .bad _
  |true=>exact .f fn _ _ a.toList b.toList hf (BA _) (BA _)
 |bool x=>exact oU (.bool x)
 |int k n=>exact oU (.int k n)
 |float k b=>exact oU (.float k b)
 |complex k a b=>exact oU (.complex k a b)
 |string s=>exact oU (.string s)
 |pointer a=>exact oU (.pointer a)
 |slice a n c=>exact oU (.slice a n c)
 |map r=>exact oU (.map r)
 |chan r=>exact oU (.chan r)
 |nilFunc=>exact oU .nilFunc
 |nilIface=>exact oU .nilIface
theorem vw{t:Tr AV}{a:Act}(h:cJ E nt t a.tmps)(x:Operand):Conc E (ai t x) (a.eval x):=by
 cases x with
 |tmp x=>exact h.2 x
 |const v=>exact uw v
 |global g=>exact .gp g
 |func f=>exact .f (.func f) [] [] [] [] rfl .nil .nil
theorem Az(h:Conc E v u)(hc:v.cells=some l):aP E l u.cells.toList:=by cases h<;>cases hc<;>first|(first|assumption|exact .cons _ _ _ _ (by constructor<;>assumption) .nil)|exact .cons _ _ _ _ .un .nil
theorem vp{t:Tr AV}{ρ:Operand->Value}(h:∀ x,Conc E (ai t x) (ρ x)):∀ l:List Operand,aP E (args t l) (l.map ρ)
 |[]=>.nil
 |x::l=>.cons _ _ _ _ (h x) (vp h l)
theorem CH(h:bp P t=true):∃ i d,P.info? t=some i/\P.underlying t=some d:=by grind[bp,Option.isSome_iff_exists]
theorem wP{i:TypeInfo}(h:P.info? t=some i):(typeInfo t).run P w=.ok i w:=by simp[typeInfo,h]
theorem bQ{d:TypeDesc}(h:P.underlying t=some d):(underlying t).run P w=.ok d w:=by simp[underlying,h]
theorem gU(h:bp P t=true):(sizeOf t).run P w=.ok (aD P t) w:=by obtain⟨i,d,hi,hd⟩:=CH h;simp_all[sizeOf,wP,aD]
theorem Gt(h:bp P t=true):(isAgg t).run P w=.ok (et P t) w:=by obtain⟨i,d,hi,hd⟩:=CH h;unfold isAgg et;rw[Z3,bQ hd,hd];cases d<;>simp
theorem I7(h:zeroOf P t=some v):∃ z,v=Cq z/\∀ w,(zeroValue t).run P w=.ok z w:=by
 unfold zeroOf at h;split at h
 ·rename_i z _ _ hi;cases h;exact⟨z,rfl,fun w=>by simp[zeroValue,wP hi]⟩
 ·cases h
theorem rG(h:bm P t=some l):∃ z,(∀ w,(zeroValue t).run P w=.ok z w)/\aP E l z.cells.toList/\bp P t=true/\l.length=aD P t:=by
 unfold bm at h;cases hz:zeroOf P t with
 |none=>grind
 |some v =>
  rw[hz]at h;simp only at h;cases hc:v.cells with
  |none=>grind
  |some l' =>
   rw[hc]at h;simp[bu]at h;cases hb:bp P t with
   |false=>simp_all
   |true =>
    rw[hb,Bool.true_and]at h;by_cases hl:l'.length=aD P t
    ·rw[decide_eq_true hl]at h;cases h;obtain⟨z,rfl,hz'⟩:=I7 hz;exact⟨z,hz',Az (uw z) hc,rfl,hl⟩
    simp_all
theorem He{cs:List AV}{us:Array Value}{off:Nat}(h:part P t cs off=some v)(hc:aP E cs us.toList):
  ∃ u,(Go.part t us off).run P w=.ok u w/\Conc E v u:=by
 unfold part at h;cases hi:bp P t with
 |false=>simp_all
 |true =>
  rw[hi]at h;unfold Go.part;simp[Gt hi,J3];cases ha:et P t with
  |true =>
   rw[ha]at h;cases hcut:cut cs off (aD P t) with
   |none=>rw[hcut]at h;cases h
   |some l =>
    rw[hcut]at h;cases h;obtain⟨rfl,hlen⟩:=sq hcut;refine⟨.agg (us.extract off (off+aD P t)),by simp[gU hi],?_⟩;have e:us.extract off (off+aD P t)=((us.toList.drop off).take (aD P t)).toArray:=by grind
    rw[e];exact .ag _ _ ((hc.drop off).take _)
  |false =>
   rw[ha]at h;cases hcut:cut cs off 1 with
   |none=>rw[hcut]at h;cases h
   |some l =>
    rw[hcut]at h;obtain⟨rfl,hlen⟩:=sq hcut;have hlt:off<cs.length:=by omega
    have hlu:off<us.size:=by have:=hc.length;grind
    have e1:(cs.drop off).take 1=[cs[off]]:=by rw[List.drop_eq_getElem_cons hlt];rfl
    rw[e1]at h;cases h;refine⟨us[off],by simp_all,?_⟩;obtain⟨u,hu,hcu⟩:=hc.get off cs[off] (by grind);grind
theorem jA(b o j:Nat):J8 ⟨b,o,none⟩ j=⟨b,o+j,none⟩:=by grind[J8]
theorem TI{cs:List Value}(h:w.heap[b]? = some (.cells cs.toArray t fz))(hn:o+n<=cs.length\/n=0):
  (loadCells ⟨b,o,none⟩ n).run P w=.ok ((cs.drop o).take n).toArray w:=by
 grind[J1,run_loadCells_list,jA,V3]
theorem MG(h:Rel E w.heap st){v:Value}(hc:E.cell b o=some v):w.cell? ⟨b,o,none⟩=some v:=by
 unfold Env.cell at hc;cases hi:E.imm b with
 |none=>grind
 |some ob =>have:=h.imm b ob hi;grind[V3]
theorem NX(h:Rel E w.heap st)(hv:∀ (j:Nat) v,vs[j]? = some v->E.cell b (o+j)=some v)(hn:n<=vs.length):
  (loadCells ⟨b,o,none⟩ n).run P w=.ok (vs.take n).toArray w:=by
 grind[J1,run_loadCells_list,jA,MG]
theorem Co(h:Rel E w.heap st)(hr:rd st r o n=some l){B:fy}(hB:E.phi r=some B):
  ∃ us:List Value,(loadCells ⟨B.b,o+B.d,none⟩ n).run P w=.ok us.toArray w/\aP E l us/\l.length=n:=by
 unfold rd at hr;cases hc:st.ce r with
 |none=>grind
 |some x =>rw[hc]at hr;obtain⟨B',cs,t,fz,hB',hH,hfz,hn,hd,hC⟩:=h.cells hc;rw[hB]at hB';cases hB';have hlen:=om hr;obtain⟨rfl,hk⟩:=sq hr;refine⟨_,TI hH (by omega),?_,hlen⟩;have h2:=(hC.drop o).take n;grind[Y8,Y9]
theorem I6(h:Rel E w.heap st)(hl:loadAt P t st a=some v)(hu:Conc E a u):
  ∃ x,(V8 t u).run P w=.ok x w/\Conc E v x:=by
 unfold loadAt at hl;cases hi:bp P t with
 |false=>simp_all
 |true =>
  rw[hi]at hl;cases hp:a.bW with
  |some ro =>
   obtain⟨r,o⟩:=ro;have:=AV.wV hp;subst this;rw[hp]at hl;cases hu with
   |p _ _ B hB =>
    unfold V8 loadVar;simp[V9,pure_bind,Gt hi,J3];cases ha:et P t with
    |true =>
     rw[ha]at hl;simp only at hl;cases hr:rd st r o (aD P t) with
     |none=>rw[hr]at hl;cases hl
     |some l =>rw[hr]at hl;cases hl;obtain⟨us,h1,h2,-⟩:=Co (P:=P) h hr hB;exact⟨.agg us.toArray,by simp[gU hi,h1],.ag _ _ h2⟩
    |false =>
     rw[ha]at hl;simp only at hl;cases hr:rd st r o 1 with
     |none=>rw[hr]at hl;cases hl
     |some l =>
      rw[hr]at hl;obtain⟨us,h1,h2,h3⟩:=Co (P:=P) h hr hB
      match l,h3,hl with
      |[v'],_,hl =>
       cases hl;cases h2 with
       |cons _ _ x xs hx ht =>
        simp[loadCells,loadCellsFrom,jA]at h1;cases hld:(load ⟨B.b,o+B.d,none⟩:Sem Value).run P w with
        |halt e w'=>simp_all
        |ok y w' =>simp_all
  |none =>
   cases hp2:a.yQ with
   |none=>grind
   |some c =>
    have:=AV.Oy hp2;subst this;rw[hp2]at hl;cases hu with
    |rp _ b o vs hv hc =>
     unfold V8 loadVar;simp[V9,pure_bind,Gt hi,J3];have hlen:=hc.length;cases ha:et P t with
     |true =>
      rw[ha]at hl;simp only at hl;cases hr:cut c 0 (aD P t) with
      |none=>rw[hr]at hl;cases hl
      |some l =>rw[hr]at hl;cases hl;obtain⟨rfl,hk2⟩:=sq hr;refine⟨.agg (vs.take (aD P t)).toArray,?_,.ag _ _ (by simpa using hc.take (aD P t))⟩;simp[gU hi,NX h hv (n:=aD P t) (by omega)]
     |false =>
      rw[ha]at hl;simp only at hl;cases hr:cut c 0 1 with
      |none=>rw[hr]at hl;cases hl
      |some l =>
       rw[hr]at hl;obtain⟨rfl,hk2⟩:=sq hr;cases hc with
       |nil=>grind
       |cons v' l' x xs hx ht =>cases hl;have:=MG h (hv 0 x rfl);simp_all
theorem fo{a:Bool}{x y:α}(h:(@Bool.rec (fun _=>Option α) none (some x) a)=some y):a=true/\x=y:=by
 cases a with
 |false=>grind
 |true=>grind
theorem eY{a:Bool}{x:Option α}{y:α}(h:(@Bool.rec (fun _=>Option α) none x a)=some y):a=true/\x=some y:=by
 cases a with
 |false=>grind
 |true=>grind
theorem aar(h:Rel E w.heap st){ua uv:Value}(hs:storeAt P t st a v=some st')(ha:Conc E a ua)(hv:Conc E v uv):
  ∃ w',(W9 t ua uv).run P w=.ok () w'/\bt E E w w' st st':=by
 unfold storeAt at hs;cases hp:a.bW with
 |none=>grind
 |some ro =>
  obtain⟨r,o⟩:=ro;have:=AV.wV hp;subst this;cases hc:v.cells with
  |none=>rw[hc]at hs;cases hs
  |some l =>
   rw[hc]at hs;simp[wg,bu]at hs;obtain⟨hb,hs⟩:=eY hs;have hcl:=Az hv hc;obtain⟨B,cs,tt,fz,h1,h2,h3,h4,h5,h6⟩:=Step.wt h hs hcl;cases ha with
   |p _ _ B' hB' =>
    have hrun:=yv P B.b (o+B.d) tt fz uv.cells.toList 0 cs w h2 h3.not (by omega) h5;have hsz:uv.cells.size=aD P t:=by have:=hcl.length;grind
    refine⟨{ w with heap:=w.heap.setIfInBounds B.b (.cells (bO cs (o+B.d) uv.cells.toList).toArray tt fz) },?_,.of h6⟩;grind[W9,storeVar,V9,Z3,gU,J3]
theorem Og(h:Rel E w.heap st)(hn:st.next<E.top){us:Array Value}(t:TypeId)(hc:aP E l us.toList):
  ∃ E' w',(newRow t us).run P w=.ok ⟨w.heap.size,0,none⟩ w'/\bt E E' w w' st (st.aw l)/\E'.phi st.next=some ⟨w.heap.size,0,us.size⟩:=by
 have hl:=hc.length;have:=Step.aw h hn l us.toList t (0,0) (.inl rfl) (by omega) (by grind);refine⟨E.bind st.next ⟨w.heap.size,0,us.size⟩,{ w with heap:=w.heap.push (.cells us t) },by simp[newRow],?_,Env.fj⟩;exact bt.of (by simp_all)
theorem Ri:∀ (cs:List Value) (off k:Nat) (l:Array Value),off+k+cs.length<=l.size->
  ((cs.zipIdx k).foldl (fun l (c,j)=>l.setIfInBounds (off+j) c) l).toList=bO l.toList (off+k) cs
 |[],off,k,l,h=>by simp_all[kg]
 |c::cs,off,k,l,h=>by
  simp;rw[Ri cs off (k+1) _ (by grind)];rw[kg _ _ _ (by grind),kg _ _ _ (by grind)];have e:(l.setIfInBounds (off+k) c).toList.take (off+(k+1))=l.toList.take (off+k)++[c]:=by grind[Y3,Y4,Y5]
  simp;grind[Y6]
theorem Es{place:Nat->Option (Nat× Nat)}{t:Tr AV}{ρ:Operand->Value}(hρ:∀ x,Conc E (ai t x) (ρ x)):∀ (parts:List (Nat× Operand)) (cells l:List AV) (us:Array Value),
  fill place cells (gQ t parts)=some l->aP E cells us.toList->∃ us':Array Value,X0 place us (parts.map fun(i,x)=>(i,ρ x))=some us'/\aP E l us'.toList
 |[],cells,l,us,hf,hc=>by grind[gQ,fill,X0]
 |(i,x)::parts,cells,l,us,hf,hc=>by
  simp[gQ,fill]at hf;cases hp:place i with
  |none=>grind
  |some os =>
   obtain⟨off,size⟩:=os;cases hv:(ai t x).cells with
   |none=>grind
   |some cl =>
    rw[hp,hv]at hf;simp[bu]at hf;obtain⟨hb,hf⟩:=eY hf;simp only[J4,decide_eq_true_eq]at hb;obtain⟨hb1,hb2⟩:=hb;have hb2:=J9 hb2;have hcl:=Az (hρ x) hv;have hl1:=hcl.length;have hl2:=hc.length;have hcc:=hc.bO hcl off (by omega);have hfold:=Ri (ρ x).cells.toList off 0 us (by grind);have hfe:((ρ x).cells.zipIdx.foldl (fun cs (c,j)=>cs.setIfInBounds (off+j) c) us).toList=bO us.toList off (ρ x).cells.toList:=by grind[Array.toList_zipIdx]
    obtain⟨us',h1,h2⟩:=Es hρ parts (bO cells off cl) l _ hf (by rw[hfe];exact hcc);grind[X0]
theorem DZ{l:List AV}{us:List Value}(h:aP E l us):∀ n:Nat,aP E (rep n l) (rep n us)
 |0=>.nil
 |n+1=>h.append (DZ h n)
theorem wT{α:Type}(l:List α):∀ n:Nat,(rep n l).length=n*l.length
 |0=>by simp[rep]
 |n+1=>by simp[rep,wT l n,Nat.succ_mul,V4]
theorem ru(a b:Int):pV a b=decide (a=b):=by
 cases a with
 |ofNat a=>cases b with
  |ofNat b =>
   show Q3 a b=_
   grind[bu]
  |negSucc b=>rfl
 |negSucc a=>cases b with
  |ofNat b=>rfl
  |negSucc b =>
   show Q3 a b=_
   grind[bu]
theorem pH(a b:Int):oe a b=decide (a<b):=by
 cases a with
 |ofNat a=>cases b with
  |ofNat b =>
   show Z4 a b=_
   grind[Z5]
  |negSucc b =>
   show false=_
   grind
 |negSucc a=>cases b with
  |ofNat b =>
   show true=_
   grind
  |negSucc b =>
   show Z4 b a=_
   grind[Z5]
theorem Hb(a b:IntKind):ud a b=decide (a=b):=rfl
theorem xg(k:IntKind)(n:Int):wr k n=k.wrap n:=by
 have key:∀ m:Int,-9223372036854775808<=m->m<=9223372036854775807->IntKind.i64.wrap m=m:=fun m h1 h2=>IntWalk.i64_in m ⟨h1,h2⟩
 cases n with
 |ofNat m =>
  show(@Bool.rec (fun _=>Int) (k.wrap _) (Int.ofNat m) (vh k&&Q8 m 9223372036854775807))=_
  cases hb:(vh k&&Q8 m 9223372036854775807) with
  |false=>rfl
  |true =>simp only[J4]at hb;have hm:=J9 hb.2;grind[vh]
 |negSucc m =>
  show(@Bool.rec (fun _=>Int) (k.wrap _) (Int.negSucc m) (vh k&&Q8 m 9223372036854775807))=_
  cases hb:(vh k&&Q8 m 9223372036854775807) with
  |false=>rfl
  |true =>simp only[J4]at hb;have hm:=J9 hb.2;grind[vh]
theorem wh:∀ a b:List Nat,leq a b=decide (a=b)
 |[],[]=>rfl
 |[],_::_=>rfl
 |_::_,[]=>rfl
 |a::x,b::y=>by
  show(@Bool.rec (fun _=>Bool) false (leq x y) (Q3 a b))=_
  rw[bu,wh x y];by_cases h:a=b<;>simp[h]
theorem IW:∀ {x y:List UInt8},x.map UInt8.toNat=y.map UInt8.toNat->x=y
 |[],[],_=>rfl
 |[],_::_,h=>by grind
 |_::_,[],h=>by grind
 |a::x,b::y,h=>by simp at h;rw[UInt8.toNat_inj.1 h.1,IW h.2]
theorem P0:∀ x y:List UInt8,fX (x.map UInt8.toNat) (y.map UInt8.toNat)=Q6 x y
 |[],[]=>rfl
 |[],_::_=>rfl
 |_::_,[]=>rfl
 |a::x,b::y=>by
  show(@Bool.rec (fun _=>Bool) (@Bool.rec (fun _=>Bool) false (fX (x.map UInt8.toNat) (y.map UInt8.toNat)) (Q3 a.toNat b.toNat)) true (Z4 a.toNat b.toNat))=_
  rw[P0 x y,bu];simp[Q6];have h1:Z4 a.toNat b.toNat=decide (a<b):=by grind[Z5,UInt8.lt_iff_toNat_lt]
  have h2:(a==b)=decide (a.toNat=b.toNat):=by grind[UInt8.toNat_inj]
  rw[h1,h2];cases decide (a<b)<;>cases decide (a.toNat=b.toNat)<;>rfl
theorem aca{k:IntKind}{a b:Int}(h:IS op k a b=some v)(xt:TypeId):
  ∃ u,(Q0 op xt (.int k a) (.int k b)).run P w=.ok u w/\Conc E v u:=by
 cases op<;>first|cases h|skip
 case add=>exact⟨.int k (k.wrap (a+b)),by simp[Q0,Z6],by rw[xg];exact .i k _⟩
 case sub=>exact⟨.int k (k.wrap (a-b)),by simp[Q0,Z6],by rw[xg];exact .i k _⟩
 case mul=>exact⟨.int k (k.wrap (a*b)),by simp[Q0,Z6],by rw[xg];exact .i k _⟩
 case quo =>
  have h':xR b (.i k (wr k (a.tdiv b)))=some v:=h;unfold xR at h';rw[ru]at h';by_cases hb:b=0
  ·simp_all
  ·rw[decide_eq_false hb]at h';cases h';exact⟨.int k (k.wrap (a.tdiv b)),by simp[Q0,Op.intDiv,hb],by rw[xg];exact .i k _⟩
 case rem =>
  have h':xR b (.i k (a.tmod b))=some v:=h;unfold xR at h';rw[ru]at h';by_cases hb:b=0
  ·simp_all
  ·rw[decide_eq_false hb]at h';cases h';exact⟨.int k (a.tmod b),by simp[Q0,Op.intDiv,hb],.i k _⟩
 case and=>exact⟨_,by simp[Q0,J5],.i k _⟩
 case or=>exact⟨_,by simp[Q0,J5],.i k _⟩
 case xor=>exact⟨_,by simp[Q0,J5],.i k _⟩
 case andNot=>exact⟨_,by simp[Q0,J5],.i k _⟩
 case eql=>exact⟨.bool (a==b),by simp[Q0,Q9],by rw[ru];exact .b _⟩
 case neq=>exact⟨.bool (a != b),by simp[Q0,Q9],by rw[ru,bne,show(a==b)=decide (a=b) from rfl];exact .b _⟩
 case lss=>exact⟨.bool (a<b),by simp[Q0,Q9],by rw[pH];exact .b _⟩
 case leq=>exact⟨.bool (a<=b),by simp[Q0,Q9],by rw[pH,show(!decide (b<a))=decide (a<=b) by grind];exact .b _⟩
 case gtr=>exact⟨.bool (a > b),by simp[Q0,Q9],by rw[pH];exact .b _⟩
 case geq=>exact⟨.bool (a ≥ b),by simp[Q0,Q9],by rw[pH,show(!decide (a<b))=decide (a ≥ b) by grind];exact .b _⟩
theorem acQ{k:IntKind}{a:Int}(h:ID k a op y=some v)(hu:Conc E y u)(xt:TypeId):
  ∃ z,(Q0 op xt (.int k a) u).run P w=.ok z w/\Conc E v z/\∃ k' b,u=.int k' b:=by
 unfold ID at h;cases hy:y.pW with
 |none=>grind
 |some kb =>
  obtain⟨k',b⟩:=kb;have:=AV.CN hy;subst this;rw[hy]at h;cases hu;have other:Bk op k a k' b=some v->(op≠.shl/\op≠.shr)->∃ z,(Q0 op xt (.int k a) (.int k' b)).run P w=.ok z w/\Conc E v z/\∃ k'' b',X6 k' b=.int k'' b':=by
   intro h _;unfold Bk at h;rw[Hb]at h;by_cases hk:k=k'
   ·subst hk;rw[decide_eq_true rfl]at h;obtain⟨z,h1,h2⟩:=aca h xt;exact⟨z,h1,h2,k,b,rfl⟩
   ·rw[decide_eq_false hk]at h;cases h
  cases op<;>first|(refine other h ⟨?_,?_⟩<;>(grind))|skip
  ·simp[zS,Kl]at h;rw[pH]at h;by_cases hb:b<0
   ·simp_all
   ·rw[decide_eq_false hb]at h;cases h;exact⟨.int k (k.wrap (a*2 ^ (min b.toNat k.bits))),by simp[Q0,Op.shift,hb],.i k _,k',b,rfl⟩
  ·simp[zS,Ls]at h;rw[pH]at h;by_cases hb:b<0
   ·simp_all
   ·rw[decide_eq_false hb]at h;cases h;exact⟨.int k (a.fdiv (2 ^ (min b.toNat k.bits))),by simp[Q0,Op.shift,hb],.i k _,k',b,rfl⟩
theorem wR(a b:ByteArray):leq (a.data.toList.map UInt8.toNat) (b.data.toList.map UInt8.toNat)=(a.toList==b.toList):=by rw[wh,Z7,Z7,U1];simp only[decide_eq_true_eq,beq_iff_eq];exact⟨fun h=>IW h,fun h=>by rw[h]⟩
theorem strLt(a b:ByteArray):fX (a.data.toList.map UInt8.toNat) (b.data.toList.map UInt8.toNat)=Q6 a.toList b.toList:=by rw[P0,Z7,Z7]
theorem We{a b:ByteArray}(h:Oz op (a.data.toList.map UInt8.toNat) (b.data.toList.map UInt8.toNat)=some v)(xt:TypeId):
  ∃ z,(Q0 op xt (.string a) (.string b)).run P w=.ok z w/\Conc E v z:=by
 cases op<;>first|cases h|skip
 case add =>
  obtain⟨hb,h'⟩:=fo h;simp at hb;subst h';refine⟨.string (a++b),?_,?_⟩
  ·simp only[Q0,Q7];rw[if_neg]
   ·rfl
   grind[IntKind.max,IntKind.bits]
  ·have:a.data.toList.map UInt8.toNat++b.data.toList.map UInt8.toNat=(a++b).data.toList.map UInt8.toNat:=by simp
   rw[this];exact .s _
 case eql=>exact⟨.bool (a.toList==b.toList),by simp[Q0,Q7],by rw[wR];exact .b _⟩
 case neq=>exact⟨.bool (!(a.toList==b.toList)),by simp[Q0,Q7],by rw[wR];exact .b _⟩
 case lss=>exact⟨.bool (Q6 a.toList b.toList),by simp[Q0,Q7],by rw[strLt];exact .b _⟩
 case leq=>exact⟨.bool (Q6 a.toList b.toList||a.toList==b.toList),by simp[Q0,Q7],by rw[strLt,wR];exact .b _⟩
 case gtr=>exact⟨.bool (!(Q6 a.toList b.toList||a.toList==b.toList)),by simp[Q0,Q7],by rw[strLt,wR];exact .b _⟩
 case geq=>exact⟨.bool (!Q6 a.toList b.toList),by simp[Q0,Q7],by rw[strLt];exact .b _⟩
theorem CQ{b:Bool}(h:x.uZ=some b)(hx:Conc E x u):∃ a,u=.pointer a/\a.isNone=b:=by cases hx<;>cases h<;>exact⟨_,rfl,rfl⟩
theorem Fk{b:Bool}(h:x.yY=some b)(hx:Conc E x u):∃ a n c,u=.slice a n c/\a.isNone=b:=by cases hx<;>cases h<;>exact⟨_,_,_,rfl,rfl⟩
theorem DY{b:Bool}(h:x.xE=some b)(hx:Conc E x u):∃ a,u=.map a/\a.isNone=b:=by cases hx<;>cases h<;>exact⟨_,rfl,rfl⟩
theorem Fc{b:Bool}(h:x.EZ=some b)(hx:Conc E x u):(b=true/\u=.nilFunc)\/(b=false/\∃ f a c,u=.func f a c):=by cases hx<;>cases h<;>first|grind|grind
theorem DH{b:Bool}(h:x.CL=some b)(hx:Conc E x u):(b=true/\u=.nilIface)\/(b=false/\∃ t v,u=.iface t v):=by
 cases hx<;>cases h
 ·exact .inr ⟨rfl,_,_,rfl⟩
 ·exact .inl ⟨rfl,rfl⟩
theorem xS{a b:Option Bool}{r:Bool}(h:mQ a b=some r):(a=some true/\b=some r)\/(a=some false/\b=some true/\r=false):=by rcases a with _|_|_<;>rcases b with _|_|_<;>cases h<;>simp
theorem Iv{r:Bool}(h:ik P t x y=some r)(hx:Conc E x u1)(hy:Conc E y u2)(d:Nat):
  (Q1 (d+1) t u1 u2).run P w=.ok r w:=by
 unfold ik at h;split at h
 ·rename_i hu;unfold HQ at h;cases h1:x.gV with
  |none=>grind
  |some a =>
   cases h2:y.gV with
   |none=>grind
   |some b =>rw[h1,h2]at h;cases h;have:=AV.zi h1;subst this;have:=AV.zi h2;subst this;cases hx;cases hy;simp[Q1,bQ hu]
 ·rename_i k hu;unfold HY at h;cases h1:x.pW with
  |none=>grind
  |some a =>
   obtain⟨k1,a⟩:=a;cases h2:y.pW with
   |none=>grind
   |some b =>obtain⟨k2,b⟩:=b;rw[h1,h2]at h;have:=AV.CN h1;subst this;have:=AV.CN h2;subst this;simp[Hb,ru]at h;obtain⟨hk,h'⟩:=fo h;clear h;simp at hk;subst hk;subst h';cases hx;cases hy;simp[Q1,bQ hu];rfl
 ·rename_i hu;unfold eqStr at h;cases h1:x.oJ with
  |none=>rw[h1]at h;cases h
  |some a =>
   cases h2:y.oJ with
   |none=>rw[h1,h2]at h;cases h
   |some b =>rw[h1,h2]at h;cases h;have:=AV.AP h1;subst this;have:=AV.AP h2;subst this;cases hx;cases hy;rw[wR,<-beq_toListBytes];simp[Q1,bQ hu]
 ·rename_i e hu;cases hn:mQ x.uZ y.uZ with
  |some v =>
   rw[hn]at h;cases h;rcases xS hn with ⟨h1,h2⟩|⟨h1,h2,rfl⟩
   ·obtain⟨a,rfl,ha⟩:=CQ h1 hx;obtain⟨b,rfl,hb⟩:=CQ h2 hy;cases a<;>simp at ha
    simp[Q1,bQ hu,hb]
   ·obtain⟨a,rfl,ha⟩:=CQ h1 hx;obtain⟨b,rfl,hb⟩:=CQ h2 hy;cases a<;>simp at ha
    cases b<;>simp at hb
    simp[Q1,bQ hu]
  |none =>
   rw[hn]at h;simp[orElse,IL]at h;cases h1:x.bW with
   |none=>rw[h1]at h;cases h
   |some p1 =>
    obtain⟨r1,o1⟩:=p1;cases h2:y.bW with
    |none=>rw[h1,h2]at h;cases h
    |some p2 =>
     obtain⟨r2,o2⟩:=p2;rw[h1,h2]at h;have:=AV.wV h1;subst this;have:=AV.wV h2;subst this;simp[bu]at h;obtain⟨hb,h'⟩:=fo h;clear h h1 h2 hn;simp only[J4,decide_eq_true_eq]at hb;obtain⟨⟨hrr,hi⟩,hz⟩:=hb;subst hrr;cases hx with
     |p _ _ B1 hB1 =>
      cases hy with
      |p _ _ B2 hB2 =>
       rw[hB1]at hB2;cases hB2;have hz:¬ aD P e=0:=by rw[Z5]at hz;omega
       subst h';simp only[Q1,Z3,bQ hu,X4,gU hi,ne_eq,hz,not_false_eq_true,if_true,sameAddr,beq_self_eq_true,Sem.run_pure];congr 1;rw[U1];simp
 ·rename_i hu;rcases xS h with ⟨h1,h2⟩|⟨h1,h2,rfl⟩
  ·obtain⟨a,n,c,rfl,ha⟩:=Fk h1 hx;obtain⟨b,m,k,rfl,hb⟩:=Fk h2 hy;cases a<;>simp at ha
   simp[Q1,bQ hu,hb]
  ·obtain⟨a,n,c,rfl,ha⟩:=Fk h1 hx;obtain⟨b,m,k,rfl,hb⟩:=Fk h2 hy;cases a<;>simp at ha
   cases b<;>simp at hb
   simp[Q1,bQ hu]
 ·rename_i hu;rcases xS h with ⟨h1,h2⟩|⟨h1,h2,rfl⟩
  ·obtain⟨a,rfl,ha⟩:=DY h1 hx;obtain⟨b,rfl,hb⟩:=DY h2 hy;cases a<;>simp at ha
   simp[Q1,bQ hu,hb]
  ·obtain⟨a,rfl,ha⟩:=DY h1 hx;obtain⟨b,rfl,hb⟩:=DY h2 hy;cases a<;>simp at ha
   cases b<;>simp at hb
   simp[Q1,bQ hu]
 ·rename_i hu;rcases xS h with ⟨h1,h2⟩|⟨h1,h2,rfl⟩
  ·rcases Fc h1 hx with ⟨-,rfl⟩|⟨hh,-⟩
   ·rcases Fc h2 hy with ⟨rfl,rfl⟩|⟨rfl,f,a,c,rfl⟩<;>simp[Q1,bQ hu]
   ·cases hh
  ·rcases Fc h1 hx with ⟨hh,-⟩|⟨-,f,a,c,rfl⟩
   ·cases hh
   ·rcases Fc h2 hy with ⟨-,rfl⟩|⟨hh,-⟩
    ·simp[Q1,bQ hu]
    ·cases hh
 ·rename_i hu;rcases xS h with ⟨h1,h2⟩|⟨h1,h2,rfl⟩
  ·rcases DH h1 hx with ⟨-,rfl⟩|⟨hh,-⟩
   ·rcases DH h2 hy with ⟨rfl,rfl⟩|⟨rfl,f,a,rfl⟩<;>simp[Q1,bQ hu]
   ·cases hh
  ·rcases DH h1 hx with ⟨hh,-⟩|⟨-,f,a,rfl⟩
   ·cases hh
   ·rcases DH h2 hy with ⟨-,rfl⟩|⟨hh,-⟩
    ·simp[Q1,bQ hu]
    ·cases hh
 grind
theorem MY{xs ys:List AV}{us vs:Array Value}(hx:aP E xs us.toList)(hy:aP E ys vs.toList)(d:Nat):∀ (fs:List Field) (r:Bool),tk P xs ys fs=some r->(X5 (d+1) us vs fs).run P w=.ok r w
 |[],r,h=>by simp_all[tk,X5]
 |f::fs,r,h=>by
  simp[tk]at h;cases hn:(f.name == "_") with
  |true=>rw[hn]at h;cases h
  |false =>
   rw[hn]at h;cases h1:part P f.type xs f.offset with
   |none=>rw[h1]at h;cases h
   |some a =>
    cases h2:part P f.type ys f.offset with
    |none=>rw[h1,h2]at h;cases h
    |some b =>
     rw[h1,h2]at h;simp only at h;obtain⟨u,hu1,hu2⟩:=He (w:=w) h1 hx;obtain⟨v,hv1,hv2⟩:=He (w:=w) h2 hy;have hne:f.name≠ "_":=by simpa using hn
     simp only[X5,ne_eq,hne,not_false_eq_true,if_true,Z3,hu1,hv1,X4];cases h3:ik P f.type a b with
     |none=>rw[h3]at h;cases h
     |some q =>
      rw[Iv h3 hu2 hv2 d,X4];rw[h3]at h;cases q with
      |true =>exact MY hx hy d fs r h
      |false=>cases h;simp
theorem Dw(h1:u1=.nilIface->u2=.nilIface->False)(h2:∀ a b,u1=.agg a->u2=.agg b->False):
  (Q4 op t xo yo u1 u2).run P w=.ok () w:=by
 simp_all[Q4]
theorem EO{c:Bool}:mG P t c .bad y=none:=by
 have e:mG P t c .bad y=orElse (ik P t .bad y) (Ez P t .bad y):=rfl;have e1:ik P t .bad y=none:=by unfold ik;split<;>rfl
 have e2:Ez P t .bad y=none:=by unfold Ez;cases isChan P t<;>rfl
 rw[e,e1,e2];rfl
theorem Oj{r:Bool}(h:mG P t (kU xo||kU yo) x y=some r)(hx:Conc E x u1)(hy:Conc E y u2):
  (Q4 op t xo yo u1 u2).run P w=.ok () w/\(Op.equal t u1 u2).run P w=.ok r w:=by
 unfold mG at h;split at h
 ·rename_i xs ys;cases hx with
  |ag _ us hus =>
   cases hy with
   |ag _ vs hvs =>
    unfold DT at h;split at h
    ·rename_i fs hf;obtain⟨hb,h'⟩:=eY h;simp at hb;constructor
     ·cases op<;>simp[Q4,hb.2]
     ·have hfo:P.fieldsOf t=fs:=by simp[Program.fieldsOf,hf]
      show(Q1 (9999+1) t _ _).run P w=_
      rw[run_equalIn_struct w 9999 t _ _ (by grind) hb.1,hfo];exact MY (by omega) (by grind) 9998 fs.toList r h'
    grind
 ·obtain⟨hc,h'⟩:=eY h;cases hx;cases hy;constructor
  ·rw[Bool.or_eq_true]at hc;rcases hc with hc|hc
   ·cases xo<;>simp[kU]at hc
    cases op<;>simp[Q4]
   ·cases yo<;>simp[kU]at hc
    cases op<;>simp[Q4]
  ·exact Iv h' (E:=E) .if0 .if0 9999
 ·rename_i h1 h2;cases he:ik P t x y with
  |none =>
   rw[he]at h;obtain⟨hc,h⟩:=eY h;have hu:∃ dd e,P.underlying t=some (.chan dd e):=by grind[isChan]
   obtain⟨dd,e,hu⟩:=hu;have key:∀ {x:AV} {u:Value} {b:Bool},x.Ht=some b->Conc E x u->∃ a,u=.chan a/\a.isNone=b:=by intro x u b h hx;cases hx<;>cases h<;>exact⟨_,rfl,rfl⟩
   have fin:∃ a b,u1=.chan a/\u2=.chan b/\(a==b)=r:=by
    rcases xS h with ⟨h1,h2⟩|⟨h1,h2,rfl⟩
    ·obtain⟨a,rfl,ha⟩:=key h1 hx;obtain⟨b,rfl,hb⟩:=key h2 hy;cases a<;>simp at ha
     refine⟨none,b,rfl,rfl,?_⟩;cases b<;>simp at hb<;>subst hb<;>rfl
    grind
   obtain⟨a,b,rfl,rfl,hab⟩:=fin;refine⟨Dw (fun e=>by grind) (fun _ _ e=>by grind),?_⟩;have:∀ d,(Q1 (d+1) t (.chan a) (.chan b)).run P w=.ok r w:=fun d=>by simp[Q1,bQ hu,hab]
   exact this 9999
  |some vv =>
  have h:ik P t x y=some r:=by rw[he]at h;rw[he];exact h
  refine⟨?_,Iv h hx hy 9999⟩;have n1:∀ vs,u1=.agg vs->∃ l,x=.ag l\/x=.bad:=by rintro vs rfl;cases hx;exact⟨[],.inr rfl⟩;exact⟨_,.inl rfl⟩
  have n2:∀ vs,u2=.agg vs->∃ l,y=.ag l\/y=.bad:=by rintro vs rfl;cases hy;exact⟨[],.inr rfl⟩;exact⟨_,.inl rfl⟩
  have m1:u1=.nilIface->x=.if0\/x=.bad:=by rintro rfl;cases hx;exact .inr rfl;exact .inl rfl
  have m2:u2=.nilIface->y=.if0\/y=.bad:=by rintro rfl;cases hy;exact .inr rfl;exact .inl rfl
  have bx:x≠.bad:=by rintro rfl;unfold ik at h;split at h<;>first|cases h|skip
  have by_:y≠.bad:=by
   rintro rfl;have e1:AV.bad.gV=none:=rfl;have e2:AV.bad.pW=none:=rfl;have e3:AV.bad.oJ=none:=rfl;have e4:AV.bad.bW=none:=rfl;have e5:AV.bad.uZ=none:=rfl;have e6:AV.bad.yY=none:=rfl;have e7:AV.bad.xE=none:=rfl;have e8:AV.bad.EZ=none:=rfl;have e9:AV.bad.CL=none:=rfl;have en:∀ o:Option Bool,mQ o none=none:=by rintro(_|_|_)<;>rfl
   unfold ik at h;simp only[HQ,HY,eqStr,IL,e1,e2,e3,e4,e5,e6,e7,e8,e9,en,orElse]at h;split at h<;>first|cases h|skip
   ·revert h;cases x.gV<;>intro h<;>cases h
   ·revert h;rcases x.pW with _|⟨_,_⟩<;>intro h<;>cases h
   ·revert h;cases x.oJ<;>intro h<;>cases h
   ·revert h;rcases x.bW with _|⟨_,_⟩<;>intro h<;>cases h
  refine Dw (fun e1 e2=>?_) (fun a b e1 e2=>?_)
  ·exact h2 ((m1 e1).resolve_right bx) ((m2 e2).resolve_right by_)
  ·obtain⟨l,hl⟩:=n1 _ e1;obtain⟨l',hl'⟩:=n2 _ e2;exact h1 l l' (hl.resolve_right bx) (hl'.resolve_right by_)
theorem Po(h:binOp P t (kU xo||kU yo) op x y=some v)(hx:Conc E x u1)(hy:Conc E y u2):
  ∃ z,(do Q4 op t xo yo u1 u2;Q0 op t u1 u2:Sem Value).run P w=.ok z w/\Conc E v z:=by
 have gi:∀ k a k' b,(Q4 op t xo yo (.int k a) (.int k' b)).run P w=.ok () w:=fun k a k' b=>Dw (fun e=>by grind) (fun _ _ e=>by grind)
 have gs:∀ a b,(Q4 op t xo yo (.string a) (.string b)).run P w=.ok () w:=fun a b=>Dw (fun e=>by grind) (fun _ _ e=>by grind)
 unfold binOp at h;cases h1:x.pW with
 |some ka =>have:=AV.CN h1;subst this;rw[h1]at h;cases hx;obtain⟨z,hz,hc,k',b,rfl⟩:=acQ (P:=P) (w:=w) h hy t;simp_all
 |none =>
  rw[h1]at h;cases h2:x.oJ with
  |some l =>
   have:=AV.AP h2;subst this;simp[Qs]at h;cases h3:y.oJ with
   |none=>grind
   |some l' =>
    have:=AV.AP h3;subst this;cases hx with
    |s a =>
     cases hy with
     |s b =>simp_all[We]
  |none =>
   rw[h2]at h;simp[mb]at h;have hni:∀ k n,u1≠.int k n:=by
    rintro k n rfl;cases hx
    ·grind[EO]
    ·cases h1
   have hns:∀ n,u1≠.string n:=by
    rintro n rfl;cases hx
    ·grind[EO]
    ·cases h2
   have hnf:∀ k n,u1≠.float k n:=by rintro k n rfl;cases hx;grind[EO]
   have hnc:∀ k n m,u1≠.complex k n m:=by rintro k n m rfl;cases hx;grind[EO]
   cases op<;>simp only at h<;>first|cases h|skip
   ·cases h3:mG P t (kU xo||kU yo) x y with
    |none=>grind
    |some r =>rw[h3]at h;cases h;obtain⟨g1,g2⟩:=Oj (w:=w) (op:=.eql) h3 hx hy;refine⟨.bool r,?_,.b r⟩;simp_all[Q0]
   ·cases h3:mG P t (kU xo||kU yo) x y with
    |none=>grind
    |some r =>rw[h3]at h;cases h;obtain⟨g1,g2⟩:=Oj (w:=w) (op:=.neq) h3 hx hy;refine⟨.bool (!r),?_,.b _⟩;simp_all[Q0]
theorem Lp{op:UnOp}(h:unOp op x=some v)(hx:Conc E x u):∃ z,(Z8 op u).run P w=.ok z w/\Conc E v z:=by
 unfold unOp at h;split at h
 ·cases h;cases hx;rename_i k n;exact⟨.int k (k.wrap (0-n)),by simp[Z8,Z6],by rw[xg];exact .i k _⟩
 ·cases h;cases hx;exact⟨_,by simp[Z8,J5],.i _ _⟩
 ·cases h;cases hx;exact⟨_,by simp[Z8],.b _⟩
 grind
