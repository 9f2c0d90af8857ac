/- A part of the proof. -/
import Derived.Test.YtjpheibfljmbjaaGreatDoorS07
import Derived.Maps.RangeRun
import Derived.Shelf.Sort.Plain
import Derived.Shelf.Slices.CompactS
import Derived.Test.YtjpheibfljmbjaaGreatDoorProg
import Derived.Shelf.SlSortCmp.WholeK
import Derived.Laws.Cover1
set_option maxRecDepth 100000
open Nat renaming ble->Q0, le_refl->Q1, le_trans->Q6, ble_eq_true_of_le->Q8, beq->J4, lt_succ_self->J9, lt_of_lt_of_le->Z6, le_succ->Z7
open Go.Sort renaming putRow->Q2, ahead->Q7, grow->J1, Holds->J8, putCells->Z3, onCells->X5
open Go.Lib renaming compact->Q3, toList_data->Q4, keeps->Z4, compactUpTo->V2
open Go.Steps renaming one->Q9
open Option renaming bind_some->J3, map_some->V1
open Go.Instr renaming next->J5
open List renaming filter_cons->J6, mem_cons_of_mem->Z8, getElem?_eq_getElem->V0, mem_range->V3, replicate->V4, getElem?_take->V7, drop_eq_getElem_cons->V8, mem_map->V9, map_map->X6, map_congr_left->X7, mem_filter->X8
open Bool renaming eq_false_iff->Z5
open Array renaming replicate->Z9
open Go.Shelf renaming Ren->V6
open List.Perm renaming append_left->X0
open Go.Frame renaming enter->X4
open Go.Op renaming bytesLess->X9
open Option.some renaming inj->Y0, injEq->Y4
open Go.Proofs.SlLaysF0 renaming n6->Y1
open Go.Proofs.Lays renaming n190->Y2, n194->Y3
open Go.Proofs.Tryz
noncomputable section
open Go.Ev
namespace Go.Ev
variable {A al : List Nat}{E : Env}{F : FuncId->List AV->St->Option (AV× St)}{G : FuncId->Bool}{H : Array Obj}{K : FuncId->AV->St->Nat->Bool}{P : Program}{S S0 : Self}{a : Act}{b clock e g i k m n n0 o r z : Nat}{c : Option Nat}{c2 : Code}{cs l l' xs : List AV}{els : List (List AV)}{f : FuncId}{ix x : Operand}{ks : List Frame}{ms : List MapEntry}{p : AV->St->Nat->Bool}{q : Nat->Bool}{s y : ah}{s1 st st' st1 : St}{ss : List ah}{t t1 : Tr AV}{ty : TypeId}{u : Value}{us : List Value}{v v' : AV}{w : World}
def vE(q:Nat->Bool):Nat->Tr (List Nat)->Tr (List Nat)
 |0,t=>t
 |k+1,t=>match q k with|true=>(vE q k t).set k none|false=>vE q k t
theorem BJ(q:Nat->Bool)(g:Nat):∀ (k:Nat) (t:Tr (List Nat)),(vE q k t).get g=if g<k/\q g=true then none else t.get g
 |0,t=>by rfl
 |k+1,t=>by
  unfold vE;cases hk:q k with
  |true =>rw[Tr.eh,BJ q g k t];grind
  |false =>rw[BJ q g k t];grind
def St.lP(st:St)(q:Nat->Bool):St:=⟨st.rows,vE q st.next st.live,st.next⟩
def St.shut(st:St)(n:Nat):St:=st.lP (Q0 n)
theorem aaR(st:St)(n r:Nat):(st.shut n).get r=st.get r:=rfl
theorem Qz(st:St)(q:Nat->Bool)(r:Nat):(st.lP q).get r=st.get r:=rfl
theorem DQ(h:(st.lP q).live.get g=some al):st.live.get g=some al:=by have:(vE q st.next st.live).get g=some al:=h;rw[BJ]at this;grind
theorem Of(h:q g=false):(st.lP q).live.get g=st.live.get g:=by
 show(vE q st.next st.live).get g=_
 rw[BJ,if_neg (fun hh=>by grind)]
theorem To(h:g<n):Q0 n g=false:=by simp_all[Z5]
theorem NV(h:g<n):(st.shut n).live.get g=st.live.get g:=Of (To h)
theorem RP(hr:Rel E H st)(h:q g=true):(st.lP q).live.get g=none:=by
 show(vE q st.next st.live).get g=_
 rw[BJ];split
 ·rfl
 ·exact hr.freshG g (by grind)
theorem Aw{w:Row}(h:(st.lP q).alive r=some w):st.alive r=some w:=by grind[St.alive,Qz,DQ]
def u9(E:Env)(st:St)(q:Nat->Bool)(b:Nat):Prop:=∃ r l g B,st.alive r=some (.ce l g)/\q g=true/\E.phi r=some B/\B.b=b
open Classical in
def sd(E:Env)(H:Array Obj)(st:St)(q:Nat->Bool):Env:=⟨fun b=>if u9 E st q b then H[b]? else E.imm b,E.phi,E.top⟩
theorem Us(h:Rel E H st)(hb:u9 E st q b):E.imm b=none:=by obtain⟨r,l,g,B,ha,-,hB,rfl⟩:=hb;exact h.own _ _ _ ha hB
open Classical in
theorem MP(h:Rel E H st):E.le (sd E H st q):=by
 refine⟨fun b o hb=>?_,fun _ _ h=>h⟩;show(if u9 E st q b then H[b]? else E.imm b)=some o
 grind[Us]
open Classical in
theorem Nb(_:Rel E H st)(hi:E.imm b=none)(hf:¬ u9 E st q b):(sd E H st q).imm b=none:=by
 show(if u9 E st q b then H[b]? else E.imm b)=none
 grind
open Classical in
theorem Step.qo(h:Rel E H st)(q:Nat->Bool):Step E (sd E H st q) H H st (st.lP q):=by
 have hle:=MP (q:=q) h;refine⟨hle,fun b _ ho hi=>Nb h hi fun hf=>?_,rfl,⟨fun b o hb=>?_,h.fresh,h.freshRow,fun g hg=>?_,fun g al x hg hx=>h.liveLt g al x (DQ hg) hx,fun r row hr=>?_,fun r row B hr hB=>?_,
  fun r r' row row' B B' hr hr' hB hB' hb=>h.sep r r' row row' B B' (Aw hr) (Aw hr') hB hB' hb,fun g al hg=>?_,fun r t r0 x hx=>(h.tys r t r0 x hx).mono hle (fI.refl H)⟩,Q1 _,fun _ _ _=>rfl,?_⟩
 ·obtain⟨r,l,g,B,ha,-,hB,rfl⟩:=hf;exact ho ⟨r,_,B,ha,hB,rfl⟩
 ·have hb:(if u9 E st q b then H[b]? else E.imm b)=some o:=hb;by_cases hf:u9 E st q b
  ·grind
  ·rw[if_neg hf]at hb;exact h.imm b o hb
 ·cases hq:(st.lP q).live.get g with
  |none=>rfl
  |some al=>have:=DQ hq;rw[h.freshG g hg]at this;grind
 ·obtain⟨B,hB,hR⟩:=h.rows r row (Aw hr);exact⟨B,hB,hR.mono hle rfl⟩
 ·have hr':=Aw hr;refine Nb h (h.own r row B hr' hB) ?_;rintro⟨x,l,g,C,hx,hg,hC,hb⟩;have key:∀ l',row=.ce l' g->False:=by
   grind[St.alive,RP]
  rcases h.sep x r _ row C B hx hr' hC hB hb with rfl|⟨g',l1,l2,h1,h2⟩
  ·rw[hx]at hr';exact key l (Y0 hr').symm
  ·cases h1;exact key _ h2
 ·exact(h.ends g al (DQ hg)).imp fun hxy=>hxy
 ·rintro b ⟨r,row,B,hr,hB,rfl⟩;exact .inr ⟨r,row,B,Aw hr,hB,rfl⟩
def rW(q:Nat->Bool)(st:St)(r:Nat):Option (List AV):=
 match st.ce r with
 |some (l,g,_)=>if q g=true then some l else none
 |none=>none
def gG(q:Nat->Bool):Nat->St->AV->Option AV
 |0,_,_=>none
 |d+1,st,v=>if bg v=true then some v else match v with
  |.p r o=>match rW q st r with
   |some l=>match ej (gG q d st) (l.drop o) with
    |some c=>some (.rp c)
    |none=>none
   |none=>some (.p r o)
  |.sl r o m z c=>if m=0 then some (.rs [] 0 z) else match rW q st r with
   |some l=>match ej (gG q d st) ((l.drop o).take (m*z)) with
    |some c=>some (.rs c m z)
    |none=>none
   |none=>some (.sl r o m z c)
  |.ag l=>match ej (gG q d st) l with
   |some l'=>some (.ag l')
   |none=>none
  |.tu l=>match ej (gG q d st) l with
   |some l'=>some (.tu l')
   |none=>none
  |v=>some v
theorem PV(h:rW q st r=some l):∃ g al,st.ce r=some (l,g,al)/\q g=true:=by grind[rW]
theorem NR(h:st.ce r=some (l,g,al))(hg:q g=true):rW q st r=some l:=by unfold rW;grind
theorem PN(hr:Rel E H st)(hc:st.ce r=some (l,g,al))(hg:q g=true){B:fy}(hB:E.phi r=some B):
  ∃ vs:List Value,aP E l vs/\∀ (j:Nat) (v:Value),vs[j]? = some v->(sd E H st q).cell B.b (j+B.d)=some v:=by
 obtain⟨ha,-,-,-⟩:=St.pR hc;obtain⟨B',hB',cs,t,fz,h1,h2,h3,h4,h5⟩:=hr.rows _ _ ha;refine⟨_,h5,fun j v hj=>?_⟩;have hf:u9 E st q B.b:=⟨r,l,g,B,ha,hg,hB,rfl⟩;simp_all[sd,Env.cell,V7,Nat.add_comm]
theorem BY(hr:Rel E H st):∀ (d:Nat) (v:AV) (u:Value) (v':AV),Conc E v u->gG q d st v=some v'->Conc (sd E H st q) v' u:=by
 have hle:=MP (q:=q) hr;intro d;induction d with
 |zero=>intro v u v' _ h;cases h
 |succ d ih =>
  intro v u v' hc h;unfold gG at h;by_cases hp:bg v=true
  ·rw[if_pos hp]at h;cases h;exact hc.mono hle
  ·rw[if_neg hp]at h;cases v<;>simp at h<;>first|(cases h;exact hc.mono hle)|skip
   case p r o =>
    cases hl:rW q st r with
    |none=>rw[hl]at h;cases h;exact hc.mono hle
    |some l =>
     rw[hl]at h;simp only at h;cases hk:ej (gG q d st) (l.drop o) with
     |none=>grind
     |some c =>
      rw[hk]at h;cases h;obtain⟨g,al,hce,hg⟩:=PV hl;cases hc with
      |p _ _ B hB =>
      obtain⟨vs,k1,k2⟩:=PN hr hce hg hB;refine .rp c B.b (o+B.d) (vs.drop o) (fun j v hv=>?_) (rD ih (k1.drop o) hk);grind
   case sl r o m z c =>
    by_cases hn:m=0
    ·subst hn;cases h;cases hc with
     |slk _ _ _ _ c a _ _=>exact .rs0 _ _ _ _
     |slu _ _ _ _ c a _ _=>exact .rs0 _ _ _ _
    ·rw[if_neg hn]at h;cases hl:rW q st r with
     |none=>rw[hl]at h;cases h;exact hc.mono hle
     |some l =>
      cases hk:ej (gG q d st) ((l.drop o).take (m*z)) with
      |none=>grind
      |some c' =>
       obtain⟨g,al,hce,hg⟩:=PV hl;have key:∀ (B:fy),E.phi r=some B->∀ k,m<=k->Conc (sd E H st q) (.rs c' m z) (.slice (some ⟨B.b,o+B.d,none⟩) m k):=by intro B hB k hnk;obtain⟨vs,k1,k2⟩:=PN hr hce hg hB;refine .rs c' m z k B.b (o+B.d) ((vs.drop o).take (m*z)) hnk (fun j v hv=>?_) (rD ih ((k1.drop o).take (m*z)) hk);grind
       cases hc with
       |slk _ _ _ _ q a hnq hB =>grind
       |slu _ _ _ _ q a hnq hB =>grind
   case ag l =>
    cases hk:ej (gG q d st) l with
    |none=>grind
    |some c =>
     rw[hk]at h;cases h;cases hc with
     |ag _ vs e=>exact .ag _ _ (rD ih e hk)
   case tu l =>
    cases hk:ej (gG q d st) l with
    |none=>grind
    |some c =>
     rw[hk]at h;cases h;cases hc with
     |tu _ vs e=>exact .tu _ _ (rD ih e hk)
theorem xO:∀ (d d':Nat),d<=d'->∀ (v v':AV),gG q d st v=some v'->gG q d' st v=some v':=by
 intro d;induction d with
 |zero=>intro d' _ v v' h;cases h
 |succ d ih =>
  intro d' hd v v' h;obtain⟨d',rfl⟩:∃ e,d'=e+1:=⟨d'-1,by omega⟩;have ih':=ih d' (by omega);unfold gG at h|-;by_cases hp:bg v=true
  ·grind
  ·rw[if_neg hp]at h|-;cases v<;>simp at h|-<;>first|(exact h)|skip
   case p r o =>
    cases hl:rW q st r with
    |none=>rw[hl]at h;exact h
    |some l =>
     rw[hl]at h;simp only at h|-;cases hk:ej (gG q d st) (l.drop o) with
     |none=>rw[hk]at h;cases h
     |some c=>rw[hk]at h;rw[mA ih' hk];exact h
   case sl r o m z c =>
    by_cases hn:m=0
    ·rw[if_pos hn]at h|-;exact h
    ·rw[if_neg hn]at h|-;cases hl:rW q st r with
     |none=>rw[hl]at h;exact h
     |some l =>
      rw[hl]at h;simp only at h|-;cases hk:ej (gG q d st) ((l.drop o).take (m*z)) with
      |none=>rw[hk]at h;cases h
      |some c=>rw[hk]at h;rw[mA ih' hk];exact h
   case ag l =>
    cases hk:ej (gG q d st) l with
    |none=>rw[hk]at h;cases h
    |some c=>rw[hk]at h;rw[mA ih' hk];exact h
   case tu l =>
    cases hk:ej (gG q d st) l with
    |none=>rw[hk]at h;cases h
    |some c=>rw[hk]at h;rw[mA ih' hk];exact h
def ei(q:Nat->Bool)(st:St)(v v':AV):Prop:=∃ d,gG q d st v=some v'
def ji(q:Nat->Bool)(st:St)(l l':List AV):Prop:=∃ d,ej (gG q d st) l=some l'
theorem ei.uniq{a b:AV}(h:ei q st v a)(k:ei q st v b):a=b:=by obtain⟨d,h⟩:=h;obtain⟨e,k⟩:=k;have h':=xO d (max d e) (by omega) _ _ h;have k':=xO e (max d e) (by omega) _ _ k;grind
theorem ei.pure(h:bg v=true):ei q st v v:=⟨1,by unfold gG;grind⟩
theorem ei.map(r:Nat):ei q st (.m r) (.m r):=⟨1,by grind[gG]⟩
theorem ji.nil:ji q st [] []:=⟨0,rfl⟩
theorem ji.cons(h:ei q st v v')(k:ji q st l l'):ji q st (v::l) (v'::l'):=by obtain⟨d,h⟩:=h;obtain⟨e,k⟩:=k;refine⟨max d e,?_⟩;simp[ej];rw[xO d (max d e) (by omega) _ _ h,mA (xO e (max d e) (by omega)) k]
theorem ji.pure:∀ {l:List AV},aQ l=true->ji q st l l
 |[],_=>.nil
 |v::l,h=>by simp[aQ]at h;exact .cons (.pure h.1) (.pure h.2)
theorem ji.same(hp:aQ l=true)(h:ji q st l l'):l'=l:=by obtain⟨d,h⟩:=h;obtain⟨e,k⟩:=ji.pure (q:=q) (st:=st) hp;have h':=mA (xO d (max d e) (by omega)) h;have k':=mA (xO e (max d e) (by omega)) k;grind
theorem ei.ag(h:ji q st l l'):ei q st (.ag l) (.ag l'):=by
 obtain⟨d,h⟩:=h;refine⟨d+1,?_⟩;unfold gG;by_cases hp:bg (.ag l)=true
 ·rw[if_pos hp,ji.same (by simpa[bg]using hp) ⟨d,h⟩]
 grind
theorem ei.tu(h:ji q st l l'):ei q st (.tu l) (.tu l'):=by
 obtain⟨d,h⟩:=h;refine⟨d+1,?_⟩;unfold gG;by_cases hp:bg (.tu l)=true
 ·rw[if_pos hp,ji.same (by simpa[bg]using hp) ⟨d,h⟩]
 grind
theorem ei.ptr(hc:st.ce r=some (l,g,al))(hg:q g=true)(h:ji q st l l'):ei q st (.p r 0) (.rp l'):=by obtain⟨d,h⟩:=h;refine⟨d+1,?_⟩;unfold gG;rw[if_neg (by simp[bg])];simp[NR hc hg,h]
theorem ei.slice(hc:st.ce r=some (l,g,al))(hl:m*z=l.length)(hg:q g=true)(h:ji q st l l')(hn:m≠0):ei q st (.sl r 0 m z c) (.rs l' m z):=by obtain⟨d,h⟩:=h;refine⟨d+1,?_⟩;unfold gG;rw[if_neg (by simp[bg])];simp[if_neg hn,NR hc hg,hl,h]
theorem ei.tP:ei q st (.sl r o 0 z c) (.rs [] 0 z):=⟨1,by grind[gG,bg]⟩
abbrev Fz(n:Nat)(st:St)(v v':AV):Prop:=ei (Q0 n) st v v'
abbrev fB(n:Nat)(st:St)(l l':List AV):Prop:=ji (Q0 n) st l l'
theorem Fz.ptr{n:Nat}{st:St}{l l':List AV}{r g:Nat}{al:List Nat}(hc:st.ce r=some (l,g,al))(hg:n<=g)(h:fB n st l l'):Fz n st (.p r 0) (.rp l'):=ei.ptr hc (Q8 hg) h
theorem Fz.slice{n:Nat}{st:St}{l l':List AV}{r g m z:Nat}{c:Option Nat}{al:List Nat}(hc:st.ce r=some (l,g,al))(hl:m*z=l.length)(hg:n<=g)(h:fB n st l l')(hn:m≠0):Fz n st (.sl r 0 m z c) (.rs l' m z):=ei.slice hc hl (Q8 hg) h hn
theorem Fz.pure{n:Nat}{st:St}{v:AV}(h:bg v=true):Fz n st v v:=ei.pure h
theorem Fz.map{n:Nat}{st:St}(r:Nat):Fz n st (.m r) (.m r):=ei.map r
theorem Fz.ag{n:Nat}{st:St}{l l':List AV}(h:fB n st l l'):Fz n st (.ag l) (.ag l'):=ei.ag h
theorem Fz.tu{n:Nat}{st:St}{l l':List AV}(h:fB n st l l'):Fz n st (.tu l) (.tu l'):=ei.tu h
theorem Fz.tP{n:Nat}{st:St}{r o z:Nat}{c:Option Nat}:Fz n st (.sl r o 0 z c) (.rs [] 0 z):=ei.tP
theorem fB.nil{n:Nat}{st:St}:fB n st [] []:=ji.nil
theorem fB.cons{n:Nat}{st:St}{v v':AV}{l l':List AV}(h:Fz n st v v')(k:fB n st l l'):fB n st (v::l) (v'::l'):=ji.cons h k
theorem fB.same{n:Nat}{st:St}{l l':List AV}(hp:aQ l=true)(h:fB n st l l'):l'=l:=ji.same hp h
theorem fB.pure{n:Nat}{st:St}{l:List AV}(h:aQ l=true):fB n st l l:=ji.pure h
open Classical in
def xZ(p:AV->St->Nat->Bool):aR->aR
 |some (v,st)=>if h:∃ v',ei (p v st) st v v' then some (h.choose,st.lP (p v st)) else some (v,st)
 |none=>none
def mO(K:FuncId->AV->St->Nat->Bool)(f:FuncId)(n:Nat)(v:AV)(st:St)(g:Nat):Bool:=Q0 n g&&K f v st g
def qo(G:FuncId->Bool)(K:FuncId->AV->St->Nat->Bool)(S:Self):Self:=⟨fun f xs st=>if G f=true then xZ (mO K f st.next) (S.call f xs st) else S.call f xs st,S.code,S.dcall⟩
open Classical in
theorem LW(h:ei (p v st) st v v'):xZ p (some (v,st))=some (v',st.lP (p v st)):=by
 have hh:∃ v',ei (p v st) st v v':=⟨v',h⟩;show(if h:∃ v',ei (p v st) st v v' then some (h.choose,st.lP (p v st)) else some (v,st))=_
 rw[dif_pos hh,hh.choose_spec.uniq h]
open Classical in
theorem Nc{r:aR}(h:xZ p r=some (v,st)):∃ v1 st1,r=some (v1,st1)/\((∃ q,ei q st1 v1 v/\st=st1.lP q)\/(v1=v/\st1=st)):=by
 cases r with
 |none=>cases h
 |some x =>
  obtain⟨v1,st1⟩:=x;by_cases hh:∃ v',ei (p v1 st1) st1 v1 v'
  ·obtain⟨v',hv⟩:=hh;rw[LW hv]at h;grind
  ·have:(if h:∃ v',ei (p v1 st1) st1 v1 v' then some (h.choose,st1.lP (p v1 st1)) else some (v1,st1))=some (v,st):=h;grind
theorem Lz(hG:G f=true)(hc:S.call f xs st=some (v,s1))(hv:ei (mO K f st.next v s1) s1 v v'):(qo G K S).call f xs st=some (v',s1.lP (mO K f st.next v s1)):=by
 show(if G f=true then xZ (mO K f st.next) (S.call f xs st) else S.call f xs st)=_
 rw[if_pos hG,hc,LW hv]
theorem abl(hG:G f=true)(hK:∀ v s g,K f v s g=true)(hc:S.call f xs st=some (v,s1))(hv:Fz st.next s1 v v'):(qo G K S).call f xs st=some (v',s1.shut st.next):=by
 have e:mO K f st.next v s1=Q0 st.next:=by grind[mO]
 have:=Lz hG hc (by rw[e];omega);rw[e]at this;exact this
theorem CJ(hG:G f=false):(qo G K S).call f xs st=S.call f xs st:=by
 show(if G f=true then xZ (mO K f st.next) (S.call f xs st) else S.call f xs st)=_
 grind
theorem VI(S:Self)(hS:cq P S):cq P (qo G K S):=by
 refine⟨hS.ng,hS.mixed,⟨fun f xs st=>?_,hS.up.code,hS.up.dcall⟩,fun {ks E w st st' f xs us v} hr hc h hn=>?_,fun {ks E w st nt c t a b} k hb hr ht hm hl=>hS.code k hb hr ht hm hl,hS.dcall⟩
 ·unfold qo;simp only;split
  ·intro v s h;obtain⟨v1,s1,h1,h2⟩:=Nc h;have:=hS.up.call f xs st _ _ h1;rcases h2 with ⟨q,-,rfl⟩|⟨-,rfl⟩<;>exact this
  ·exact hS.up.call f xs st
 ·have h:(if G f=true then xZ (mO K f st.next) (S.call f xs st) else S.call f xs st)=some (v,st'):=h;split at h
  case isFalse=>exact hS.call hr hc h hn
  obtain⟨v1,s1,h1,h2⟩:=Nc h;rcases h2 with ⟨q,⟨d,hd⟩,rfl⟩|⟨rfl,rfl⟩
  ·obtain⟨E',w',cv,k1,k2,k3⟩:=hS.call hr hc h1 hn;have s:=Step.qo k2.rel q;exact⟨_,w',cv,k1,⟨k2.toStep.trans s,k2.os,k2.out⟩,BY k2.rel d _ _ _ k3 hd⟩
  ·exact hS.call hr hc h1 hn
theorem Kp.shut{A B:List Nat}{st st':St}(k:Kp A B st st'){n:Nat}(h:st.next<=n):Kp A B st (st'.shut n):=
 ⟨k.next,fun r h1 h2=>k.get r h1 h2,fun g h1 h2=>by rw[NV (Z6 h1 h)];exact k.live g h1 h2⟩
theorem Ly(hr:Rel E H st)(top:Nat):Rel ⟨E.imm,fun _=>none,top⟩ H aK:=by
 refine⟨hr.imm,fun _ _ _=>rfl,fun r _=>qz r,fun g _=>Tr.uy g,fun g al x h=>?_,fun r row h=>?_,fun r row B h=>?_,fun r r' row row' B B' h=>?_,fun g al h=>?_,fun r t r0 x h=>?_⟩
 ·rw[show aK.live.get g=none from Tr.uy g]at h;grind
 ·have:=Rel.pc h;rw[qz]at this;grind
 ·grind
 ·grind
 ·rw[show aK.live.get g=none from Tr.uy g]at h;grind
 ·rw[qz]at h;grind
open Classical in
def xn(S0 S:Self)(f:FuncId)(xs:List AV)(st:St):aR :=
 match S0.call f xs aK with
 |some (v,s1)=>if h:∃ v',Fz 0 s1 v v'/\bg v'=true/\aQ xs=true then some (h.choose,st) else S.call f xs st
 |none=>S.call f xs st
def yA(G:FuncId->Bool)(S0 S:Self):Self:=⟨fun f xs st=>if G f=true then xn S0 S f xs st else S.call f xs st,S.code,S.dcall⟩
theorem Ob(hG:G f=true)(hx:aQ xs=true)(hc:S0.call f xs aK=some (v,s1))(hf:Fz 0 s1 v v')(hv:bg v'=true):(yA G S0 S).call f xs st=some (v',st):=by
 show(if G f=true then xn S0 S f xs st else S.call f xs st)=_
 rw[if_pos hG];unfold xn;have hh:∃ v',Fz 0 s1 v v'/\bg v'=true/\aQ xs=true:=⟨v',hf,hv,hx⟩;simp[hc];rw[dif_pos hh,hh.choose_spec.1.uniq hf]
theorem oH(hG:G f=false):(yA G S0 S).call f xs st=S.call f xs st:=by
 show(if G f=true then xn S0 S f xs st else S.call f xs st)=_
 grind
theorem Qq(S0 S:Self)(hS0:cq P S0)(hS:cq P S):cq P (yA G S0 S):=by
 refine⟨hS.ng,hS.mixed,⟨fun f xs st=>?_,hS.up.code,hS.up.dcall⟩,fun {ks E w st st' f xs us v} hr hc h hn=>?_,fun {ks E w st nt c t a b} k hb hr ht hm hl=>hS.code k hb hr ht hm hl,hS.dcall⟩
 ·unfold yA;simp only;split
  ·unfold xn;split
   ·split
    ·exact gR
    ·exact hS.up.call f xs st
   ·exact hS.up.call f xs st
  ·exact hS.up.call f xs st
 ·have h:(if G f=true then xn S0 S f xs st else S.call f xs st)=some (v,st'):=h;split at h
  case isFalse=>exact hS.call hr hc h hn
  unfold xn at h;cases hv:S0.call f xs aK with
  |none=>rw[hv]at h;exact hS.call hr hc h hn
  |some p =>
   obtain⟨v1,s1⟩:=p;rw[hv]at h;simp only at h;split at h
   case isFalse=>exact hS.call hr hc h hn
   rename_i hh;obtain⟨⟨d,hd⟩,hp,hx⟩:=hh.choose_spec;cases h;have hr0:=Ly hr s1.next;have hc0:aP ⟨E.imm,fun _=>none,s1.next⟩ xs us:=ub (E:=E) (F:=⟨E.imm,fun _=>none,s1.next⟩) (fun _ _ h=>h) hc hx;obtain⟨E',w',cv,k1,k2,k3⟩:=hS0.call hr0 hc0 hv (Q1 _);have s:=k2.toStep.trans (Step.qo k2.rel (Q0 0));have hcv:=BY k2.rel d _ _ _ k3 hd;generalize sd E' w'.heap s1 (Q0 0)=F at *;have no:∀ b,¬ mw ⟨E.imm,fun _=>none,s1.next⟩ aK b:=by rintro b ⟨r,row,B,ha,_,_⟩;grind
   have keep:∀ b,b<w.heap.size->w'.heap[b]? = w.heap[b]?:=fun b hb=>k2.fr.keep b hb (no b)
   have hle:E.le ⟨F.imm,E.phi,E.top⟩:=⟨fun b o hb=>s.le.imm b o hb,fun _ _ h=>h⟩;refine⟨⟨F.imm,E.phi,E.top⟩,w',cv,k1,⟨⟨hle,fun b hb _ hi=>s.imm b hb (no b) hi,rfl,⟨s.rel.imm,hr.fresh,hr.freshRow,hr.freshG,hr.liveLt,fun r row h=>?_,fun r row B h hB=>?_,hr.sep,hr.ends,fun r t r0 x h=>(hr.tys r t r0 x h).mono hle (fI.H5 keep)⟩,
    k2.fr.size,fun b hb _=>keep b hb,fun _ h=>.inr h⟩,k2.os,k2.out⟩,Bs (E:=F) (F:=⟨F.imm,E.phi,E.top⟩) (fun _ _ h=>h) hcv hp⟩
   ·obtain⟨B,hB,hR⟩:=hr.rows r row h;exact⟨B,hB,hR.mono hle (keep _ hR.lt)⟩
   ·obtain⟨B',hB',hR⟩:=hr.rows r row h;rw[hB]at hB';cases hB';exact s.imm B.b hR.lt (no _) (hr.own r row B h hB)
theorem acM(x y:List Nat):ju (.s x) (.s y)=some (decide (x=y)):=by show some (leq x y)=_;rw[wh]
def strKeys:List (AV× AV× Nat)->Prop
 |[]=>True
 |(k,_,_)::l=>(∃ s,k=.s s)/\strKeys l
def look:List (AV× AV× Nat)->ah->Option AV
 |[],_=>none
 |(k,v,_)::l,s=>if fD k=s then some v else look l s
def cS(st:St)(r:Nat)(f:ah->Option AV):Prop:=∃ es c,st.get r=some (.mp es c)/\strKeys es/\∀ s,look es s=f s
def upd(f:ah->Option AV)(s:ah)(v:AV):ah->Option AV:=fun x=>if x=s then some v else f x
theorem xw:∀ {es:List (AV× AV× Nat)}{n:Nat},strKeys es->∀ s:ah,(find (.s s) es n=some none/\look es s=none)\/∃ i v,find (.s s) es n=some (some (n+i,v))/\look es s=some v/\
   ∀ u,strKeys (mf es i u)/\∀ x,look (mf es i u) x=if x=s then some u else look es x
 |[],n,_,s=>.inl ⟨rfl,rfl⟩
 |(k,v,c)::es,n,h,s=>by
  obtain⟨⟨y,rfl⟩,h⟩:=h;have fe:find (.s s) ((.s y,v,c)::es) n=match some (decide (s=y)) with|some true=>some (some (n,v))|some false=>find (.s s) es (n+1)|none=>none:=by simp[find,acM];rfl
  have le:∀ x,look ((.s y,v,c)::es) x=if y=x then some v else look es x:=fun x=>rfl
  by_cases e:s=y
  ·right;subst e;refine⟨0,v,?_,by grind,fun u=>⟨⟨⟨_,rfl⟩,h⟩,fun x=>?_⟩⟩
   ·grind
   ·show(if s=x then some u else look es x)=_
    grind
  ·rw[fe,decide_eq_false e,le,if_neg (fun h=>e h.symm)];rcases xw (n:=n+1) h s with ⟨h1,h2⟩|⟨i,w,h1,h2,h3⟩
   ·grind
   ·refine .inr ⟨i+1,w,by grind,h2,fun u=>⟨⟨⟨_,rfl⟩,(h3 u).1⟩,fun x=>?_⟩⟩;show(if y=x then some v else look (mf es i u) x)=_
    grind
theorem CC:∀ {es:List (AV× AV× Nat)}{s:ah}{v:AV}{c:Nat},strKeys es->strKeys (es++[(.s s,v,c)])
 |[],s,v,c,_=>⟨⟨s,rfl⟩,trivial⟩
 |(k,v,c)::_,s,w,d,h=>⟨h.1,CC h.2⟩
theorem HK:∀ {es:List (AV× AV× Nat)}{s:ah}{v:AV}{c:Nat},look es s=none->∀ x,look (es++[(.s s,v,c)]) x=if x=s then some v else look es x
 |[],s,v,c,_,x=>by
  show(if s=x then some v else none)=_
  by_cases h:x=s
  ·grind
  ·rw[if_neg (fun e=>h e.symm),if_neg h];rfl
 |(k,w,d)::es,s,v,c,h,x=>by
  have h':(if fD k=s then some w else look es s)=none:=h;split at h'
  ·grind
  show(if fD k=x then some w else look (es++[(.s s,v,c)]) x)=if x=s then some v else(if fD k=x then some w else look es x)
  rw[HK h' x];grind
variable {f : ah->Option AV}
theorem cS.keep{B:List Nat}(h:cS st r f)(k:Kp A B st st')(h1:r<st.next)(h2:r∉A):cS st' r f:=by obtain⟨es,c,h,h3⟩:=h;exact⟨es,c,by rw[k.get _ h1 h2];grind,h3⟩
theorem cS.new(st:St):cS (st.new (.mp [] 0)) st.next (fun _=>none):=by refine⟨[],0,?_,trivial,fun _=>rfl⟩;grind[St.get,St.new,Tr.eh]
theorem Kp.new(A B:List Nat)(w:Row):Kp A B st (st.new w):=⟨Z7 _,fun r h _=>by grind[St.get,St.new,Tr.eh],fun g h _=>rfl⟩
@[simp] theorem adq{ok:Bool}:bH (.lookup ty x ix ok) P S t st=dC st (lookup P ty st (ai t x) (ai t ix) ok):=rfl
@[simp] theorem ac3{m k:Operand}:bH (.mapUpdate ty m k x) P S t st=done (mapUpdate P ty st (ai t m) (ai t k) (ai t x)):=rfl
@[simp] theorem aeJ:bH (.makeMap ty none) P S t st=some (.m st.next,st.new (.mp [] 0)):=rfl
structure rz(P:Program)(ty e:TypeId)(z:AV):Prop where
 und:∃ k,P.underlying ty=some (.map k e)/\P.underlying k=some .string
 zero:zeroOf P e=some z
theorem rz.fits{e:TypeId}{z:AV}(h:rz P ty e z)(s:ah):kV P ty (.s s)=true:=by obtain⟨k,h1,h2⟩:=h.und;unfold kV;grind
theorem cS.get{e:TypeId}{z:AV}(T:rz P ty e z)(h:cS st r f)(s:ah):lookup P ty st (.m r) (.s s) false=some ((f s).getD z):=by
 obtain⟨k,h1,h2⟩:=T.und;obtain⟨es,c,h3,h4,h5⟩:=h;unfold lookup;simp[h1,T.zero,T.fits s,h3];rw[<-h5 s];rcases xw h4 s with ⟨h6,h7⟩|⟨i,v,h6,h7,-⟩
 ·rw[h6,h7];rfl
 ·rw[h6,h7];rfl
theorem cS.uu{e:TypeId}{z:AV}(T:rz P ty e z)(h:cS st r f)(s:ah):lookup P ty st (.m r) (.s s) true=some (.tu [(f s).getD z,.b (f s).isSome]):=by
 obtain⟨k,h1,h2⟩:=T.und;obtain⟨es,c,h3,h4,h5⟩:=h;unfold lookup;simp[h1,T.zero,T.fits s,h3];rw[<-h5 s];rcases xw h4 s with ⟨h6,h7⟩|⟨i,v,h6,h7,-⟩
 ·rw[h6,h7];rfl
 ·rw[h6,h7];rfl
theorem TZ{e:TypeId}{z:AV}(T:rz P ty e z)(s:ah):lookup P ty st .mn (.s s) true=some (.tu [z,.b false]):=by obtain⟨k,h1,h2⟩:=T.und;unfold lookup;simp only[h1,T.zero,T.fits s];rfl
theorem cS.set{e:TypeId}{z:AV}(T:rz P ty e z)(h:cS st r f)(s:ah)(v:AV):∃ st',mapUpdate P ty st (.m r) (.s s) v=some st'/\cS st' r (upd f s v)/\Kp [r] [] st st'/\st'.next=st.next:=by
 obtain⟨es,c,h3,h4,h5⟩:=h;unfold mapUpdate;simp[T.fits s,h3];rcases xw h4 s with ⟨h6,h7⟩|⟨i,w,h6,h7,h8⟩
 ·rw[h6];refine⟨_,rfl,⟨_,_,uT _ _,CC h4,fun x=>?_⟩,.put (by simp),rfl⟩;rw[HK h7];unfold upd;grind
 ·rw[h6,Nat.zero_add];refine⟨_,rfl,⟨_,_,uT _ _,(h8 v).1,fun x=>?_⟩,.put (by simp),rfl⟩;unfold upd;grind
@[simp] theorem HG(f:ah->Option AV)(s:ah)(v:AV):upd f s v s=some v:=if_pos rfl
theorem abb(f:ah->Option AV){x:ah}(v:AV)(h:x≠s):upd f s v x=f x:=if_neg h
theorem ab3(h:P.underlying ty=some .string)(l:ah):ft P st [ty] [.s l]=some (.i .i64 (l.length:Int),st):=by
 show sg P st [ty] (.s l)=_
 unfold sg;simp[h];rfl
@[simp] theorem aea:bH (.index ty x ix) P S t st=dC st (index P ty (ai t x) (ai t ix)):=rfl
theorem VF(h:isStr P ty=true){l:ah}(hk:k<l.length):index P ty (.s l) (.i .i64 (k:Int))=some (.i .u8 (l[k]:Int)):=by
 show @Bool.rec (fun _=>Option AV) none (CI k l) (isStr P ty)=_
 rw[h];grind[CI,V8]
theorem cM{c:Bool}{x:ah}:Go.Ev.binOp P ty c .eql (.s x) (.s y)=some (.b (decide (x=y))):=by rw[aau,wh]
theorem jJ{c:Bool}{x:ah}:Go.Ev.binOp P ty c .neq (.s x) (.s y)=some (.b (!decide (x=y))):=by
 show some (AV.b !(leq x y))=_
 rw[wh]
theorem TE{c:Bool}{x:ah}:Go.Ev.binOp P ty c .lss (.s x) (.s y)=some (.b (fX x y)):=rfl
theorem pe{c:Bool}{x:ah}:Go.Ev.binOp P ty c .gtr (.s x) (.s y)=some (.b !(fX x y||leq x y)):=rfl
def tW(o:Option (AV× St))(v:AV):Prop:=∃ s,o=some (v,s)
@[simp] theorem adZ{s:St}:tW (some (v,s)) v:=⟨s,rfl⟩
def Any(_:St):Prop:=True
theorem any:Any st:=trivial
@[simp] theorem afq(t:Tr AV)(bs:ByteArray):ai t (.const (.string bs))=.s (bs.data.toList.map UInt8.toNat):=rfl
structure jv(P:Program)(ty e z:Nat):Prop where
 und:P.underlying ty=some (.slice e)
 inf:bp P e=true
 sz:aD P e=z
theorem de.ft{ty e:Nat}{v:AV}{l:List AV}(T:jv P ty e 1)(h:de v l):ft P st [ty] [v]=some (.i .i64 (l.length:Int),st):=aY T.und h.len h.text
theorem de.sat{ty:Nat}{l:List ah}(T:jv P ty e 1)(ha:et P e=false)(h:de v (l.map .s))(hk:k<l.length):∃ a,indexAddr P ty v (.i .i64 (k:Int))=some a/\∀ st,loadAt P e st a=some (.s l[k]):=by
 rcases h with ⟨rfl,h⟩|rfl
 ·have:l=[]:=by simp_all
  grind
 ·refine⟨_,dV T.und T.inf T.sz _ _ _ (by grind),fun st=>?_⟩;rw[Nat.mul_one,wN T.inf ha,V8 (by grind)];simp
theorem de.sLen{ty:Nat}{l:List ah}(T:jv P ty e 1)(h:de v (l.map .s)):Go.Ev.ft P st [ty] [v]=some (.i .i64 (l.length:Int),st):=by have:=de.ft (st:=st) T h;grind
def uz(v:AV)(z:Nat)(els:List (List AV)):Prop:=((v=.sn/\els=[])\/v=.rs els.flatten els.length z)/\∀ x∈els,x.length=z
theorem Ka{z:Nat}:∀ {els:List (List AV)}(_:∀ x∈els,x.length=z){k:Nat}(hk:k<els.length),∃ r,els.flatten.drop (k*z)=els[k]++r
 |x::els,h,0,_=>⟨els.flatten,by simp⟩
 |x::els,h,k+1,hk=>by obtain⟨r,hr⟩:=Ka (fun y hy=>h y (Z8 _ hy)) (k:=k) (by grind);simp_all[List.drop_append,List.drop_eq_nil_of_le,Nat.add_mul]
theorem uz.at{ty:Nat}(T:jv P ty e z)(h:uz v z els)(hk:k<els.length):∃ r,indexAddr P ty v (.i .i64 (k:Int))=some (.rp (els[k]++r)):=by
 obtain⟨h,hz⟩:=h;rcases h with ⟨rfl,rfl⟩|rfl
 ·grind
 ·obtain⟨r,hr⟩:=Ka hz hk;exact⟨r,by rw[dV T.und T.inf T.sz _ _ _ hk,hr]⟩
theorem uz.len(h:uz v z els):lenOf v=some els.length/\lH v=false:=by rcases h.1 with ⟨rfl,rfl⟩|rfl<;>exact⟨rfl,rfl⟩
theorem uz.ft{ty e z:Nat}{v:AV}{els:List (List AV)}(T:jv P ty e z)(h:uz v z els):Go.Ev.ft P st [ty] [v]=some (.i .i64 (els.length:Int),st):=aY T.und h.len.1 h.len.2
theorem kO(hi:bp P e=true)(ha:et P e=true)(hz:aD P e=z){x r:List AV}(hx:x.length=z):loadAt P e st (.rp (x++r))=some (.ag x):=by rw[Kq hi ha,hz,cQ,<-hx,nP];rfl
@[simp] theorem aeK{f:FuncId}{a b:Array Operand}:bH (.makeFunc (.func f) a b) P S t st=some (.f (.func f) (args t a.toList) (args t b.toList),st):=rfl
@[simp] theorem adU{k:Tmp}{xq:Array Operand}{ts:Array TypeId}:bH (.call { callee:=.value (.tmp k),args:=xq,argTypes:=ts }) P S t st=tI P S st (args t xq.toList) (ab t k):=rfl
@[simp] theorem ad7{f:FuncId}{x y xq:List AV}:tI P S st xq (.f (.func f) x y)=nj P S f (x++(xq++y)) st:=rfl
structure gO(P:Program)(ty e z:Nat):Prop where
 sl:jv P ty e z
 z1:1<=z
 zero:∃ zs,bm P e=some zs/\zs.length=z
 small:z<=1000
 plain:pJ P [ty,ty]=true
 by1:1<=nR P e
 by2:nR P e<=1000
theorem gO.fit{ty:Nat}(T:gO P ty e z)(h:n<=10000000):fits P e n=true:=by obtain⟨zs,hz,-⟩:=T.zero;unfold fits;have h1:Q0 1 (nR P e)=true:=Q8 T.by1;have h2:(2*n+2000)*nR P e<=281474976710656:=Q6 (Nat.mul_le_mul (show 2*n+2000<=20002000 by omega) T.by2) (by decide);simp_all
theorem gO.el{ty:Nat}(T:gO P ty e z):ez P ty=some e:=by unfold ez;rw[T.sl.und]
theorem gT{ty:Nat}(T:gO P ty e z)(hc:(ai t x).cells=some cs)(hl:cs.length=z):bH (.buildSlice ty 1 #[(0,x)]) P S t st=some (.sl st.next 0 1 z (some 1),st.aw cs):=by
 obtain⟨zs,hz,hzl⟩:=T.zero;show(match ez P ty with
 |none=>none
 |some e=>match bm P e with
  |none=>none
  |some z=>(@Bool.rec (fun _=>aR) none (uq st 1 (aD P e) (fill (jB (aD P e)) (rep 1 z) (gQ t [(0,x)]))) (Q0 (1*aD P e) 16777216)))=_
 rw[T.el];simp only[hz,T.sl.sz];have h1:Q0 (1*z) 16777216=true:=Q8 (by have:=T.small;omega);rw[h1];show uq st 1 z (fill (jB z) (zs++[]) [(0,ai t x)])=_
 have h2:fill (jB z) (zs++[]) [(0,ai t x)]=some cs:=by simp_all[fill,jB,Q8,jG]
 rw[h2];rfl
theorem Yo{new:List AV}(h:st.ce r=some (cs,g,al))(hz:cs.length=n*z)(_:g<st.next):
  ∃ st',yW st r 0 n z m new=some (.sl st.next 0 m z none,st')/\(∃ al',st'.ce st.next=some (cs++new,g,al'))/\st'.next=st.next+1/\
   (∀ r,r<st.next->st'.get r=st.get r)/\∀ g',g'≠g->st'.live.get g'=st.live.get g':=by
 unfold yW;rw[h];simp[<-hz,dD];simp_all[mem,St.ce,St.get,Tr.eh,Nat.ne_of_lt]
def aW(st:St)(lo z:Nat)(v:AV)(n:Nat)(cs:List AV)(g:Option Nat):Prop :=
 (v=.sn/\n=0/\cs=[]/\g=none)\/(∃ r,v=.sl r 0 0 z (some 0)/\n=0/\cs=[]/\g=none)\/
 ∃ r f al,g=some f/\v=.sl r 0 n z none/\st.ce r=some (cs,f,al)/\cs.length=n*z/\1<=n/\lo<=r/\lo<=f/\r<st.next/\f<st.next
section
variable {lo : Nat}{g : Option Nat}
theorem aW.nil(st:St)(lo z:Nat):aW st lo z .sn 0 [] none:=.inl ⟨rfl,rfl,rfl,rfl⟩
theorem aW.keep{B:List Nat}(h:aW st lo z v n cs g)(k:Kp A B st st')(hA:∀ x,x∈A->x<lo)(hB:∀ x,x∈B->x<lo\/g≠some x):aW st' lo z v n cs g:=by
 rcases h with h|h|⟨r,f,al,rfl,rfl,hc,hl,h0,h1,h2,h3,h4⟩
 ·exact .inl h
 ·exact .inr (.inl h)
 ·refine .inr (.inr ⟨r,f,al,rfl,rfl,k.ce hc h3 h4 (fun hh=>?_) (fun hh=>?_),hl,h0,h1,h2,Z6 h3 k.next,Z6 h4 k.next⟩)
  ·have:=hA _ hh;omega
  ·rcases hB _ hh with h|h
   ·omega
   ·exact h rfl
theorem aW.fJ(h:aW st lo z v n cs g):∀ x,g=some x->lo<=x/\x<st.next:=by
 rintro x rfl;rcases h with h|⟨r,h⟩|⟨r,f,al,h0,rfl,hc,hl,h1,h2,h3,h4,h5⟩
 ·cases h.2.2.2
 ·cases h.2.2.2
 ·cases h0;exact⟨h3,h5⟩
theorem aW.len(h:aW st lo z v n cs g):lenOf v=some n/\lH v=false:=by rcases h with ⟨rfl,rfl,-⟩|⟨r,rfl,rfl,-⟩|⟨r,f,al,-,rfl,-⟩<;>exact⟨rfl,rfl⟩
theorem aW.sc(h:aW st lo z v n cs g):bS v=true:=by rcases h with ⟨rfl,rfl,-⟩|⟨r,rfl,rfl,-⟩|⟨r,f,al,-,rfl,-⟩<;>rfl
theorem aW.cells(h:aW st lo z v n cs g):v.cells=some [v]:=by rcases h with ⟨rfl,rfl,-⟩|⟨r,rfl,rfl,-⟩|⟨r,f,al,-,rfl,-⟩<;>simp
def Grown(v:AV)(z n:Nat)(cs:List AV):Prop:=(v=.sn/\n=0/\cs=[])\/v=.rs cs n z
theorem aW.fz{cs':List AV}(h:aW st lo z v n cs g)(hlo:n0<=lo)(_:1<=z)(hc:fB n0 st cs cs'):∃ v',Fz n0 st v v'/\Grown v' z n cs':=by
 rcases h with ⟨rfl,rfl,rfl,-⟩|⟨r,rfl,rfl,rfl,-⟩|⟨r,f,al,-,rfl,h1,h2,h3,h4,h5,h6,h7⟩
 ·exact⟨.sn,.pure rfl,.inl ⟨rfl,rfl,fB.same rfl hc⟩⟩
 ·have:cs'=[]:=fB.same rfl hc;subst this;exact⟨_,.tP,.inr rfl⟩
 ·exact⟨_,.slice h1 h2.symm (by omega) hc (by omega),.inr rfl⟩
theorem aW.Cy{ty:Nat}{x:AV}{new:List AV}(T:gO P ty e z)(h:aW st lo z v n cs g)(h1:lenOf x=some k)(h2:firstCells st z k x=some new)(h3:gk x=none)(hs:bq new=true)(hl:new.length=k*z)(hn:n+k<=10000000)(hlo:lo<=st.next):
  ∃ v' g' st',gS P st [ty,ty] [v,x]=some (v',st')/\aW st' lo z v' (n+k) (cs++new) g'/\Kp [] g.toList st st'/\(g'=g\/g'=some st.next)/\st'.next<=st.next+1/\(k=0\/∃ r m,v'=.sl r 0 m z none/\st.next<=r):=by
 have e0:(pJ P [ty,ty]&&bp P e&&bq new)=true:=by rw[T.plain,T.sl.inf,hs];rfl
 have eb:gS P st [ty,ty] [v,x]=append P st [ty,ty] v x:=by
  show uY P st [ty,ty] v x (gk x)=_
  rw[h3];rfl
 rw[eb];by_cases h0:k=0
 ·subst h0;refine⟨v,g,st,?_,by grind,.refl _ _ _,.inl rfl,Z7 _,.inl rfl⟩;unfold append;simp only[T.el,h1,T.sl.sz,h2,e0];rcases h with ⟨rfl,rfl,-⟩|⟨r,rfl,rfl,-⟩|⟨r,f,al,-,rfl,-⟩<;>simp
 ·have hb0:J4 k 0=false:=by rw[bu];grind
  have hz1:=T.z1;rcases h with ⟨rfl,rfl,rfl,rfl⟩|⟨r,rfl,rfl,rfl,rfl⟩|⟨r,f,al,rfl,rfl,c1,c2,c3,c4,c5,c6,c7⟩
  ·refine⟨.sl st.next 0 k z none,some st.next,st.aw new,?_,.inr (.inr ⟨st.next,st.next,_,rfl,by simp,by simpa using cz new,by grind,by omega,hlo,hlo,J9 _,J9 _⟩),.aw _ _ _,.inr rfl,Q1 _,.inr ⟨_,_,rfl,Q1 _⟩⟩;unfold append;simp[T.el,h1,T.sl.sz,h2,e0,hb0,T.fit (show k<=10000000 by omega)];rfl
  ·refine⟨.sl st.next 0 k z none,some st.next,st.aw new,?_,.inr (.inr ⟨st.next,st.next,_,rfl,by simp,by simpa using cz new,by grind,by omega,hlo,hlo,J9 _,J9 _⟩),.aw _ _ _,.inr rfl,Q1 _,.inr ⟨_,_,rfl,Q1 _⟩⟩;unfold append;have e2:Q0 (0+k) 0=false:=by
    simp_all[Z5]
   simp only[T.el,h1,T.sl.sz,h2,e0,hb0,e2,T.fit (show 0+k<=10000000 by omega),bu,decide_true];simp[firstCells,grow]
  ·obtain⟨st',k1,⟨al',k2⟩,k3,k4,k5⟩:=Yo (m:=n+k) c1 c2 c7;refine⟨_,some f,st',?_,.inr (.inr ⟨st.next,f,al',rfl,rfl,k2,by grind,by omega,hlo,c5,by omega,by omega⟩),⟨by omega,fun r h _=>k4 r h,fun g h hg=>k5 g (by grind)⟩,.inl rfl,by omega,.inr ⟨_,_,rfl,Q1 _⟩⟩;unfold append;simp only[T.el,h1,T.sl.sz,h2,e0,hb0];have e2:Q0 (n+k) (qR st r 0 z)=false:=by
    have:qR st r 0 z=n:=by grind[qR,Nat.mul_div_cancel]
    rw[this,Z5];intro hh;have:=Nat.le_of_ble_eq_true hh;omega
   rw[T.fit hn];simp_all[Ej]
theorem aW.app{ty:Nat}{x:AV}{new:List AV}(T:gO P ty e z)(h:aW st lo z v n cs g)(h1:lenOf x=some k)(h2:firstCells st z k x=some new)(h3:gk x=none)(hs:bq new=true)(hl:new.length=k*z)(hn:n+k<=10000000)(hlo:lo<=st.next):
  ∃ v' g' st',gS P st [ty,ty] [v,x]=some (v',st')/\aW st' lo z v' (n+k) (cs++new) g'/\Kp [] g.toList st st'/\(g'=g\/g'=some st.next):=by
 obtain⟨v',g',st',h4,h5,h6,h7,-⟩:=h.Cy T h1 h2 h3 hs hl hn hlo;grind
theorem aW.zT{ty:Nat}{new:List AV}(T:gO P ty e z)(h:aW st lo z v n cs g)(hs:bq new=true)(hl:new.length=z)(hn:n+1<=10000000)(hlo:lo<=st.next):
  ∃ v' g' st',gS P (st.aw new) [ty,ty] [v,.sl st.next 0 1 z (some 1)]=some (v',st')/\aW st' lo z v' (n+1) (cs++new) g'/\Kp [] g.toList st st'/\(g'=g\/∃ x,g'=some x/\st.next<=x)/\st'.next<=st.next+2/\∃ r m,v'=.sl r 0 m z none/\st.next<=r:=by
 have h':aW (st.aw new) lo z v n cs g:=h.keep (.aw [] [] new) (by simp) (by simp);have hf:firstCells (st.aw new) z 1 (.sl st.next 0 1 z (some 1))=some new:=by
  show rd (st.aw new) st.next 0 (1*z)=_
  rw[au (cz new),cQ,Nat.one_mul,<-hl,dD]
 obtain⟨v',g',st',h1,h2,h3,h4,h5,h6⟩:=h'.Cy T rfl hf rfl hs (by omega) hn (Nat.le_succ_of_le hlo);refine⟨v',g',st',h1,h2,(Kp.aw _ _ _).trans h3,?_,h5,(by
  rcases h6 with h6|⟨r,m,h6,h7⟩
  ·omega
  ·exact⟨r,m,h6,Nat.le_of_succ_le h7⟩)⟩
 rcases h4 with h4|h4
 ·grind
 ·exact .inr ⟨_,h4,Z7 _⟩
theorem aW.mc{ty:Nat}{new:List AV}(T:gO P ty e z)(h:aW st lo z v n cs g)(hs:bq new=true)(hl:new.length=z)(hn:n+1<=10000000)(hlo:lo<=st.next):
  ∃ v' g' st',gS P (st.aw new) [ty,ty] [v,.sl st.next 0 1 z (some 1)]=some (v',st')/\aW st' lo z v' (n+1) (cs++new) g'/\Kp [] g.toList st st'/\(g'=g\/∃ x,g'=some x/\st.next<=x):=by
 obtain⟨v',g',st',h4,h5,h6,h7,-⟩:=h.zT T hs hl hn hlo;grind
end
@[simp] theorem adX{lo hi mx:Option Operand}:bH (.slice ty x lo hi mx) P S t st=dC st (ia P st ty (ai t x) (lo.map (ai t)) (hi.map (ai t)) (mx.map (ai t))):=rfl
theorem EE{ty:Nat}(T:jv P ty e z){c:List AV}(hi:i<=n):ia P st ty (.rs c n z) none (some (.i .i64 (i:Int))) none=some (.rs c i z):=by
 have h1:pY P ty z=true:=by unfold pY ez;simp only[T.und,T.inf,T.sz];simp_all
 have h2:gy n n none (some (.i .i64 (i:Int))) none=some (0,i,n):=by
  show @Bool.rec (fun _=>Option (Nat× Nat× Nat)) none (some (0,i,n)) (Q0 0 i&&Q0 i n&&Q0 n n&&true)=_
  simp_all[Q8]
 simp_all[slice,ia]
theorem Kp.drop{A B:List Nat}{r:Nat}(h:r∈A):Kp A B st (st.drop r):=⟨Q1 _,fun x _ hx=>by grind[St.yS],fun _ _ _=>rfl⟩
@[simp] theorem ae3{l:Nat}:tI P S st xs (.f (.yield l) [] [])=round S l xs st:=rfl
theorem Nk{L:List (List AV× Ex)}:∀ (j:Nat),j<=L.length->∀ i,i<=j->eu L i<=eu L j
 |0,_,i,h=>by grind
 |j+1,hj,i,h=>by
  rcases Nat.lt_or_ge i (j+1) with h'|h'
  ·have:=Nk (L:=L) j (by omega) i (by omega);grind[fY]
  grind
theorem AX(l:ae)(h:i<=l.list.length):eu l.list i<=l.size:=by rw[<-mP];exact Nk _ (Q1 _) _ h
abbrev fk:=AV× AV× Nat
theorem Ra{es:List fk}(h:fS E es ms):∀ m,m∈ms->∃ e,e∈es/\Ib E e m:=by
 induction es generalizing ms with
 |nil=>cases ms with
  |nil=>grind
  |cons=>cases h
 |cons e es ih =>
  cases ms with
  |nil=>grind
  |cons m0 ms =>obtain⟨h1,h2⟩:=h;grind
theorem SH{es:List fk}(h:fS E es ms):∀ e,e∈es->∃ m,m∈ms/\Ib E e m:=by
 induction es generalizing ms with
 |nil=>grind
 |cons e es ih =>
  cases ms with
  |nil=>cases h
  |cons m0 ms =>obtain⟨h1,h2⟩:=h;grind
theorem Ky(h:Rel E w.heap st){since:Nat}{seen:List Nat}{es:List fk}(hg:st.get r=some (.mi (some m) since seen clock))(hm:st.get m=some (.mp es clock))(hold:∀ e∈es,e.2.2<since)(hs:since<=clock)(hu:Conc E (.p r 0) u)(ty:TypeId):
  (left seen es=[]/\(J5 u false ty).run P w=.ok (.tuple #[.bool false]) w)\/
  ∃ e,e∈left seen es/\∃ w' z,(J5 u false ty).run P w=.ok z w'/\bt E E w w' st (st.put r (.mi (some m) since (seen++[e.2.2]) clock))/\Conc E (.tu [.b true,e.1,e.2.1]) z:=by
 cases hu;rename_i B hB;obtain⟨B',hB',hR,ha⟩:=Rel.row h hg (fun _ _ e=>by grind);rw[hB]at hB';cases hB';obtain⟨hd,mm,hw,Bm,hBm,rfl⟩:=hR;obtain⟨Bm',ents,hBm',hw',hc,-⟩:=Rel.mp h hm;rw[hBm]at hBm';cases hBm';have he:(J5 (.pointer (some ⟨B.b,0+B.d,none⟩)) false ty).run P w=(J5 (.pointer (some ⟨B.b,0,none⟩)) false ty).run P w:=by grind
 rw[he];have hold':∀ x∈ents.toList,x.born<since:=fun x hx=>by obtain⟨e,h1,h2⟩:=Ra hc x hx;rw[h2.2.2];grind
 have hl:=Ij (seen:=seen) hc;have el:(leftOf ents seen.toArray).toList=ents.toList.filter fun e=>!seen.contains e.born:=by grind[leftOf,List.filter_congr]
 rcases run_next_at w ty B.b Bm.b since clock seen.toArray ents clock hw hw' hold' hs with ⟨h0,hrun⟩|⟨e,he,w1,hal,hrun⟩
 ·left;refine⟨?_,hrun⟩;have:(leftOf ents seen.toArray).toList=[]:=by
   grind
  rw[<-el,this]at hl;cases hx:left seen es with
  |nil=>rfl
  |cons a l=>rw[hx]at hl;cases hl
 ·right;rw[el]at he;obtain⟨a,h1,h2⟩:=Ra hl e he;refine⟨a,h1,_,_,hrun,?_,?_⟩
  ·have hst:=Step.putRow h ha hB (row':=.mi (some m) since (seen++[a.2.2]) clock) (fun _ _ e=>by grind) (fun _ _ e=>by grind) (.mapIter (some Bm.b) since (seen.toArray.push e.born) clock)
    (fun H' hH'=>⟨hd,some Bm.b,by rw[hH',h2.2.2];simp,Bm,hBm,rfl⟩)
   rcases hal with rfl|rfl
   ·exact bt.of hst
   ·exact⟨hst,rfl,rfl⟩
  ·exact .tu _ [.bool true,e.key,e.val] (.cons _ _ _ _ (.b true) (.cons _ _ _ _ h2.1 (.cons _ _ _ _ h2.2.1 .nil)))
theorem QM{b:Nat}:∀ {l:List fk},b∉l.map (·.2.2)->l.filter (fun e=>!J4 e.2.2 b)=l
 |[],_=>rfl
 |x::l,h=>by
  have h1:x.2.2≠b:=fun e=>h (by simp[e])
  have h2:b∉l.map (·.2.2):=fun e=>h (Z8 _ e)
  rw[J6,if_pos (by rw[bu];simp[h1]),QM h2]
theorem NS{e:fk}:∀ {l:List fk},(l.map (·.2.2)).Nodup->e∈l->l.Perm (e::l.filter (fun x=>!J4 x.2.2 e.2.2))
 |x::l,hn,h=>by
  have hn':x.2.2∉l.map (·.2.2)/\(l.map (·.2.2)).Nodup:=List.nodup_cons.1 hn;rcases List.mem_cons.1 h with rfl|h
  ·rw[J6,if_neg (by simp),QM hn'.1]
  ·have hne:x.2.2≠e.2.2:=fun hh=>hn'.1 (by rw[hh]; exact V9.2 ⟨e,h,rfl⟩)
   rw[J6,if_pos (by rw[bu];simp[hne])];exact((NS hn'.2 h).cons x).trans (List.Perm.swap e x _)
theorem Ur(seen:List Nat)(b:Nat)(es:List fk):left (seen++[b]) es=(left seen es).filter (fun x=>!J4 x.2.2 b):=by unfold left;rw[List.filter_filter];grind[mem_iff,bu]
theorem Tb(es:List fk):left [] es=es:=by unfold left;rw[List.filter_eq_self];intro e _;rfl
def qI(x:Ctx)(ops:Array Oper)(o2:Oper)(d15 id:Nat)(body:Code)(t:Tr AV)(st:St):Out :=
 bT (bR x.P x.S x.nt ops [o2] t st) fun t s=>bT (ao (.cond (.tmp d15) .skip (.exit id)) x t s) (ao body x)
theorem Va{x:Ctx}(hxP:x.P=P)(hS:cq P x.S){b:Frame}{ops:Array Oper}{o1 o2:Oper}{i7 d13 d14 d15 id:Nat}{body:Code}(hops:ops.toList=[o1,o2])(hg1:o1.guard=none)(hp1:o1.op=.next (.tmp d13) false)(hq1:o1.dst=some d14)(hd14:d14<x.nt){es:List fk}(hold:∀ e∈es,e.2.2<clock)(hnd:(es.map (·.2.2)).Nodup)(J:List fk->Tr AV->St->Prop)(Q:List fk->Tr AV->St->Prop){k:List Item}(hb:x.inR=b.roundOf.isSome)(top:Nat)
  (hit:∀ done t s,J done t s->ai t (.tmp d13)=.p r 0/\s.get r=some (.mi (some m) clock (done.map (·.2.2)) clock)/\s.get m=some (.mp es clock)/\s.next<=top)
  (hstep:∀ done e L t s,J done t s->(done++e::L).Perm es->∃ t2 s2,qI x ops o2 d15 id body (t.set d14 (some (.tu [.b true,e.1,e.2.1]))) (s.put r (.mi (some m) clock (done.map (·.2.2)++[e.2.2]) clock))=.nx t2 s2/\J (done++[e]) t2 s2/\s2.next<=top)
  (hend:∀ done t s,J done t s->done.Perm es->∃ t2,qI x ops o2 d15 id body (t.set d14 (some (.tu [.b false]))) s=.ex id t2 s/\Q done t2 s):
  ∀ (n:Nat) (done:List fk),(left (done.map (·.2.2)) es).length=n->(done++left (done.map (·.2.2)) es).Perm es->∀ {E:Env} {w:World} {st:St} {t:Tr AV} {a:Act},E.top=top->Rel E w.heap st->cJ E x.nt t a.tmps->Marks n0 b.defers E w.heap st a.defers->n0<=w.heap.size->J done t st->
   ∃ done' t' st',done'.Perm es/\Q done' t' st'/\dF P ks n0 E x.nt b w st (lone (b.atR a (.code (.seq (.region i7 ops false) (.seq (.cond (.tmp d15) .skip (.exit id)) body))::.inLoop (.seq (.region i7 ops false) (.seq (.cond (.tmp d15) .skip (.exit id)) body))::.inBlock id::k)) ks w) k (.nx t' st'):=by
 subst hxP;have ho1:ops[0]? = some o1:=by rw[<-Array.getElem?_toList,hops];rfl
 have hsz:List.range ops.size=[0,1]:=by
  have:ops.size=2:=by rw[<-Array.length_toList,hops];rfl
  rw[this];rfl
 have hput:∀ (t:Tr AV) (v:AV),eN x.nt t o1.dst v=some (t.set d14 (some v)):=fun t v=>by simp_all
 have rest:∀ {E:Env} {w:World} {st:St} {t:Tr AV} {a:Act},Rel E w.heap st->cJ E x.nt t a.tmps->Marks n0 b.defers E w.heap st a.defers->n0<=w.heap.size->(qI x ops o2 d15 id body t st).lim E.top->
   dF x.P ks n0 E x.nt b w st (lone (b.atR a (.inRegion ops [1]::.code (.seq (.cond (.tmp d15) .skip (.exit id)) body)::.inLoop (.seq (.region i7 ops false) (.seq (.cond (.tmp d15) .skip (.exit id)) body))::.inBlock id::k)) ks w) (.inLoop (.seq (.region i7 ops false) (.seq (.cond (.tmp d15) .skip (.exit id)) body))::.inBlock id::k) (qI x ops o2 d15 id body t st):=by
  intro E w st t a hr ht hm hn0 hl;have hops1:ops.toList.drop 1=[o2]:=by grind
  have h1:=FW (ks:=ks) (k:=.code (.seq (.cond (.tmp d15) .skip (.exit id)) body)::.inLoop (.seq (.region i7 ops false) (.seq (.cond (.tmp d15) .skip (.exit id)) body))::.inBlock id::k) hS [o2] 1 hops1 hr ht hm;unfold qI at hl|-;cases hc1:bR x.P x.S x.nt ops [o2] t st with
  |no=>trivial
  |nx t1 st1 =>
   rw[hc1]at h1 hl;rcases wz (jd (.seq (.cond (.tmp d15) .skip (.exit id)) body) x hS.up t1 st1) hl with hno|hn
   ·simp_all[dF]
   ·obtain⟨E1,a1,w1,s1,h2,h3,h4⟩:=h1 hn;have h5:=vo (ks:=ks) (.seq (.cond (.tmp d15) .skip (.exit id)) body) x rfl hS (.inLoop (.seq (.region i7 ops false) (.seq (.cond (.tmp d15) .skip (.exit id)) body))::.inBlock id::k) hb s1.rel h2 h3 (Q6 hn0 s1.fr.size) (by rw[s1.top];exact hl);exact dF.pre s1 h4 h5
  |ex i t1 st1 =>rw[hc1]at h1 hl;exact h1 hl
  |rt t1 st1 =>rw[hc1]at h1 hl;exact h1 hl
 intro n;induction n with
 |zero =>
  intro done h0 hp E w st t a htop hr ht hm hn0 hJ;obtain⟨h1,h2,h3,h4⟩:=hit done t st hJ;have hl:=List.eq_nil_of_length_eq_zero h0;rw[hl,List.append_nil]at hp;obtain⟨t2,h5,h6⟩:=hend done t st hJ hp;refine⟨done,t2,st,hp,h6,?_⟩;have hu:=vw ht (.tmp d13);rw[h1]at hu;have hrun:(J5 (a.eval (.tmp d13)) false o1.type).run x.P w=.ok (.tuple #[.bool false]) w:=by
   rcases Ky hr h2 h3 hold (Q1 _) hu o1.type with ⟨-,h⟩|⟨e,he,-⟩
   ·exact h
   ·rw[hl]at he;cases he
  have hg:qX x.P (b.atR a (.inRegion ops (0::[1])::.code (.seq (.cond (.tmp d15) .skip (.exit id)) body)::.inLoop (.seq (.region i7 ops false) (.seq (.cond (.tmp d15) .skip (.exit id)) body))::.inBlock id::k)) ks E w st st (.tu [.b false]) ((execOp a.eval o1).run x.P w):=by simp only[execOp,hp1];exact(qu hrun (.refl hr) (.tu _ [.bool false] (.cons _ _ _ _ (.b false) .nil))).c
  obtain⟨E1,w1,cv,s1,k1,k2⟩:=Ea ho1 (ED hg1 _) (fun c e=>by rw[hp1]at e;cases e) hg;have h7:=rest s1.rel (vH (ht.mono s1.le) (hput t _) k1) (by rw[put_defers];exact hm.step s1.toStep) (Q6 hn0 s1.fr.size) (by rw[h5];show st.next<=E1.top;rw[s1.top,htop];exact h4);rw[h5]at h7;have hst:Steps x.P (lone (b.atR a (.code (.seq (.region i7 ops false) (.seq (.cond (.tmp d15) .skip (.exit id)) body))::.inLoop (.seq (.region i7 ops false) (.seq (.cond (.tmp d15) .skip (.exit id)) body))::.inBlock id::k)) ks w) (lone (b.atR (a.put o1.dst cv) (.inRegion ops [1]::.code (.seq (.cond (.tmp d15) .skip (.exit id)) body)::.inLoop (.seq (.region i7 ops false) (.seq (.cond (.tmp d15) .skip (.exit id)) body))::.inBlock id::k)) ks w1):=by refine(Q9 stepR_seq).trans ((Q9 stepR_region).trans ?_);rw[hsz];exact k2
  obtain⟨E2,a2,w2,s2,q1,q2,q3⟩:=dF.pre s1 hst h7;exact⟨E2,a2,w2,s2,q1,q2,q3 k (by simp[exitTo])⟩
 |succ n ih =>
  intro done h0 hp E w st t a htop hr ht hm hn0 hJ;obtain⟨h1,h2,h3,h4⟩:=hit done t st hJ;have hu:=vw ht (.tmp d13);rw[h1]at hu;rcases Ky hr h2 h3 hold (Q1 _) hu o1.type with ⟨hl,-⟩|⟨e,he,w',z,hrun,hs,hz⟩
  ·rw[hl]at h0;cases h0
  have hL:((left (done.map (·.2.2)) es).map (·.2.2)).Nodup:=hnd.sublist ((List.filter_sublist).map _);have hpm:=NS hL he;obtain⟨t2,st2,h5,h6,h6'⟩:=hstep done e _ t st hJ ((X0 done hpm.symm).trans hp);have hg:qX x.P (b.atR a (.inRegion ops (0::[1])::.code (.seq (.cond (.tmp d15) .skip (.exit id)) body)::.inLoop (.seq (.region i7 ops false) (.seq (.cond (.tmp d15) .skip (.exit id)) body))::.inBlock id::k)) ks E w st (st.put r (.mi (some m) clock (done.map (·.2.2)++[e.2.2]) clock)) (.tu [.b true,e.1,e.2.1]) ((execOp a.eval o1).run x.P w):=by simp only[execOp,hp1];exact(qu hrun hs hz).c
  obtain⟨E1,w1,cv,s1,k1,k2⟩:=Ea ho1 (ED hg1 _) (fun c e=>by rw[hp1]at e;cases e) hg;have h7:=rest s1.rel (vH (ht.mono s1.le) (hput t _) k1) (by rw[put_defers];exact hm.step s1.toStep) (Q6 hn0 s1.fr.size) (by rw[h5];show st2.next<=E1.top;rw[s1.top,htop];exact h6');rw[h5]at h7;have hst:Steps x.P (lone (b.atR a (.code (.seq (.region i7 ops false) (.seq (.cond (.tmp d15) .skip (.exit id)) body))::.inLoop (.seq (.region i7 ops false) (.seq (.cond (.tmp d15) .skip (.exit id)) body))::.inBlock id::k)) ks w) (lone (b.atR (a.put o1.dst cv) (.inRegion ops [1]::.code (.seq (.cond (.tmp d15) .skip (.exit id)) body)::.inLoop (.seq (.region i7 ops false) (.seq (.cond (.tmp d15) .skip (.exit id)) body))::.inBlock id::k)) ks w1):=by refine(Q9 stepR_seq).trans ((Q9 stepR_region).trans ?_);rw[hsz];exact k2
  obtain⟨E2,a2,w2,s2,q1,q2,q3⟩:=dF.pre s1 hst h7;have hsn:left ((done++[e]).map (·.2.2)) es=(left (done.map (·.2.2)) es).filter (fun x=>!J4 x.2.2 e.2.2):=by rw[List.map_append];exact Ur _ _ _
  obtain⟨done',t',st',g1,g2,g3⟩:=ih (done++[e]) (by rw[hsn];have hh:=hpm.length_eq;rw[h0]at hh;exact(Nat.succ.inj hh).symm)
   (by rw[hsn,List.append_assoc];exact(X0 done hpm.symm).trans hp) (by rw[s2.top,htop]) s2.rel q1 q2 (Q6 hn0 s2.fr.size) h6
  exact⟨done',t',st',g1,g2,dF.pre s2 (q3.trans (Q9 stepR_inLoop)) g3⟩
def kG(F:FuncId->List AV->St->Option (AV× St))(S:Self):Self :=
 ⟨fun f xs st=>match F f xs st with|some r=>some r|none=>S.call f xs st,S.code,S.dcall⟩
structure tw(P:Program)(F:FuncId->List AV->St->Option (AV× St)):Prop where
 up:∀ f xs st,Up st (F f xs st)
 ok:∀ {ks:List Frame} {E:Env} {w:World} {st st':St} {f:FuncId} {xq:List AV} {us:List Value} {v:AV},Rel E w.heap st->aP E xq us->F f xq st=some (v,st')->st'.next<=E.top->
  ∃ E' w' cv,lQ P ks f us.toArray w w' cv/\bt E E' w w' st st'/\Conc E' v cv
theorem yB(hF:tw P F)(S:Self)(hS:cq P S):cq P (kG F S):=by
 refine⟨hS.ng,hS.mixed,⟨fun f xs st=>?_,hS.up.code,hS.up.dcall⟩,fun {ks E w st st' f xs us v} hr hc h hn=>?_,fun {ks E w st nt c t a b} k hb hr ht hm hl=>hS.code k hb hr ht hm hl,hS.dcall⟩
 ·have:=hF.up f xs st;unfold kG;simp only;cases hx:F f xs st with
  |none=>exact hS.up.call f xs st
  |some p=>grind
 ·unfold kG at h;simp only at h;cases hx:F f xs st with
  |none=>rw[hx]at h;exact hS.call hr hc h hn
  |some p=>rw[hx]at h;cases h;exact hF.ok hr hc hx hn
theorem th{f:FuncId}{r:AV× St}(h:F f xs st=some r):(kG F S).call f xs st=some r:=by
 show(match F f xs st with|some r=>some r|none=>S.call f xs st)=_
 rw[h]
theorem fT{f:FuncId}(h:F f xs st=none):(kG F S).call f xs st=S.call f xs st:=by
 show(match F f xs st with|some r=>some r|none=>S.call f xs st)=_
 rw[h]
theorem SQ{f:FuncId}{args:Array Value}{W:World}{v:Value}(h:Calls P f args w fun e w'=>e=.returned v/\w'=W):lQ P ks f args w W v:=by obtain⟨e,w',fr,⟨rfl,rfl⟩,h1,h2,h3⟩:=h ks;exact⟨fr,h1,h2,h3⟩
def mI(st:St):Prop:=∃ t,st.get 0=some (.ty t 1 false)
open Classical in
def adF(g:FuncId)(D:Nat->Nat)(f:FuncId)(xs:List AV)(st:St):Option (AV× St):=
 if f=g/\mI st then match xs with
  |[.i .u64 (.ofNat n)]=>if 1<=n/\n<18446744073709551616 then some (.i .i64 (D n:Int),st) else none
  |_=>none
 else none
def rP(g:FuncId)(f:FuncId)(xs:List AV)(st:St):Option (AV× St):=
 if f=g then match xs with
  |[.m r]=>match st.get r with
   |some (.mp es c)=>some (.m st.next,st.new (.mp es c))
   |_=>none
  |_=>none
 else none
theorem Tp{g:FuncId}{c:Nat}{es:List (AV× AV× Nat)}(h:st.get r=some (.mp es c)):rP g g [.m r] st=some (.m st.next,st.new (.mp es c)):=by grind[rP]
theorem wi{g f:FuncId}(h:f≠g):rP g f xs st=none:=by unfold rP;grind
theorem abA{g:FuncId}:rP g g [.mn] st=none:=by unfold rP;grind
theorem YJ{g:FuncId}(hd:∀ (b:Nat) (es:Array MapEntry) (c:Nat) (w:World),w.heap[b]? = some (.map es c)->Calls P g #[.map (some b)] w fun e w'=>e=.returned (.map (some w.heap.size))/\w'=w.alloc (.map es c)):tw P (rP g):=by
 refine⟨fun f xs st=>?_,fun {ks E w st st' f xs us v} hr hc h hn=>?_⟩
 ·unfold rP;grind[Hn,bF]
 ·unfold rP at h;split at h
  case isFalse=>grind
  rename_i hg;subst hg;split at h
  ·rename_i r;split at h
   ·rename_i es c hrow;cases h;have ha:st.alive r=some (.mp es c):=by unfold St.alive;grind
    obtain⟨B,hB,ents,h1,h2⟩:=hr.rows _ _ ha;cases hc with
    |cons _ _ u us k1 k2 =>
    cases k2;cases k1 with
    |m _ B' hB' =>
    rw[hB]at hB';cases hB';have hs:=I9 hr (show st.next+1<=E.top from hn) (.map ents c) (.mp es c) (fun _ _ e=>by grind) (fun F hF=>⟨ents,by simp,h2.mono hF⟩);exact⟨_,_,_,SQ (hd B.b ents c w h1),hs,.m _ ⟨w.heap.size,0,0⟩ Env.fj⟩
   grind
  grind
variable {nt : Nat}{b : Frame}{G : Tr AV->St->Prop}
def gE(P:Program)(ks:List Frame)(n0:Nat)(E:Env)(nt:Nat)(b:Frame)(w:World)(st:St)(m:Machine)(G:Tr AV->St->Prop):Prop:=∃ t s,G t s/\dF P ks n0 E nt b w st m [] (.rt t s)
theorem gE.pre{E1:Env}{w1:World}{st1:St}{m m1:Machine}(hs:bt E E1 w w1 st st1)(hm:Steps P m m1)(h:gE P ks n0 E1 nt b w1 st1 m1 G):gE P ks n0 E nt b w st m G:=by obtain⟨t,s,g,h⟩:=h;exact⟨t,s,g,dF.pre hs hm h⟩
theorem gE.assoc{c1:Code}{K:List Item}(hr:Rel E w.heap st)(h:gE P ks n0 E nt b w st (lone (b.atR a (.code c1::.code c2::K)) ks w) G):gE P ks n0 E nt b w st (lone (b.atR a (.code (.seq c1 c2)::K)) ks w) G :=
 h.pre (.refl hr) (Q9 stepR_seq)
theorem gE.code{x:Ctx}(hxP:x.P=P)(hS:cq P x.S){c:Code}{t t1:Tr AV}{st1:St}{a:Act}{K:List Item}(hb:x.inR=b.roundOf.isSome)(hr:Rel E w.heap st)(ht:cJ E x.nt t a.tmps)(hm:Marks n0 b.defers E w.heap st a.defers)(hn0:n0<=w.heap.size)
  (h:ao c x t st=.rt t1 st1) (htop:st1.next<=E.top) (hg:G t1 st1):gE P ks n0 E x.nt b w st (lone (b.atR a (.code c::K)) ks w) G:=by
 refine⟨t1,st1,hg,?_⟩;have h1:=vo (ks:=ks) c x hxP hS K hb hr ht hm hn0 (by rw[h];exact htop);rw[h]at h1;exact h1
theorem gE.step{x:Ctx}(hxP:x.P=P)(hS:cq P x.S){c:Code}{K:List Item}(hb:x.inR=b.roundOf.isSome)(hr:Rel E w.heap st)(ht:cJ E x.nt t a.tmps)(hm:Marks n0 b.defers E w.heap st a.defers)(hn0:n0<=w.heap.size)
  (h:ao c x t st=.nx t1 st1) (htop:st1.next<=E.top)
  (k:∀ {E1:Env} {w1:World} {a1:Act},E1.top=E.top->E.le E1->Rel E1 w1.heap st1->cJ E1 x.nt t1 a1.tmps->Marks n0 b.defers E1 w1.heap st1 a1.defers->n0<=w1.heap.size->gE P ks n0 E1 x.nt b w1 st1 (lone (b.atR a1 K) ks w1) G):
  gE P ks n0 E x.nt b w st (lone (b.atR a (.code c::K)) ks w) G:=by
 have h1:=vo (ks:=ks) c x hxP hS K hb hr ht hm hn0 (by rw[h];exact htop);rw[h]at h1;obtain⟨E1,a1,w1,s1,h2,h3,h4⟩:=h1;exact(k s1.top s1.le s1.rel h2 h3 (Q6 hn0 s1.fr.size)).pre s1 h4
theorem gE.seq{x:Ctx}(hxP:x.P=P)(hS:cq P x.S){c c2:Code}{t t1:Tr AV}{st1:St}{a:Act}{K:List Item}(hb:x.inR=b.roundOf.isSome)(hr:Rel E w.heap st)(ht:cJ E x.nt t a.tmps)(hm:Marks n0 b.defers E w.heap st a.defers)(hn0:n0<=w.heap.size)
  (h:ao c x t st=.nx t1 st1) (htop:st1.next<=E.top)
  (k:∀ {E1:Env} {w1:World} {a1:Act},E1.top=E.top->E.le E1->Rel E1 w1.heap st1->cJ E1 x.nt t1 a1.tmps->Marks n0 b.defers E1 w1.heap st1 a1.defers->n0<=w1.heap.size->gE P ks n0 E1 x.nt b w1 st1 (lone (b.atR a1 (.code c2::K)) ks w1) G):
  gE P ks n0 E x.nt b w st (lone (b.atR a (.code (.seq c c2)::K)) ks w) G :=
 .assoc hr (.step hxP hS hb hr ht hm hn0 h htop k)
theorem T9{f:FuncId}{fn:Func}{c:Code}(hf:P.funcs[f]? = some fn)(hbody:fn.body=some c)(hr:Rel E w.heap st){R:AV->St->Prop}
  (h:∀ b:Frame,b.roundOf=none->b.defers=[]->gE P ks w.heap.size E fn.ntmps b w st (lone (b.atR { tmps:=us.toArray++Z9 (fn.ntmps-us.toArray.size) undef,defers:=[] } [.code c]) ks w) G)
  (hG:∀ t s,G t s->∃ v,oj P fn.results.toList t s=some (v,s)/\R v s):
  ∃ E' w' cv v s,R v s/\lQ P ks f us.toArray w w' cv/\bt E E' w w' st s/\Conc E' v cv:=by
 let fb:Frame:={ fn:=f,tmps:=us.toArray++Z9 (fn.ntmps-us.toArray.size) undef,todo:=[],defers:=[],mode:=.run,kind:=.normal }
 let a0:Act:={ tmps:=us.toArray++Z9 (fn.ntmps-us.toArray.size) undef,defers:=[] }
 have hent:X4 P f us.toArray .normal=fb.atR a0 [.code c]:=by grind[X4,Frame.atR]
 obtain⟨t,s,hg,hA⟩:=h fb rfl rfl;obtain⟨v,hres,hR⟩:=hG t s hg;obtain⟨E1,a1,w1,todo,h1,h2,⟨ms,h3,h4⟩,h5⟩:=hA.II rfl (.inr rfl);have h3:a1.defers=ms:=by grind
 subst h3;obtain⟨w2,k1,k2⟩:=FF hr h1 h4 h5;obtain⟨-,u,k5,k4⟩:=Mq k1.rel h2 hres;exact⟨E1,w2,u,v,s,hR,(show yP P .normal ks f us.toArray w w2 u from⟨{ fb.atR a1 todo with mode:=.returning,defers:=[] },by grind,rfl,rfl,rfl,rfl,fn,hf,k5⟩).to,k1,k4⟩
theorem YO{f:FuncId}(hr:Rel E w.heap st){top:Nat}{E':Env}{w':World}{cv:Value}{v1:AV}(k1:lQ P ks f us.toArray w w' cv)(k2:bt ⟨E.imm,fun _=>none,top⟩ E' w w' aK s1)(k3:Conc E' v1 cv)(hd:Fz 0 s1 v1 v')(hp:bg v'=true) :
  ∃ E2 w2 cv2,lQ P ks f us.toArray w w2 cv2/\bt E E2 w w2 st st/\Conc E2 v' cv2:=by
 obtain⟨d,hd⟩:=hd;have s:=k2.toStep.trans (Step.qo k2.rel (Q0 0));have hcv:=BY k2.rel d _ _ _ k3 hd;generalize sd E' w'.heap s1 (Q0 0)=F at *;have no:∀ b,¬ mw ⟨E.imm,fun _=>none,top⟩ aK b:=by rintro b ⟨r,row,B,ha,_,_⟩;grind
 have keep:∀ b,b<w.heap.size->w'.heap[b]? = w.heap[b]?:=fun b hb=>k2.fr.keep b hb (no b)
 have hle:E.le ⟨F.imm,E.phi,E.top⟩:=⟨fun b o hb=>s.le.imm b o hb,fun _ _ h=>h⟩;refine⟨⟨F.imm,E.phi,E.top⟩,w',cv,k1,⟨⟨hle,fun b hb _ hi=>s.imm b hb (no b) hi,rfl,⟨s.rel.imm,hr.fresh,hr.freshRow,hr.freshG,hr.liveLt,fun r row h=>?_,fun r row B h hB=>?_,hr.sep,hr.ends,fun r t r0 x h=>(hr.tys r t r0 x h).mono hle (fI.H5 keep)⟩,
  k2.fr.size,fun b hb _=>keep b hb,fun _ h=>.inr h⟩,k2.os,k2.out⟩,Bs (E:=F) (F:=⟨F.imm,E.phi,E.top⟩) (fun _ _ h=>h) hcv hp⟩
 ·obtain⟨B,hB,hR⟩:=hr.rows r row h;exact⟨B,hB,hR.mono hle (keep _ hR.lt)⟩
 ·obtain⟨B',hB',hR⟩:=hr.rows r row h;rw[hB]at hB';cases hB';exact s.imm B.b hR.lt (no _) (hr.own r row B h hB)
open Go.Sort Go.Proofs
theorem abq(hr:Rel E w.heap st)(n:Nat)(os:Array Obj):bt E E w (J1 (w.drewN n) os) st st:=by
 refine⟨Step.grow hr ?_ fun b hb=>?_,rfl,rfl⟩
 ·simp_all
 ·show(w.heap++os)[b]? = w.heap[b]?
  grind
theorem IQ(hr:Rel E w.heap st)(h:rd st r o n=some l){B:fy}(hB:E.phi r=some B):
  ∃ us:List Value,aP E l us/\us.length=n/\J8 id w B.b (o+B.d) us.toArray/\B.b<w.heap.size:=by
 unfold rd at h;cases hc:st.ce r with
 |none=>grind
 |some x =>
  rw[hc]at h;obtain⟨B',cs,t,fz,hB',hH,hfz,hn,hd,hC⟩:=hr.cells hc;rw[hB]at hB';cases hB';obtain⟨rfl,hk⟩:=sq h;have h2:=(hC.drop o).take n;have hlt:B.b<w.heap.size:=(Array.getElem?_eq_some_iff.1 hH).1;refine⟨_,h2,by grind,fun j hj=>?_,hlt⟩;have hj3:o+B.d+j<cs.length:=by grind
  refine⟨?_,?_⟩
  ·grind[World.cell?]
  ·simp[World.frozen?,hH];have:=hfz.not (o+B.d+j) hj3;grind
theorem ZQ(cs F:List Value)(o:Nat)(h:o+F.length<=cs.length):Z3 id o F.toArray cs.toArray=(bO cs o F).toArray:=by
 apply Array.ext_getElem?;intro k;rw[kg cs o F h];simp only[Z3,Array.getElem?_mapIdx,List.getElem?_toArray,List.size_toArray,id];simp only[List.getElem?_append,List.length_take,List.length_append,V7,List.getElem?_drop];have e1:min o cs.length=o:=by omega
 rw[e1];by_cases h1:k<o
 ·have h3:k<o+F.length:=by omega
  rw[if_pos h3,if_pos h1,if_pos h1,V0 (by omega:k<cs.length),V1,if_neg (by omega)]
 ·by_cases h2:k<o+F.length
  ·rw[if_pos h2,if_neg h1,V0 (by omega:k<cs.length),V1,if_pos ⟨by omega,h2⟩,V0 (by omega:k-o<F.length)];rw[getElem!_pos _ _ (by simp;omega)];simp
  ·rw[if_neg h2,show o+F.length+(k-(o+F.length))=k by omega];cases cs[k]? with
   |none=>rfl
   |some y=>rw[V1,if_neg (by omega)]
theorem HJ(hr:Rel E w.heap st){vs:List AV}(hw:wt st r o vs=some st')(hc:aP E vs us)(n:Nat)(os:Array Obj){B:fy}(hB:E.phi r=some B):
  bt E E w (J1 (Q2 id (Q7 w n) B.b (o+B.d) us.toArray) os) st st':=by
 obtain⟨B',cs,t,fz,hB',h2,h3,h4,h5,h6⟩:=Step.wt hr hw hc;have e:(Q2 id (Q7 w n) B.b (o+B.d) us.toArray).heap=w.heap.setIfInBounds B.b (.cells (bO cs (o+B.d) us).toArray t fz):=by
  show w.heap.modify B.b (X5 (Z3 id (o+B.d) us.toArray))=_
  grind[X5,ZQ]
 have s1:Step E E w.heap (Q2 id (Q7 w n) B.b (o+B.d) us.toArray).heap st st':=by grind
 have s2:Step E E (Q2 id (Q7 w n) B.b (o+B.d) us.toArray).heap (J1 (Q2 id (Q7 w n) B.b (o+B.d) us.toArray) os).heap st' st':=by
  refine Step.grow s1.rel ?_ fun b hb=>?_
  ·simp[J1]
  ·simp[J1];rw[Array.getElem?_append_left hb]
 exact⟨s1.trans s2,rfl,rfl⟩
theorem yb{f:FuncId}{args:Array Value}{v:Value}{Q:World->Prop}(h:Calls P f args w fun e w'=>e=.returned v/\Q w'):∃ W,lQ P ks f args w W v/\Q W:=by obtain⟨e,w',fr,⟨rfl,hq⟩,h1,h2,h3⟩:=h ks;exact⟨w',⟨fr,h1,h2,h3⟩,hq⟩
def nI(s:ah):List UInt8:=s.map UInt8.ofNat
theorem IP(l:List UInt8):nI (l.map UInt8.toNat)=l:=by
 unfold nI;rw[X6]
 conv=>rhs;rw[<-List.map_id l]
 exact X7 fun a _=>by simp
def qJ(x y:ah):Bool:=decide (nI x<=nI y)
def ek(l:List ah):List ah:=l.mergeSort qJ
theorem Du(l:List ah):(ek l).Perm l:=List.mergeSort_perm l qJ
theorem xJ(l:List ah):(ek l).length=l.length:=List.length_mergeSort l
def pt:List AV->Option (List ah)
 |[]=>some []
 |.s x::l=>match pt l with|some r=>some (x::r)|none=>none
 |_::_=>none
theorem Jz:∀ {l:List AV}{r:List ah},pt l=some r->l=r.map .s
 |[],r,h=>by cases h;rfl
 |v::l,r,h=>by cases v<;>first|(simp[pt]at h;cases hl:pt l with|none=>grind|some q=>rw[hl]at h;cases h;rw[Jz hl];rfl)|cases h
theorem IN:∀ l:List ah,pt (l.map .s)=some l
 |[]=>rfl
 |x::l=>by simp[pt,IN l]
theorem GF{E:Env}:∀ {l:List ah}{us:List Value},aP E (l.map .s) us->∃ bs:List (List UInt8),us=bs.map encStr/\l=bs.map (·.map UInt8.toNat)
 |[],us,h=>by cases h;simp_all
 |x::l,us,h=>by
  cases h with
  |cons _ _ u us h1 h2 =>
  obtain⟨bs,rfl,rfl⟩:=GF h2;generalize hx:AV.s x=y at h1;cases h1<;>cases hx
  rename_i b;exact⟨b.data.toList::bs,rfl,rfl⟩
theorem IJ{E:Env}:∀ bs:List (List UInt8),aP E ((bs.map (·.map UInt8.toNat)).map .s) (bs.map encStr)
 |[]=>.nil
 |b::bs=>.cons _ _ _ _ (Conc.s (⟨b.toArray⟩:ByteArray)) (IJ bs)
theorem PB{b:Nat}{bs:List (List UInt8)}(h:J8 id w b o (bs.map encStr).toArray):J8 encStr w b o bs.toArray:=by intro j hj;have:=h j (by grind);grind
theorem Ro(w:World)(b o:Nat)(bs:List (List UInt8)):Q2 encStr w b o bs.toArray=Q2 id w b o (bs.map encStr).toArray:=by grind[Q2,Sort.mapBlock_congr,Z3]
theorem Iz(h:Conc E (.sl r o n z c) u)(hn:0<n):∃ B k,E.phi r=some B/\u=.slice (some ⟨B.b,o+B.d,none⟩) n k/\n<=k:=by
 cases h with
 |slk _ _ _ _ c a h1 h2 =>grind
 |slu _ _ _ _ c a h1 h2 =>grind
def pj(g:FuncId)(f:FuncId)(xs:List AV)(st:St):Option (AV× St):=
 if f=g then match xs with
  |[.sn]=>some (.tu [],st)
  |[.sl r o n _ _]=>if 0<n/\n<4611686018427387904 then(rd st r o n).bind fun l=>(pt l).bind fun ss=>(wt st r o ((ek ss).map .s)).bind fun st'=>some (.tu [],st') else none
  |_=>none
 else none
theorem BK{g f:FuncId}(h:f≠g):pj g f xs st=none:=by unfold pj;grind
theorem NA{g:FuncId}:pj g g [.sn] st=some (.tu [],st):=by unfold pj;grind
theorem Oh(h1:0<n)(h2:n<4611686018427387904)(h3:rd st r o n=some l)(h4:l=ss.map .s)(h5:wt st r o ((ek ss).map .s)=some st'):pj g g [.sl r o n z c] st=some (.tu [],st'):=by unfold pj;simp[h1,h2,h3,h4,IN,h5]
theorem ZU{g:FuncId}(hn:∀ (w:World),Calls P g #[.slice none 0 0] w fun e w'=>e = .returned (.tuple #[])∧w'=w)
  (hs:∀ (blk off cap:Nat) (ss:List (List UInt8)) (w:World),J8 encStr w blk off ss.toArray->blk<w.heap.size->ss.length<4611686018427387904->
   Calls P g #[.slice (some ⟨blk,off,none⟩) ss.length cap] w fun e w'=>e=.returned (.tuple #[])/\∃ n os,w'=J1 (Q2 encStr (Q7 w n) blk off (ss.mergeSort fun x y=>decide (x<=y)).toArray) os):tw P (pj g):=by
 refine⟨fun f xs st=>?_,fun {ks E w st st' f xs us v} hr hc h hn'=>?_⟩
 ·unfold pj;split
  ·split
   ·exact gR
   ·split
    ·cases h1:rd st _ _ _ with
     |none=>exact bF
     |some l =>
      simp;cases h2:pt l with
      |none=>exact bF
      |some ss =>
       simp;cases h3:wt st _ _ _ with
       |none=>exact bF
       |some st'=>exact fun _ _ e=>by cases e;exact yV _ h3
    ·exact bF
   ·exact bF
  ·exact bF
 ·unfold pj at h;split at h
  case isFalse=>grind
  rename_i hg;subst hg;split at h
  ·cases h;cases hc with
   |cons _ _ u us h1 h2 =>
   cases h2;cases h1;obtain⟨W,h1,rfl⟩:=yb (ks:=ks) (hn w);exact⟨E,_,_,h1,.refl hr,.tu _ _ .nil⟩
  ·rename_i r o n z c;split at h
   case isFalse=>grind
   rename_i hb;cases h1:rd st r o n with
   |none=>grind
   |some l =>
   rw[h1,J3]at h;cases h2:pt l with
   |none=>grind
   |some ss =>
   rw[h2,J3]at h;cases h3:wt st r o ((ek ss).map .s) with
   |none=>grind
   |some st2 =>
   rw[h3,J3]at h;cases h;cases hc with
   |cons _ _ u us k1 k2 =>
   cases k2;obtain⟨B,k,hB,rfl,hk⟩:=Iz k1 hb.1;obtain⟨us,e1,e2,e3,e4⟩:=IQ hr h1 hB;rw[Jz h2]at e1;obtain⟨bs,rfl,rfl⟩:=GF e1;have hl:bs.length=n:=by grind
   obtain⟨W,h1,m,os,rfl⟩:=yb (ks:=ks) (hs B.b (o+B.d) k bs w (PB e3) e4 (by omega));rw[hl]at h1;refine⟨E,_,_,h1,?_,.tu _ _ .nil⟩;rw[Ro];refine HJ hr h3 ?_ m os hB;have:ek (bs.map (·.map UInt8.toNat))=(bs.mergeSort fun x y=>decide (x<=y)).map (·.map UInt8.toNat):=by grind[ek,List.map_mergeSort,qJ,IP]
   rw[this];exact IJ _
  grind
def lM(l:List ah):List ah:=Q3 l
theorem MF(l:List ah):(lM l).length<=l.length:=by grind[lM,Q3,V2]
theorem YR{l:List ah}:s∈lM l↔s∈l:=by
 unfold lM Q3 V2;rw[V9];constructor
 ·grind
 ·intro h;obtain⟨i,hi,rfl⟩:=List.getElem_of_mem h;induction i using Nat.strongRecOn with
  |ind i ih =>
   by_cases hk:Z4 l.toArray i=true
   ·exact⟨i,X8.2 ⟨V3.2 hi,hk⟩,by rw[getElem!_pos _ i (by simpa using hi)];simp⟩
   ·unfold Z4 at hk;simp only[decide_eq_true_eq,not_or,Decidable.not_not]at hk;obtain⟨h0,h1⟩:=hk;rw[getElem!_pos _ i (by simpa using hi),getElem!_pos _ (i-1) (by simp;omega)]at h1;obtain⟨j,h2,h3⟩:=ih (i-1) (by omega) (by omega) (List.getElem_mem _);exact⟨j,h2,h3.trans h1.symm⟩
theorem KD{α:Type}{p q:α->Bool}:∀ {l:List α},(∀ x,x∈l->p x=q x)->l.filter p=l.filter q
 |[],_=>rfl
 |x::l,h=>by rw[J6,J6,h x (List.mem_cons_self ..),KD fun y hy=>h y (Z8 _ hy)]
theorem toNat_inj{a b:List UInt8}(h:a.map UInt8.toNat=b.map UInt8.toNat):a=b:=by grind[IP]
theorem GO(bs:List (List UInt8)):lM (bs.map (·.map UInt8.toNat))=(Q3 bs).map (·.map UInt8.toNat):=by
 unfold lM Q3 V2;rw[X6];have g:∀ j,j<bs.length->(bs.map (·.map UInt8.toNat)).toArray[j]! = (bs.toArray[j]!).map UInt8.toNat:=fun j hj=>by grind
 rw[List.length_map,KD (q:=Z4 bs.toArray)]
 ·refine X7 fun j hj=>?_
  exact g j (V3.1 (X8.1 hj).1)
 ·intro j hj;have hj:=V3.1 hj;unfold Z4;by_cases h0:j=0
  ·simp[h0]
  ·rw[g j hj,g (j-1) (by omega)];by_cases h1:bs.toArray[j]! = bs.toArray[j-1]!
   ·simp[h1]
   ·have:¬ (bs.toArray[j]!).map UInt8.toNat=(bs.toArray[j-1]!).map UInt8.toNat:=fun e=>h1 (toNat_inj e)
    simp only[ne_eq,h1,this,not_false_eq_true,or_true]
theorem Tk{a:Addr}(h:Conc E (.sl r o n z c) (.slice (some a) n k))(hm:m<=n):Conc E (.sl r o m z c) (.slice (some a) m k):=by
 cases h with
 |slk _ _ _ _ c a h1 h2=>exact .slk _ _ _ _ _ _ (Q6 hm h1) h2
 |slu _ _ _ _ c a h1 h2=>exact .slu _ _ _ _ _ _ (Q6 hm h1) h2
def nh(n:Nat)(ss:List ah):List ah:=lM ss++V4 (n-(lM ss).length) []
def qP(g:FuncId)(f:FuncId)(xs:List AV)(st:St):Option (AV× St):=
 if f=g then match xs with
  |[.sn]=>some (.sn,st)
  |[.sl r o n z c]=>if 0<n/\n<4611686018427387904 then(rd st r o n).bind fun l=>(pt l).bind fun ss=>(wt st r o ((nh n ss).map .s)).bind fun st'=>some (.sl r o (lM ss).length z c,st') else none
  |_=>none
 else none
theorem Iu{g f:FuncId}(h:f≠g):qP g f xs st=none:=by unfold qP;grind
theorem acW{g:FuncId}:qP g g [.sn] st=some (.sn,st):=by unfold qP;grind
theorem T0(h1:0<n)(h2:n<4611686018427387904)(h3:rd st r o n=some l)(h4:l=ss.map .s)(h5:wt st r o ((nh n ss).map .s)=some st'):qP g g [.sl r o n z c] st=some (.sl r o (lM ss).length z c,st'):=by unfold qP;simp[h1,h2,h3,h4,IN,h5]
theorem UK{g:FuncId}(hn:∀ (w:World),Calls P g #[.slice none 0 0] w fun e w'=>e = .returned (.slice none 0 0)∧w'=w)
  (hs:∀ (blk off cap:Nat) (zs:List (List UInt8)) (w:World),J8 encStr w blk off zs.toArray->zs.length<=9223372036854775807->zs.length<=cap->
   Calls P g #[.slice (some ⟨blk,off,none⟩) zs.length cap] w fun e w'=>e=.returned (.slice (some ⟨blk,off,none⟩) (Q3 zs).length cap)/\∃ q,w'=Q2 encStr (Q7 w q) blk off (Q3 zs++V4 (zs.length-(Q3 zs).length) []).toArray):tw P (qP g):=by
 refine⟨fun f xs st=>?_,fun {ks E w st st' f xs us v} hr hc h hn'=>?_⟩
 ·unfold qP;split
  ·split
   ·exact gR
   ·split
    ·cases h1:rd st _ _ _ with
     |none=>exact bF
     |some l =>
      simp;cases h2:pt l with
      |none=>exact bF
      |some ss =>
       simp;cases h3:wt st _ _ _ with
       |none=>exact bF
       |some st'=>exact fun _ _ e=>by cases e;exact yV _ h3
    ·exact bF
   ·exact bF
  ·exact bF
 ·unfold qP at h;split at h
  case isFalse=>grind
  rename_i hg;subst hg;split at h
  ·cases h;cases hc with
   |cons _ _ u us h1 h2 =>
   cases h2;cases h1;obtain⟨W,h1,rfl⟩:=yb (ks:=ks) (hn w);exact⟨E,_,_,h1,.refl hr,.sn⟩
  ·rename_i r o n z c;split at h
   case isFalse=>grind
   rename_i hb;cases h1:rd st r o n with
   |none=>grind
   |some l =>
   rw[h1,J3]at h;cases h2:pt l with
   |none=>grind
   |some ss =>
   rw[h2,J3]at h;cases h3:wt st r o ((nh n ss).map .s) with
   |none=>grind
   |some st2 =>
   rw[h3,J3]at h;cases h;cases hc with
   |cons _ _ u us k1 k2 =>
   cases k2;obtain⟨B,k,hB,rfl,hk⟩:=Iz k1 hb.1;obtain⟨us,e1,e2,e3,e4⟩:=IQ hr h1 hB;rw[Jz h2]at e1;obtain⟨bs,rfl,rfl⟩:=GF e1;have hl:bs.length=n:=by grind
   obtain⟨W,h1,m,rfl⟩:=yb (ks:=ks) (hs B.b (o+B.d) k bs w (PB e3) (by omega) (by omega));rw[hl]at h1;have hle:(Q3 bs).length<=n:=by grind[MF,GO]
   refine⟨E,_,_,h1,?_,?_⟩
   ·rw[Ro,<-Sort.grow_empty (Q2 id _ _ _ _)];refine HJ hr h3 ?_ m #[] hB;have:nh n (bs.map (·.map UInt8.toNat))=(Q3 bs++V4 (bs.length-(Q3 bs).length) ([]:List UInt8)).map (·.map UInt8.toNat):=by
     simp_all[nh,GO]
    rw[this,hl];exact IJ _
   grind[GO,Tk]
  grind
end Go.Ev
namespace Go.Proofs
variable {A al : List Nat}{E : Env}{F : FuncId->List AV->St->Option (AV× St)}{G : FuncId->Bool}{H : Array Obj}{K : FuncId->AV->St->Nat->Bool}{P : Program}{S S0 : Self}{a : Act}{b clock e g i k m n n0 o r z : Nat}{c : Option Nat}{c2 : Code}{cs l l' xs : List AV}{els : List (List AV)}{f : FuncId}{ix x : Operand}{ks : List Frame}{ms : List MapEntry}{p : AV->St->Nat->Bool}{q : Nat->Bool}{s y : ah}{s1 st st' st1 : St}{ss : List ah}{t t1 : Tr AV}{ty : TypeId}{u : Value}{us : List Value}{v v' : AV}{w : World}
open Go.Shelf
def Tryz.YB:V6:=⟨fun|6=>25|15=>56|14=>55|28=>100|29=>101|20=>92|21=>93|22=>94|23=>95|24=>96|25=>97|26=>98|27=>99|46=>131|47=>132|48=>133|49=>134|50=>135|57=>161|n=>n,fun|22=>23|24=>37|25=>64|3=>3|39=>101|0=>0|53=>142|55=>144|4=>4|46=>135|45=>134|50=>139|5=>5|9=>9|66=>176|70=>180|76=>193|77=>194|n=>n,fun|n=>n⟩
theorem Tryz.XI:Y1 prog Tryz.YB:={
 mixed:=by kernel_rfl
 f6:=⟨Tryz.f25.name,by decide,func25.trans (congrArg some (by kernel_rfl))⟩
 f14:=⟨f55.name,by decide,func55.trans (congrArg some (by kernel_rfl))⟩
 f15:=func56.trans (congrArg some (by kernel_rfl))
 f20:=⟨f92.name,by decide,func92.trans (congrArg some (by kernel_rfl))⟩
 f21:=⟨f93.name,by decide,func93.trans (congrArg some (by kernel_rfl))⟩
 f22:=⟨f94.name,by decide,func94.trans (congrArg some (by kernel_rfl))⟩
 f23:=⟨f95.name,by decide,func95.trans (congrArg some (by kernel_rfl))⟩
 f24:=⟨f96.name,by decide,func96.trans (congrArg some (by kernel_rfl))⟩
 f25:=⟨f97.name,by decide,func97.trans (congrArg some (by kernel_rfl))⟩
 f26:=⟨f98.name,by decide,func98.trans (congrArg some (by kernel_rfl))⟩
 f27:=⟨f99.name,by decide,func99.trans (congrArg some (by kernel_rfl))⟩
 f28:=func100.trans (congrArg some (by kernel_rfl))
 f29:=func101.trans (congrArg some (by kernel_rfl))
 f46:=⟨f131.name,by decide,func131.trans (congrArg some (by kernel_rfl))⟩
 f47:=func132.trans (congrArg some (by kernel_rfl))
 f48:=func133.trans (congrArg some (by kernel_rfl))
 f49:=⟨f134.name,by decide,func134.trans (congrArg some (by kernel_rfl))⟩
 f50:=⟨f135.name,by decide,func135.trans (congrArg some (by kernel_rfl))⟩
 f57:=⟨f161.name,by decide,func161.trans (congrArg some (by kernel_rfl))⟩
 t0:=underlying0
 a0:=isAgg0
 z0:=sizeOf0
 v0:=zeroValue0
 t3:=underlying3
 a3:=isAgg3
 z3:=sizeOf3
 v3:=zeroValue3
 t4:=underlying4
 a4:=isAgg4
 z4:=sizeOf4
 v4:=zeroValue4
 t5:=underlying5
 a5:=isAgg5
 z5:=sizeOf5
 v5:=zeroValue5
 t9:=underlying9
 a9:=isAgg9
 z9:=sizeOf9
 v9:=zeroValue9
 t22:=underlying23
 a22:=isAgg23
 z22:=sizeOf23
 v22:=zeroValue23
 t25:=underlying64
 a25:=isAgg64
 z25:=sizeOf64
 v25:=zeroValue64
 t39:=underlying101
 a39:=isAgg101
 z39:=sizeOf101
 v39:=zeroValue101
 t45:=underlying134
 a45:=isAgg134
 z45:=sizeOf134
 v45:=zeroValue134
 t46:=underlying135
 a46:=isAgg135
 z46:=sizeOf135
 v46:=zeroValue135
 t50:=underlying139
 a50:=isAgg139
 z50:=sizeOf139
 v50:=zeroValue139
 t53:=underlying142
 a53:=isAgg142
 z53:=sizeOf142
 v53:=zeroValue142
 t55:=underlying144
 a55:=isAgg144
 z55:=sizeOf144
 v55:=zeroValue144
 t66:=underlying176
 a66:=isAgg176
 z66:=sizeOf176
 v66:=zeroValue176
 t70:=underlying180
 a70:=isAgg180
 z70:=sizeOf180
 v70:=zeroValue180
 t76:=underlying193
 a76:=isAgg193
 z76:=sizeOf193
 v76:=zeroValue193
 t77:=underlying194
 a77:=isAgg194
 z77:=sizeOf194
 v77:=zeroValue194 }
def Tryz.ZD:V6:=⟨fun|190=>47|125=>56|258=>77|128=>100|129=>101|302=>112|303=>113|304=>114|305=>115|306=>116|307=>117|308=>66|309=>118|310=>119|333=>156|329=>132|330=>133|334=>157|335=>158|336=>57|344=>169|n=>n,fun|31=>31|9=>9|3=>3|46=>101|0=>0|51=>142|53=>144|4=>4|183=>135|182=>134|131=>139|5=>5|218=>176|222=>180|228=>193|229=>194|n=>n,fun|n=>n⟩
theorem Tryz.PT:Y2 prog Tryz.ZD:={
 mixed:=by kernel_rfl
 f125:=func56.trans (congrArg some (by kernel_rfl))
 f128:=func100.trans (congrArg some (by kernel_rfl))
 f129:=func101.trans (congrArg some (by kernel_rfl))
 f190:=func47.trans (congrArg some (by kernel_rfl))
 f258:=func77.trans (congrArg some (by kernel_rfl))
 f302:=func112.trans (congrArg some (by kernel_rfl))
 f303:=func113.trans (congrArg some (by kernel_rfl))
 f304:=func114.trans (congrArg some (by kernel_rfl))
 f305:=func115.trans (congrArg some (by kernel_rfl))
 f306:=func116.trans (congrArg some (by kernel_rfl))
 f307:=func117.trans (congrArg some (by kernel_rfl))
 f308:=func66.trans (congrArg some (by kernel_rfl))
 f309:=func118.trans (congrArg some (by kernel_rfl))
 f310:=func119.trans (congrArg some (by kernel_rfl))
 f329:=func132.trans (congrArg some (by kernel_rfl))
 f330:=func133.trans (congrArg some (by kernel_rfl))
 f333:=func156.trans (congrArg some (by kernel_rfl))
 f334:=func157.trans (congrArg some (by kernel_rfl))
 f335:=func158.trans (congrArg some (by kernel_rfl))
 f336:=func57.trans (congrArg some (by kernel_rfl))
 f344:=func169.trans (congrArg some (by kernel_rfl))
 t0:=underlying0
 a0:=isAgg0
 z0:=sizeOf0
 v0:=zeroValue0
 t3:=underlying3
 a3:=isAgg3
 z3:=sizeOf3
 v3:=zeroValue3
 t4:=underlying4
 a4:=isAgg4
 z4:=sizeOf4
 v4:=zeroValue4
 t5:=underlying5
 a5:=isAgg5
 z5:=sizeOf5
 v5:=zeroValue5
 t9:=underlying9
 a9:=isAgg9
 z9:=sizeOf9
 v9:=zeroValue9
 t31:=underlying31
 a31:=isAgg31
 z31:=sizeOf31
 v31:=zeroValue31
 t46:=underlying101
 a46:=isAgg101
 z46:=sizeOf101
 v46:=zeroValue101
 t51:=underlying142
 a51:=isAgg142
 z51:=sizeOf142
 v51:=zeroValue142
 t53:=underlying144
 a53:=isAgg144
 z53:=sizeOf144
 v53:=zeroValue144
 t131:=underlying139
 a131:=isAgg139
 z131:=sizeOf139
 v131:=zeroValue139
 t182:=underlying134
 a182:=isAgg134
 z182:=sizeOf134
 v182:=zeroValue134
 t183:=underlying135
 a183:=isAgg135
 z183:=sizeOf135
 v183:=zeroValue135
 t218:=underlying176
 a218:=isAgg176
 z218:=sizeOf176
 v218:=zeroValue176
 t222:=underlying180
 a222:=isAgg180
 z222:=sizeOf180
 v222:=zeroValue180
 t228:=underlying193
 a228:=isAgg193
 z228:=sizeOf193
 v228:=zeroValue193
 t229:=underlying194
 a229:=isAgg194
 z229:=sizeOf194
 v229:=zeroValue194 }
def Tryz.Za:V6:=⟨fun|194=>48|n=>n,fun|31=>31|9=>9|3=>3|4=>4|0=>0|n=>n,fun|n=>n⟩
theorem Tryz.NB:Y3 prog Tryz.Za:={
 mixed:=by kernel_rfl
 f194:=func48.trans (congrArg some (by kernel_rfl))
 t0:=underlying0
 a0:=isAgg0
 z0:=sizeOf0
 v0:=zeroValue0
 t3:=underlying3
 a3:=isAgg3
 z3:=sizeOf3
 v3:=zeroValue3
 t4:=underlying4
 a4:=isAgg4
 z4:=sizeOf4
 v4:=zeroValue4
 t9:=underlying9
 a9:=isAgg9
 z9:=sizeOf9
 v9:=zeroValue9
 t31:=underlying31
 a31:=isAgg31
 z31:=sizeOf31
 v31:=zeroValue31 }
open Go.Shelf Go.RowKit Go.Lib Go.Sort
theorem ZT(a:ByteArray)(w:World):Calls prog 57 #[.string a] w fun e w'=>e=.returned (.bool false)/\w'=w:=by
 go_wp2
 go_ret
 simp_all
def uW(x y:List UInt8):Int:=if x<y then -1 else if x=y then 0 else 1
theorem TU(a b:ByteArray)(w:World):Calls prog 27 #[.string a,.string b] w fun e w'=>e=.returned (.int .i64 (uW a.data.toList b.data.toList))/\w'=w:=by
 obtain⟨r,hr⟩:∃ r,uW a.data.toList b.data.toList=r:=⟨_,rfl⟩;have h1:decide (a.data.toList<b.data.toList)=true->r = -1:=fun h=>by grind[uW]
 have h2:decide (a.data.toList<b.data.toList)=false->(a.data.toList==b.data.toList)=true->r=0:=fun h k=>by grind[uW]
 have h3:decide (a.data.toList<b.data.toList)=false->(a.data.toList==b.data.toList)=false->r=1:=fun h k=>by grind[uW]
 rw[hr]
 go_enter func27,ntmps27
 go_wp2_with (refine(ZT _ _).mono ?_;rintro e w' ⟨rfl,rfl⟩)
 all_goals go_ret
 all_goals refine⟨?_,rfl⟩
 ·rename_i k;rw[bytesLess_eq,Q4,Q4]at k;rw[h1 k];rfl
 ·have k1:X9 a.toList b.toList=false:=by assumption
  have k:(!a.toList==b.toList)=true:=by assumption
  rw[bytesLess_eq,Q4,Q4]at k1;rw[Q4,Q4]at k;rw[h3 k1 (by simpa using k)];rfl
 ·have k1:X9 a.toList b.toList=false:=by assumption
  have k:(!a.toList==b.toList)=false:=by assumption
  rw[bytesLess_eq,Q4,Q4]at k1;rw[Q4,Q4]at k;rw[h2 k1 (by simpa using k)];rfl
theorem Xx(x y:List Value)(a b:ByteArray)(hx:x.length=8)(hy:y.length=8)(ha:x[0]? = some (.string a))(hb:y[0]? = some (.string b))(w:World):
  Calls prog 26 #[.agg x.toArray,.agg y.toArray] w fun e w'=>e=.returned (.int .i64 (uW a.data.toList b.data.toList))/\∃ q os',w'=grow (w.drewN q) os':=by
 match x,hx with
 |[x0,x1,x2,x3,x4,x5,x6,x7],_ =>
 match y,hy with
 |[y0,y1,y2,y3,y4,y5,y6,y7],_ =>
 simp only[List.getElem?_cons_zero,Y4]at ha hb;have hcon:=fun W=>TU a b W
 go_enter func26,ntmps26
 go_wp2_with (refine(hcon _).mono ?_;rintro e w' ⟨rfl,rfl⟩)
 go_ret
 exact⟨rfl,0,_,by rw[alloc_eq_grow,alloc_eq_grow,grow_grow];rfl⟩
