/- A part of the proof. -/
import Derived.Test.YtnmofhngblebiaaGreatDoorS05
import Derived.Maps.RangeRun
import Derived.Shelf.Sort.Plain
import Derived.Shelf.Slices.CompactS
open Option renaming some->So,none->No
open Bool renaming true->Tt,false->Ff
open Nat renaming le_refl->Q0,le_trans->Q1,lt_of_lt_of_le->Q2,ble_eq_true_of_le->Q3,lt_or_ge->Q4,lt_succ_self->Q6,le_succ->J4,add_mul->J6,add_comm->Z8,le_of_ble_eq_true->V0
open Go.Steps renaming one->Q5
open List renaming getElem?_eq_getElem->Q7,not_mem_nil->Q8,getElem?_append_left->Q9,mem_cons->J1,mem_cons_of_mem->J5,length_append->J8,filter_cons->J9,map_congr_left->Z0,flatMap_cons->Z3,map_map->Z6,getElem?_take->Z7,drop_eq_getElem_cons->Z9,eq_nil_of_length_eq_zero->K8,mem_append->V2,count_pos_iff->V3,map_cons->V4,length_cons->V6,perm_iff_count->V7,count_append->V8,count_cons->V9
open Bool renaming eq_false_iff->J3
open Option renaming map_some->Z4,bind_some->Z5
open List.Perm renaming append_left->V1
open Option.some renaming inj->X0
noncomputable section
namespace Go.Ev
variable {A X' al:List Nat}{E E' F:Env}{G:FuncId->Bool}{H:Array Obj}{K:FuncId->AV->St->Nat->Bool}{P:Program}{S S0:Self}{a:Act}{b clock e g i j k m n n0 o r top z:Nat}{c:Option Nat}{c2:Code}{cs l l' p xs ys:List AV}{cv u:Value}{els:List (List AV)}{f:FuncId}{ix x:Operand}{ks:List Frame}{ms:List MapEntry}{q:Nat->Bool}{s1 st st' st1:St}{t t1:Tr AV}{ty:TypeId}{us:List Value}{v v':AV}{w w':World}{α:Type}
mutual
def aE:AV->Bool
 |.bad=>Tt
 |.un=>Tt
 |.b _=>Tt
 |.i _ _=>Tt
 |.s _=>Tt
 |.p _ _=>Ff
 |.pn=>Tt
 |.gp _=>Tt
 |.rp c=>aA c
 |.sl _ _ _ _ _=>Ff
 |.sn=>Tt
 |.rs c _ _=>aA c
 |.m _=>Ff
 |.mn=>Tt
 |.f fn x y=>nT fn&&(aA x&&aA y)
 |.fn0=>Tt
 |.ifc _ v=>aE v
 |.if0=>Tt
 |.ag l=>aA l
 |.tu l=>aA l
 |.c _=>Ff
 |.cn=>Tt
def aA:List AV->Bool
 |[]=>Tt
 |v::l=>aE v&&aA l
end
theorem Qh(h:∀b o,E.imm b=So o->F.imm b=So o){v:Value}(e:E.cell b o=So v):F.cell b o=So v:=by grind[Env.cell]
mutual
theorem Bt{E F:Env}(h:∀b o,E.imm b=So o->F.imm b=So o):∀{v:AV}{u:Value},Conc E v u->aE v=Tt->Conc F v u
 |_,_,.bad v,_=>.bad v
 |_,_,.un,_=>.un
 |_,_,.b x,_=>.b x
 |_,_,.i k n,_=>.i k n
 |_,_,.s bs,_=>.s bs
 |_,_,.p r o B e,k=>by simp[aE]at k
 |_,_,.pn,_=>.pn
 |_,_,.gp g,_=>.gp g
 |_,_,.rp c b o vs e hc,k=>.rp c b o vs (λj v hv=>Qh h (e j v hv)) (rM h hc (by simpa[aE]using k))
 |_,_,.slk r o n z c a hn e,k=>by simp[aE]at k
 |_,_,.slu r o n z c a hn e,k=>by simp[aE]at k
 |_,_,.sn,_=>.sn
 |_,_,.rs c n z q b o vs hn e hc,k=>.rs c n z q b o vs hn (λj v hv=>Qh h (e j v hv)) (rM h hc (by simpa[aE]using k))
 |_,_,.rs0 c z a q,_=>.rs0 c z a q
 |_,_,.m r B e,k=>by simp[aE]at k
 |_,_,.mn,_=>.mn
 |_,_,.f fn x y vx vy hf hx hy,k=>.f fn x y vx vy hf (rM h hx (by simp[aE]at k;grind)) (rM h hy (by simp[aE]at k;grind))
 |_,_,.yi r B e,k=>by simp[aE,nT]at k
 |_,_,.fn0,_=>.fn0
 |_,_,.ifc t v u e,k=>.ifc t v u (Bt h e (by simpa[aE]using k))
 |_,_,.if0,_=>.if0
 |_,_,.ag l vs e,k=>.ag l vs (rM h e (by simpa[aE]using k))
 |_,_,.tu l vs e,k=>.tu l vs (rM h e (by simpa[aE]using k))
 |_,_,.c r B e,k=>by simp[aE]at k
 |_,_,.cn,_=>.cn
theorem rM{E F:Env}(h:∀b o,E.imm b=So o->F.imm b=So o):∀{v:List AV}{u:List Value},aH E v u->aA v=Tt->aH F v u
 |_,_,.nil,_=>.nil
 |_,_,.cons v l u us e t,k=>.cons v l u us (Bt h e (by simp[aA]at k;grind)) (rM h t (by simp[aA]at k;grind))
end
def du(f:AV->Option AV):List AV->Option (List AV)
 |[]=>So []
 |v::l=>match f v with
  |some v'=>match du f l with
   |some l'=>So (v'::l')
   |none=>No
  |none=>No
def IT(X:List Nat)(st:St)(r g:Nat):Bool:=decide (r<st.next)&&decide (g<st.next)&&decide (r∉X)&&decide (g∉X)
def lz(X:List Nat)(st:St)(r:Nat):Option (List AV):=
 match st.ce r with
 |some (l,g,_)=>if IT X st r g=Tt then So l else No
 |none=>No
def gu(X:List Nat):Nat->St->AV->Option AV
 |0,_,_=>No
 |d+1,st,v=>if aE v=Tt then So v else match v with
  |.p r o=>match lz X st r with
   |some l=>match du (gu X d st) (l.drop o)with
    |some c=>So (.rp c)
    |none=>No
   |none=>No
  |.sl r o n z _=>if n=0 then So (.rs [] 0 z) else match lz X st r with
   |some l=>match du (gu X d st) ((l.drop o).take (n*z))with
    |some c=>So (.rs c n z)
    |none=>No
   |none=>No
  |.ag l=>match du (gu X d st) l with
   |some l'=>So (.ag l')
   |none=>No
  |.tu l=>match du (gu X d st) l with
   |some l'=>So (.tu l')
   |none=>No
  |_=>No
theorem abK{f:AV->Option AV}:∀{l l':List AV},du f l=So l'->l'.length=l.length
 |[],l',h=>by cases h;rfl
 |v::l,l',h=>by
  simp[du]at h;cases hv:f v with
  |none=>grind
  |some v'=>
   rw[hv]at h;cases hl:du f l with
   |none=>grind
   |some l2=>rw[hl]at h;cases h;simp[abK hl]
theorem pZ{f:AV->Option AV}{E F:Env}(hf:∀v u v',Conc E v u->f v=So v'->Conc F v' u):∀{l l':List AV}{us:List Value},aH E l us->du f l=So l'->aH F l' us
 |[],l',us,hc,h=>by cases h;cases hc;exact .nil
 |v::l,l',us,hc,h=>by
  simp[du]at h;cases hc with
  |cons _ _ u us h1 h2=>
  cases hv:f v with
  |none=>grind
  |some v'=>
   rw[hv]at h;cases hl:du f l with
   |none=>grind
   |some l2=>rw[hl]at h;cases h;exact .cons _ _ _ _ (hf _ _ _ h1 hv) (pZ hf h2 hl)
theorem CX{X:List Nat}(h:lz X st r=So l):∃g al,st.ce r=So (l,g,al)/\r<st.next/\g<st.next/\r∉X/\g∉X:=by grind[lz,IT]
theorem CY{X:List Nat}(h:st.ce r=So (l,g,al))(h1:r<st.next)(h2:g<st.next)(h3:r∉X)(h4:g∉X):lz X st r=So l:=by grind[lz,IT]
theorem Rj(hr:Rel E H st)(hc:st.ce r=So (l,g,al)){B:eo}(hB:E.phi r=So B):
  ∃vs:List Value,aH E l vs/\∀(top j:Nat) (v:Value),vs[j]? = So v->(jv H top).cell B.b (j+B.d)=So v:=by
 obtain⟨ha,-,-,-⟩:=St.lA hc;have⟨B',hB',cs,t,fz,h1,h2,h3,h4,h5⟩:=hr.rows _ _ ha;grind[Env.cell,jv]
theorem abL{X:List Nat}(hr:Rel E H st)(top:Nat):∀(d:Nat) (v:AV) (u:Value) (v':AV),Conc E v u->gu X d st v=So v'->Conc (jv H top) v' u:=by
 intro d;induction d with
 |zero=>intro v u v' _ h;cases h
 |succ d ih=>
  intro v u v' hc h;unfold gu at h;by_cases hp:aE v=Tt
  ·rw[if_pos hp]at h;cases h;exact Bt (λb o hb=>hr.imm b o hb) hc hp
  ·rw[if_neg hp]at h;cases v<;>simp at h<;>first|(cases h)|skip
   case p r o=>
    cases hl:lz X st r with
    |none=>grind
    |some l=>
     rw[hl]at h;simp only at h;cases hk:du (gu X d st) (l.drop o)with
     |none=>grind
     |some c=>
      rw[hk]at h;cases h;obtain⟨g,al,hce,-⟩:=CX hl;cases hc with
      |p _ _ B hB=>
      have⟨vs,k1,k2⟩:=Rj hr hce hB;refine .rp c B.b (o+B.d) (vs.drop o) (λj v hv=>?_) (pZ ih (k1.drop o) hk);grind
   case sl r o n z c=>
    by_cases hn:n=0
    ·subst hn;cases h;cases hc with
     |slk _ _ _ _ c a _ _=>exact .rs0 _ _ _ _
     |slu _ _ _ _ c a _ _=>exact .rs0 _ _ _ _
    ·rw[if_neg hn]at h;cases hl:lz X st r with
     |none=>grind
     |some l=>
      rw[hl]at h;simp only at h;cases hk:du (gu X d st) ((l.drop o).take (n*z))with
      |none=>grind
      |some c'=>
       obtain⟨g,al,hce,-⟩:=CX hl;have key:∀(B:eo),E.phi r=So B->∀k,n<=k->Conc (jv H top) (.rs c' n z) (.slice (So ⟨B.b,o+B.d,No⟩) n k):=by intro B hB k hnk;have⟨vs,k1,k2⟩:=Rj hr hce hB;refine .rs c' n z k B.b (o+B.d) ((vs.drop o).take (n*z)) hnk (λj v hv=>?_) (pZ ih ((k1.drop o).take (n*z)) hk);grind
       cases hc with
       |slk _ _ _ _ q a hnq hB=>grind
       |slu _ _ _ _ q a hnq hB=>grind
   case ag l=>
    cases hk:du (gu X d st) l with
    |none=>grind
    |some c=>
     rw[hk]at h;cases h;cases hc with
     |ag _ vs e=>exact .ag _ _ (pZ ih e hk)
   case tu l=>
    cases hk:du (gu X d st) l with
    |none=>grind
    |some c=>
     rw[hk]at h;cases h;cases hc with
     |tu _ vs e=>exact .tu _ _ (pZ ih e hk)
theorem jy{f g:AV->Option AV}(hf:∀v v',f v=So v'->g v=So v'):∀{l l':List AV},du f l=So l'->du g l=So l'
 |[],l',h=>h
 |v::l,l',h=>by
  simp[du]at h|-;cases hv:f v with
  |none=>grind
  |some v'=>
   cases hl:du f l with
   |none=>grind
   |some l2=>rw[jy hf hl];grind
theorem yR{X:List Nat}(hce:∀r l,lz X st r=So l->lz X' st' r=So l):∀(d d':Nat),d<=d'->∀(v v':AV),gu X d st v=So v'->gu X' d' st' v=So v':=by
 intro d;induction d with
 |zero=>intro d' _ v v' h;cases h
 |succ d ih=>
  intro d' hd v v' h;obtain⟨d',rfl⟩:∃e,d'=e+1:=⟨d'-1,by omega⟩;have ih':=ih d' (by omega);unfold gu at h|-;by_cases hp:aE v=Tt
  ·grind
  ·rw[if_neg hp]at h|-;cases v<;>simp at h|-<;>first|(cases h)|skip
   case p r o=>
    cases hl:lz X st r with
    |none=>grind
    |some l=>
     rw[hl]at h;rw[hce _ _ hl];simp only at h|-;cases hk:du (gu X d st) (l.drop o)with
     |none=>grind
     |some c=>rw[jy ih' hk];grind
   case sl r o n z c=>
    by_cases hn:n=0
    ·grind
    ·cases hl:lz X st r with
     |none=>grind
     |some l=>
      rw[hl]at h;rw[hce _ _ hl];simp only at h|-;cases hk:du (gu X d st) ((l.drop o).take (n*z))with
      |none=>grind
      |some c=>rw[jy ih' hk];grind
   case ag l=>
    cases hk:du (gu X d st) l with
    |none=>grind
    |some c=>rw[jy ih' hk];grind
   case tu l=>
    cases hk:du (gu X d st) l with
    |none=>grind
    |some c=>rw[jy ih' hk];grind
theorem Vs{X B:List Nat}(k:Kp A B st st')(h1:∀x,x∈A->x∈X)(h2:∀x,x∈B->x∈X)(h:lz X st r=So l):lz X st' r=So l:=by have⟨g,al,hc,r1,g1,r2,g2⟩:=CX h;exact CY (k.ce hc r1 g1 (λhh=>r2 (h1 _ hh)) (λhh=>g2 (h2 _ hh))) (Q2 r1 k.next) (Q2 g1 k.next) r2 g2
theorem Vt{X:List Nat}(hs:∀x,x∈X'->x∈X)(h:lz X st r=So l):lz X' st r=So l:=by grind[CX,CY]
def im(X:List Nat)(st:St)(v v':AV):Prop:=∃d,gu X d st v=So v'
def fY(X:List Nat)(st:St)(l l':List AV):Prop:=∃d,du (gu X d st) l=So l'
section
variable {X B:List Nat}
theorem im.keep(h:im X st v v')(k:Kp A B st st')(h1:∀x,x∈A->x∈X)(h2:∀x,x∈B->x∈X):im X st' v v':=by have⟨d,h⟩:=h;exact⟨d,yR (λr l=>Vs k h1 h2) d d (Q0 _) _ _ h⟩
theorem fY.sub(h:fY X st l l')(hs:∀x,x∈X'->x∈X):fY X' st l l':=by have⟨d,h⟩:=h;exact⟨d,jy (yR (λr l=>Vt hs) d d (Q0 _)) h⟩
theorem im.pure(h:aE v=Tt):im X st v v:=⟨1,by unfold gu;grind⟩
theorem fY.nil:fY X st [] []:=⟨0,rfl⟩
theorem fY.cons(h:im X st v v')(k:fY X st l l'):fY X st (v::l) (v'::l'):=by have⟨d,h⟩:=h;have⟨e,k⟩:=k;refine⟨max d e,?_⟩;simp[du];rw[yR (λr l h=>h) d (max d e) (by omega) _ _ h,jy (yR (λr l h=>h) e (max d e) (by omega)) k]
theorem fY.pure:∀{l:List AV},aA l=Tt->fY X st l l
 |[],_=>.nil
 |v::l,h=>by simp[aA]at h;exact .cons (.pure h.1) (.pure h.2)
theorem im.ag(h:fY X st l l'):im X st (.ag l) (.ag l'):=by
 obtain⟨d,h⟩:=h;refine⟨d+1,?_⟩;unfold gu;by_cases hp:aE (.ag l)=Tt
 ·have e:l'=l:=by
   have hp':aA l=true:=by simpa[aE]using hp
   clear hp
   revert l'
   induction l with
   |nil=>intro l' h;cases h;rfl
   |cons v l ih=>
    intro l' h;simp[aA]at hp';simp[du]at h;cases d with
    |zero=>simp[gu]at h
    |succ d=>
    have:gu X (d+1) st v=So v:=by unfold gu;grind
    grind
  grind
 grind
theorem im.ptr(hc:st.ce r=So (l,g,al))(h1:r<st.next)(h2:g<st.next)(h3:r∉X)(h4:g∉X)(h:fY X st l l'):im X st (.p r 0) (.rp l'):=by have⟨d,h⟩:=h;refine⟨d+1,?_⟩;unfold gu;rw[if_neg (by simp[aE])];simp[CY hc h1 h2 h3 h4,h]
theorem im.slice(hc:st.ce r=So (l,g,al))(hl:n*z=l.length)(h1:r<st.next)(h2:g<st.next)(h3:r∉X)(h4:g∉X)(h:fY X st l l')(hn:n≠0):im X st (.sl r 0 n z c) (.rs l' n z):=by have⟨d,h⟩:=h;refine⟨d+1,?_⟩;unfold gu;rw[if_neg (by simp[aE])];simp[if_neg hn,CY hc h1 h2 h3 h4,hl,h]
theorem im.rY:im X st (.sl r o 0 z c) (.rs [] 0 z):=⟨1,by grind[gu,aE]⟩
end
open Classical in
def yQ(st:St)(xs:List AV):Option (List AV):=if h:∃ys,fY [] st xs ys then So h.choose else No
theorem abJ(h:yQ st xs=So ys):fY [] st xs ys:=by
 unfold yQ at h;split at h
 ·rename_i hh;cases h;exact hh.choose_spec
 ·cases h
theorem fY.uniq{X:List Nat}{a b:List AV}(h:fY X st l a)(k:fY X st l b):a=b:=by have⟨d,h⟩:=h;have⟨e,k⟩:=k;have h':=jy (yR (X:=X) (λr l h=>h) d (max d e) (by omega)) h;have k':=jy (yR (X:=X) (λr l h=>h) e (max d e) (by omega)) k;grind
theorem QP{X:List Nat}(h:fY X st xs ys):yQ st xs=So ys:=by have h':fY [] st xs ys:=h.sub (by simp);unfold yQ;have hh:∃ys,fY [] st xs ys:=⟨ys,h'⟩;rw[dif_pos hh];exact congrArg So (hh.choose_spec.uniq h')
def tJ:AV->Bool
 |.b _=>Tt
 |.i _ _=>Tt
 |.s _=>Tt
 |_=>Ff
theorem aa9(h:Conc E v u)(hp:tJ v=Tt):Conc F v u:=by cases h<;>first|(cases hp;done)|constructor
def uN(S0 S:Self)(f:FuncId)(xs:List AV)(st:St):aD :=
 match yQ st xs with
 |some ys=>match S0.call f ys ay with
  |some (v,_)=>if tJ v=Tt then So (v,st) else S.call f xs st
  |none=>S.call f xs st
 |none=>S.call f xs st
def eT(G:FuncId->Bool)(S0 S:Self):Self:=⟨λf xs st=>if G f=Tt then uN S0 S f xs st else S.call f xs st,S.code,S.dcall⟩
def Mj(G:FuncId->Bool)(S:Self):Self:=eT G S S
theorem CQ{X:List Nat}(hG:G f=Tt)(hx:fY X st xs ys)(hc:S0.call f ys ay=So (v,s1))(hv:tJ v=Tt):(eT G S0 S).call f xs st=So (v,st):=by
 show(if G f=Tt then uN S0 S f xs st else S.call f xs st)=_
 unfold uN;rw[QP hx];grind
theorem iY(hG:G f=Ff):(eT G S0 S).call f xs st=S.call f xs st:=by
 show(if G f=Tt then uN S0 S f xs st else S.call f xs st)=_
 grind
theorem GX(S0 S:Self)(hS0:bK P S0)(hS:bK P S):bK P (eT G S0 S):=by
 refine⟨hS.ng,hS.mixed,⟨λf xs st=>?_,hS.up.code,hS.up.dcall⟩,λ{ks E w st st' f xs us v} hr hc h hn=>?_,λ{ks E w st nt c t a b} k hb hr ht hm hl=>hS.code k hb hr ht hm hl,hS.dcall⟩
 ·unfold eT;simp only;split
  ·unfold uN;split
   ·split
    ·split
     ·exact fp
     ·exact hS.up.call f xs st
    ·exact hS.up.call f xs st
   ·exact hS.up.call f xs st
  ·exact hS.up.call f xs st
 ·unfold eT at h;simp only at h;split at h
  case isFalse=>exact hS.call hr hc h hn
  unfold uN at h;cases hx:yQ st xs with
  |none=>rw[hx]at h;exact hS.call hr hc h hn
  |some ys=>
   rw[hx]at h;simp only at h;cases hv:S0.call f ys ay with
   |none=>rw[hv]at h;exact hS.call hr hc h hn
   |some p=>
    obtain⟨v1,s1⟩:=p;rw[hv]at h;simp only at h;by_cases hp:tJ v1=Tt
    ·rw[if_pos hp]at h;cases h;obtain⟨d,hd⟩:=abJ hx;have hc':aH (jv w.heap s1.next) ys us:=pZ (λv u v' h1 h2=>abL hr s1.next d v u v' h1 h2) hc hd;obtain⟨E',w',cv,h1,h2,h3⟩:=hS0.call (Og w.heap s1.next) hc' hv (Q0 _);refine⟨E,w',cv,h1,⟨Step.grow hr h2.fr.size (λi hi=>h2.fr.keep i hi ?_),h2.os,h2.out⟩,aa9 h3 hp⟩;rintro⟨r,row,B,ha,_,_⟩;have:=Rel.kZ ha;rw[qf]at this;grind
    ·rw[if_neg hp]at h;exact hS.call hr hc h hn
theorem Vf(S:Self)(hS:bK P S):bK P (Mj G S):=GX S S hS hS
abbrev ae:=List Nat
def fo:AV->ae
 |.s l=>l
 |_=>[]
def intOf:AV->Int
 |.i _ n=>n
 |_=>0
def aL:AV->List ae
 |.rs c _ _=>c.map fo
 |_=>[]
def nh(v:AV):Prop:=∃l:List ae,cz v (l.map .s)/\l.length<=9223372036854775807
theorem Sr{l:List ae}(h:cz v (l.map .s)):aL v=l:=by
 rcases h with ⟨rfl,h⟩|h
 ·have:l=[]:=by simp_all
  rw[this];rfl
 ·rw[h];show(l.map AV.s).map fo=l
  rw[Z6];exact List.map_id'' (λ_=>rfl) l
theorem nh.sl(h:nh v):cz v ((aL v).map .s)/\(aL v).length<=9223372036854775807:=by have⟨l,h1,h2⟩:=h;rw[Sr h1];grind
theorem kR:∀l:List ae,aA (l.map .s)=Tt
 |[]=>rfl
 |s::l=>by simp[aA,aE,kR l]
theorem vF:∀{l m:List AV},aA (l++m)=(aA l&&aA m)
 |[],m=>by simp[aA]
 |v::l,m=>by simp[aA,vF,Bool.and_assoc]
theorem QH:∀{l:List AV}{n:Nat},aA l=Tt->aA (l.drop n)=Tt
 |[],n,h=>by grind
 |v::l,0,h=>h
 |v::l,n+1,h=>by simp[aA]at h;simpa using QH h.2
theorem cz.pure(h:cz v l)(hl:aA l=Tt):aE v=true:=by
 rcases h with ⟨rfl,-⟩|rfl
 ·rfl
 ·simpa[aE]using hl
theorem nh.pure{v:AV}(h:nh v):aE v=true:=h.sl.1.pure (kR _)
def jw:Nat->List AV->Prop
 |0,p=>p=[]
 |1,p=>∃s:ae,p=[.s s]
 |_,p=>∃(k:Int) (n:ae) (m:Int) (vs:AV),p=[.i .i64 k,.s n,.i .i64 m,vs]/\nh vs
def fH:Nat->Nat
 |0=>0
 |1=>1
 |_=>4
theorem jw.len(h:jw m p):p.length=fH m:=by unfold jw at h;grind[fH]
theorem jw.sc(h:jw m p):bH p=true:=by
 unfold jw at h;split at h
 ·simp_all
 ·obtain⟨s,rfl⟩:=h;rfl
 ·obtain⟨k,n,m',vs,rfl,hv⟩:=h;have:bR vs=true:=by
   rcases hv.sl.1 with ⟨h,-⟩|h<;>rw[h]<;>rfl
  simp_all
theorem jw.pure{m:Nat}{p:List AV}(h:jw m p):aA p=true:=by
 unfold jw at h;split at h
 ·rw[h];rfl
 ·obtain⟨s,rfl⟩:=h;rfl
 ·obtain⟨k,n,m',vs,rfl,hv⟩:=h;simp[aA,aE,hv.pure]
mutual
def Ex.Ty:Ex->Prop
 |.mk k _ _ ps b a l=>(-9223372036854775808<=k/\k<=9223372036854775807)/\nh ps/\b.Ty 1/\a.Ty 0/\l.Ty 4
def aa.Ty:aa->Nat->Prop
 |.nil _,_=>True
 |.cons p x l,m=>jw m p/\x.Ty/\l.Ty m
end
theorem aa.dC:∀{l:aa}{m:Nat},l.Ty m->∀p∈l.list,jw m p.1/\p.2.Ty
 |.nil _,_,_,p,hp=>by simp[aa.list]at hp
 |.cons q x l,m,h,p,hp=>by
  rcases J1.1 hp with rfl|hp
  ·exact⟨h.1,h.2.1⟩
  ·exact aa.dC h.2.2 p hp
theorem aa.Ty.pre{l:aa}{m:Nat}(h:l.Ty m):l.pre (fH m):=λp hp=>(aa.dC h p hp).1.len
mutual
theorem Ex.Ty.wf:∀{x:Ex},x.Ty->x.Wf
 |.mk k nm num ps b a l,h=>by refine⟨h.1,⟨h.2.2.1.pre,h.2.2.2.1.pre,h.2.2.2.2.pre⟩,⟨aa.Ty.wf h.2.2.1,aa.Ty.wf h.2.2.2.1,aa.Ty.wf h.2.2.2.2⟩,?_⟩;rcases h.2.1.sl.1 with ⟨h,-⟩|h<;>rw[h]<;>rfl
theorem aa.Ty.wf:∀{l:aa}{m:Nat},l.Ty m->l.Wf
 |.nil _,_,_=>by simp[aa.Wf]
 |.cons p x l,m,h=>by exact⟨⟨Ex.Ty.wf h.2.1,h.1.sc⟩,aa.Ty.wf h.2.2⟩
end
mutual
theorem Ex.Aa:∀{x:Ex},x.Ty->aA x.cells=Tt
 |.mk k nm num ps b a l,h=>by simp[Ex.cells,aA,aE,h.2.1.pure,aa.tQ h.2.2.1 8,aa.tQ h.2.2.2.1 7,aa.tQ h.2.2.2.2 11]
theorem aa.Au:∀{l:aa}{m:Nat},l.Ty m->aA l.flat=Tt
 |.nil _,_,_=>by simp[aa.flat,aA]
 |.cons p x l,m,h=>by simp[aa.flat,vF,h.1.pure,Ex.Aa h.2.1,aa.Au h.2.2]
theorem aa.tQ:∀{l:aa}{m:Nat},l.Ty m->∀z,aE (l.slice z)=Tt
 |.nil f,_,_,z=>by cases f<;>simp[aa.slice,aE,aA]
 |.cons p x l,m,h,z=>by simp[aa.slice,aE,vF,h.1.pure,Ex.Aa h.2.1,aa.Au h.2.2]
end
def named(s:ae):Bool:=decide (1<=s.length)&&(decide (s.length<=65536)&&s.all λc=>decide (33<=c)&&decide (c<=126))
def ez(l:List ae):Bool:=l.all named&&decide l.Nodup
def eD(p:List AV×Ex):ae:=fo (p.1.headD .un)
def aa.names(l:aa):List ae:=l.list.map eD
structure dh where
 k:Int
 n:ae
 m:Int
 vs:List ae
def aM(p:List AV×Ex):dh:=⟨intOf (p.1.getD 0 .un),fo (p.1.getD 1 .un),intOf (p.1.getD 2 .un),aL (p.1.getD 3 .un)⟩
def aa.bB(l:aa):List dh:=l.list.map aM
def vL(q:Nat->Bool):Nat->Tr (List Nat)->Tr (List Nat)
 |0,t=>t
 |k+1,t=>match q k with|true=>(vL q k t).set k No|false=>vL q k t
theorem BK(q:Nat->Bool)(g:Nat):∀(k:Nat) (t:Tr (List Nat)),(vL q k t).get g=if g<k/\q g=Tt then No else t.get g
 |0,t=>by rfl
 |k+1,t=>by
  unfold vL;cases hk:q k with
  |true=>rw[Tr.cW,BK q g k t];grind
  |false=>rw[BK q g k t];grind
def St.fT(st:St)(q:Nat->Bool):St:=⟨st.rows,vL q st.next st.live,st.next⟩
def St.shut(st:St)(n:Nat):St:=st.fT (Nat.ble n)
theorem aci(st:St)(n r:Nat):(st.shut n).get r=st.get r:=rfl
theorem RF(st:St)(q:Nat->Bool)(r:Nat):(st.fT q).get r=st.get r:=rfl
theorem Fs(h:(st.fT q).live.get g=So al):st.live.get g=So al:=by have:(vL q st.next st.live).get g=So al:=h;rw[BK]at this;grind
theorem Fq(h:q g=Ff):(st.fT q).live.get g=st.live.get g:=by
 show(vL q st.next st.live).get g=_
 rw[BK,if_neg (λhh=>by grind)]
theorem UF(h:g<n):Nat.ble n g=false:=by simp_all[J3]
theorem RG(h:g<n):(st.shut n).live.get g=st.live.get g:=Fq (UF h)
theorem acj(hr:Rel E H st)(h:q g=Tt):(st.fT q).live.get g=none:=by
 show(vL q st.next st.live).get g=_
 rw[BK];split
 ·rfl
 ·exact hr.freshG g (by grind)
theorem BL{w:Row}(h:(st.fT q).alive r=So w):st.alive r=So w:=by grind[St.alive,RF,Fs]
def uo(E:Env)(st:St)(q:Nat->Bool)(b:Nat):Prop:=∃r l g B,st.alive r=So (.ce l g)/\q g=Tt/\E.phi r=So B/\B.b=b
open Classical in
def re(E:Env)(H:Array Obj)(st:St)(q:Nat->Bool):Env:=⟨λb=>if uo E st q b then H[b]? else E.imm b,E.phi,E.top⟩
theorem XM(h:Rel E H st)(hb:uo E st q b):E.imm b=none:=by obtain⟨r,l,g,B,ha,-,hB,rfl⟩:=hb;exact h.own _ _ _ ha hB
open Classical in
theorem NN(h:Rel E H st):E.le (re E H st q):=by
 refine⟨λb o hb=>?_,λ_ _ h=>h⟩;show(if uo E st q b then H[b]? else E.imm b)=So o
 grind[XM]
open Classical in
theorem NO(h:Rel E H st)(hi:E.imm b=No)(hf:¬uo E st q b):(re E H st q).imm b=none:=by
 show(if uo E st q b then H[b]? else E.imm b)=No
 grind
open Classical in
theorem Step.mN(h:Rel E H st)(q:Nat->Bool):Step E (re E H st q) H H st (st.fT q):=by
 have hle:=NN (q:=q) h;refine⟨hle,λb _ ho hi=>NO h hi λhf=>?_,rfl,⟨λb o hb=>?_,h.fresh,h.freshRow,λg hg=>?_,λg al x hg hx=>h.liveLt g al x (Fs hg) hx,λr row hr=>?_,λr row B hr hB=>?_,
  λr r' row row' B B' hr hr' hB hB' hb=>h.sep r r' row row' B B' (BL hr) (BL hr') hB hB' hb,λg al hg=>?_,λr t r0 x hx=>(h.tys r t r0 x hx).mono hle (dZ.refl H)⟩,Q0 _,λ_ _ _=>rfl,?_⟩
 ·obtain⟨r,l,g,B,ha,-,hB,rfl⟩:=hf;exact ho ⟨r,_,B,ha,hB,rfl⟩
 ·have hb:(if uo E st q b then H[b]? else E.imm b)=So o:=hb;by_cases hf:uo E st q b
  ·grind
  ·rw[if_neg hf]at hb;exact h.imm b o hb
 ·cases hq:(st.fT q).live.get g with
  |none=>rfl
  |some al=>have:=Fs hq;rw[h.freshG g hg]at this;grind
 ·have⟨B,hB,hR⟩:=h.rows r row (BL hr);exact⟨B,hB,hR.mono hle rfl⟩
 ·have hr':=BL hr;refine NO h (h.own r row B hr' hB) ?_;rintro⟨x,l,g,C,hx,hg,hC,hb⟩;have key:∀l',row=.ce l' g->False:=by
   grind[St.alive,acj]
  rcases h.sep x r _ row C B hx hr' hC hB hb with rfl|⟨g',l1,l2,h1,h2⟩
  ·rw[hx]at hr';exact key l (X0 hr').symm
  ·cases h1;exact key _ h2
 ·exact(h.ends g al (Fs hg)).imp λhxy=>hxy
 ·rintro b ⟨r,row,B,hr,hB,rfl⟩;exact .inr ⟨r,row,B,BL hr,hB,rfl⟩
def oA(q:Nat->Bool)(st:St)(r:Nat):Option (List AV):=
 match st.ce r with
 |some (l,g,_)=>if q g=Tt then So l else No
 |none=>No
def fk(q:Nat->Bool):Nat->St->AV->Option AV
 |0,_,_=>No
 |d+1,st,v=>if aE v=Tt then So v else match v with
  |.p r o=>match oA q st r with
   |some l=>match du (fk q d st) (l.drop o)with
    |some c=>So (.rp c)
    |none=>No
   |none=>So (.p r o)
  |.sl r o m z c=>if m=0 then So (.rs [] 0 z) else match oA q st r with
   |some l=>match du (fk q d st) ((l.drop o).take (m*z))with
    |some c=>So (.rs c m z)
    |none=>No
   |none=>So (.sl r o m z c)
  |.ag l=>match du (fk q d st) l with
   |some l'=>So (.ag l')
   |none=>No
  |.tu l=>match du (fk q d st) l with
   |some l'=>So (.tu l')
   |none=>No
  |v=>So v
theorem Mq(h:oA q st r=So l):∃g al,st.ce r=So (l,g,al)/\q g=true:=by grind[oA]
theorem Ha(h:st.ce r=So (l,g,al))(hg:q g=Tt):oA q st r=So l:=by unfold oA;grind
theorem NL(hr:Rel E H st)(hc:st.ce r=So (l,g,al))(hg:q g=Tt){B:eo}(hB:E.phi r=So B):
  ∃vs:List Value,aH E l vs/\∀(j:Nat) (v:Value),vs[j]? = So v->(re E H st q).cell B.b (j+B.d)=So v:=by
 obtain⟨ha,-,-,-⟩:=St.lA hc;have⟨B',hB',cs,t,fz,h1,h2,h3,h4,h5⟩:=hr.rows _ _ ha;refine⟨_,h5,λj v hj=>?_⟩;have hf:uo E st q B.b:=⟨r,l,g,B,ha,hg,hB,rfl⟩;simp_all[re,Env.cell,Z7,Z8]
theorem BA(hr:Rel E H st):∀(d:Nat) (v:AV) (u:Value) (v':AV),Conc E v u->fk q d st v=So v'->Conc (re E H st q) v' u:=by
 have hle:=NN (q:=q) hr;intro d;induction d with
 |zero=>intro v u v' _ h;cases h
 |succ d ih=>
  intro v u v' hc h;unfold fk at h;by_cases hp:aE v=Tt
  ·rw[if_pos hp]at h;cases h;exact hc.mono hle
  ·rw[if_neg hp]at h;cases v<;>simp at h<;>first|(cases h;exact hc.mono hle)|skip
   case p r o=>
    cases hl:oA q st r with
    |none=>rw[hl]at h;cases h;exact hc.mono hle
    |some l=>
     rw[hl]at h;simp only at h;cases hk:du (fk q d st) (l.drop o)with
     |none=>grind
     |some c=>
      rw[hk]at h;cases h;have⟨g,al,hce,hg⟩:=Mq hl;cases hc with
      |p _ _ B hB=>
      have⟨vs,k1,k2⟩:=NL hr hce hg hB;refine .rp c B.b (o+B.d) (vs.drop o) (λj v hv=>?_) (pZ ih (k1.drop o) hk);grind
   case sl r o m z c=>
    by_cases hn:m=0
    ·subst hn;cases h;cases hc with
     |slk _ _ _ _ c a _ _=>exact .rs0 _ _ _ _
     |slu _ _ _ _ c a _ _=>exact .rs0 _ _ _ _
    ·rw[if_neg hn]at h;cases hl:oA q st r with
     |none=>rw[hl]at h;cases h;exact hc.mono hle
     |some l=>
      cases hk:du (fk q d st) ((l.drop o).take (m*z))with
      |none=>grind
      |some c'=>
       have⟨g,al,hce,hg⟩:=Mq hl;have key:∀(B:eo),E.phi r=So B->∀k,m<=k->Conc (re E H st q) (.rs c' m z) (.slice (So ⟨B.b,o+B.d,No⟩) m k):=by intro B hB k hnk;have⟨vs,k1,k2⟩:=NL hr hce hg hB;refine .rs c' m z k B.b (o+B.d) ((vs.drop o).take (m*z)) hnk (λj v hv=>?_) (pZ ih ((k1.drop o).take (m*z)) hk);grind
       cases hc with
       |slk _ _ _ _ q a hnq hB=>grind
       |slu _ _ _ _ q a hnq hB=>grind
   case ag l=>
    cases hk:du (fk q d st) l with
    |none=>grind
    |some c=>
     rw[hk]at h;cases h;cases hc with
     |ag _ vs e=>exact .ag _ _ (pZ ih e hk)
   case tu l=>
    cases hk:du (fk q d st) l with
    |none=>grind
    |some c=>
     rw[hk]at h;cases h;cases hc with
     |tu _ vs e=>exact .tu _ _ (pZ ih e hk)
theorem rQ:∀(d d':Nat),d<=d'->∀(v v':AV),fk q d st v=So v'->fk q d' st v=So v':=by
 intro d;induction d with
 |zero=>intro d' _ v v' h;cases h
 |succ d ih=>
  intro d' hd v v' h;obtain⟨d',rfl⟩:∃e,d'=e+1:=⟨d'-1,by omega⟩;have ih':=ih d' (by omega);unfold fk at h|-;by_cases hp:aE v=Tt
  ·grind
  ·cases v<;>simp at h|-<;>first|(exact h)|skip
   case p r o=>
    cases hl:oA q st r with
    |none=>grind
    |some l=>
     rw[hl]at h;simp only at h|-;cases hk:du (fk q d st) (l.drop o)with
     |none=>grind
     |some c=>rw[jy ih' hk];grind
   case sl r o m z c=>
    by_cases hn:m=0
    ·grind
    ·cases hl:oA q st r with
     |none=>grind
     |some l=>
      rw[hl]at h;simp only at h|-;cases hk:du (fk q d st) ((l.drop o).take (m*z))with
      |none=>grind
      |some c=>rw[jy ih' hk];grind
   case ag l=>
    cases hk:du (fk q d st) l with
    |none=>grind
    |some c=>rw[jy ih' hk];grind
   case tu l=>
    cases hk:du (fk q d st) l with
    |none=>grind
    |some c=>rw[jy ih' hk];grind
def di(q:Nat->Bool)(st:St)(v v':AV):Prop:=∃d,fk q d st v=So v'
def da(q:Nat->Bool)(st:St)(l l':List AV):Prop:=∃d,du (fk q d st) l=So l'
theorem di.uniq{a b:AV}(h:di q st v a)(k:di q st v b):a=b:=by have⟨d,h⟩:=h;have⟨e,k⟩:=k;have h':=rQ d (max d e) (by omega) _ _ h;have k':=rQ e (max d e) (by omega) _ _ k;grind
theorem di.pure(h:aE v=Tt):di q st v v:=⟨1,by unfold fk;grind⟩
theorem di.map(r:Nat):di q st (.m r) (.m r):=⟨1,by grind[fk]⟩
theorem da.nil:da q st [] []:=⟨0,rfl⟩
theorem da.cons(h:di q st v v')(k:da q st l l'):da q st (v::l) (v'::l'):=by have⟨d,h⟩:=h;have⟨e,k⟩:=k;refine⟨max d e,?_⟩;simp[du];rw[rQ d (max d e) (by omega) _ _ h,jy (rQ e (max d e) (by omega)) k]
theorem da.pure:∀{l:List AV},aA l=Tt->da q st l l
 |[],_=>.nil
 |v::l,h=>by simp[aA]at h;exact .cons (.pure h.1) (.pure h.2)
theorem da.same(hp:aA l=Tt)(h:da q st l l'):l'=l:=by have⟨d,h⟩:=h;have⟨e,k⟩:=da.pure (q:=q) (st:=st) hp;have h':=jy (rQ d (max d e) (by omega)) h;have k':=jy (rQ e (max d e) (by omega)) k;grind
theorem di.ag(h:da q st l l'):di q st (.ag l) (.ag l'):=by
 have⟨d,h⟩:=h;refine⟨d+1,?_⟩;unfold fk;by_cases hp:aE (.ag l)=Tt
 ·rw[if_pos hp,da.same (by simpa[aE]using hp) ⟨d,h⟩]
 grind
theorem di.tu(h:da q st l l'):di q st (.tu l) (.tu l'):=by
 have⟨d,h⟩:=h;refine⟨d+1,?_⟩;unfold fk;by_cases hp:aE (.tu l)=Tt
 ·rw[if_pos hp,da.same (by simpa[aE]using hp) ⟨d,h⟩]
 grind
theorem di.ptr(hc:st.ce r=So (l,g,al))(hg:q g=Tt)(h:da q st l l'):di q st (.p r 0) (.rp l'):=by have⟨d,h⟩:=h;refine⟨d+1,?_⟩;unfold fk;rw[if_neg (by simp[aE])];simp[Ha hc hg,h]
theorem di.slice(hc:st.ce r=So (l,g,al))(hl:m*z=l.length)(hg:q g=Tt)(h:da q st l l')(hn:m≠0):di q st (.sl r 0 m z c) (.rs l' m z):=by have⟨d,h⟩:=h;refine⟨d+1,?_⟩;unfold fk;rw[if_neg (by simp[aE])];simp[if_neg hn,Ha hc hg,hl,h]
theorem di.rY:di q st (.sl r o 0 z c) (.rs [] 0 z):=⟨1,by grind[fk,aE]⟩
abbrev Fz(n:Nat)(st:St)(v v':AV):Prop:=di (Nat.ble n) st v v'
abbrev fV(n:Nat)(st:St)(l l':List AV):Prop:=da (Nat.ble n) st l l'
theorem Fz.ptr{n:Nat}{st:St}{l l':List AV}{r g:Nat}{al:List Nat}(hc:st.ce r=So (l,g,al))(hg:n<=g)(h:fV n st l l'):Fz n st (.p r 0) (.rp l'):=di.ptr hc (Q3 hg) h
theorem Fz.slice{n:Nat}{st:St}{l l':List AV}{r g m z:Nat}{c:Option Nat}{al:List Nat}(hc:st.ce r=So (l,g,al))(hl:m*z=l.length)(hg:n<=g)(h:fV n st l l')(hn:m≠0):Fz n st (.sl r 0 m z c) (.rs l' m z):=di.slice hc hl (Q3 hg) h hn
theorem Fz.pure{n:Nat}{st:St}{v:AV}(h:aE v=Tt):Fz n st v v:=di.pure h
theorem Fz.map{n:Nat}{st:St}(r:Nat):Fz n st (.m r) (.m r):=di.map r
theorem Fz.ag{n:Nat}{st:St}{l l':List AV}(h:fV n st l l'):Fz n st (.ag l) (.ag l'):=di.ag h
theorem Fz.tu{n:Nat}{st:St}{l l':List AV}(h:fV n st l l'):Fz n st (.tu l) (.tu l'):=di.tu h
theorem Fz.rY{n:Nat}{st:St}{r o z:Nat}{c:Option Nat}:Fz n st (.sl r o 0 z c) (.rs [] 0 z):=di.rY
theorem fV.nil{n:Nat}{st:St}:fV n st [] []:=da.nil
theorem fV.cons{n:Nat}{st:St}{v v':AV}{l l':List AV}(h:Fz n st v v')(k:fV n st l l'):fV n st (v::l) (v'::l'):=da.cons h k
theorem fV.same{n:Nat}{st:St}{l l':List AV}(hp:aA l=Tt)(h:fV n st l l'):l'=l:=da.same hp h
theorem fV.pure{n:Nat}{st:St}{l:List AV}(h:aA l=Tt):fV n st l l:=da.pure h
open Classical in
def ym(p:AV->St->Nat->Bool):aD->aD
 |some (v,st)=>if h:∃v',di (p v st) st v v' then So (h.choose,st.fT (p v st)) else So (v,st)
 |none=>No
def mO(K:FuncId->AV->St->Nat->Bool)(f:FuncId)(n:Nat)(v:AV)(st:St)(g:Nat):Bool:=Nat.ble n g&&K f v st g
def mN(G:FuncId->Bool)(K:FuncId->AV->St->Nat->Bool)(S:Self):Self:=⟨λf xs st=>if G f=Tt then ym (mO K f st.next) (S.call f xs st) else S.call f xs st,S.code,S.dcall⟩
open Classical in
theorem NJ{p:AV->St->Nat->Bool}(h:di (p v st) st v v'):ym p (So (v,st))=So (v',st.fT (p v st)):=by
 have hh:∃v',di (p v st) st v v':=⟨v',h⟩;show(if h:∃v',di (p v st) st v v' then So (h.choose,st.fT (p v st)) else So (v,st))=_
 rw[dif_pos hh,hh.choose_spec.uniq h]
open Classical in
theorem NK{p:AV->St->Nat->Bool}{r:aD}(h:ym p r=So (v,st)):∃v1 st1,r=So (v1,st1)/\((∃q,di q st1 v1 v/\st=st1.fT q)\/(v1=v/\st1=st)):=by
 cases r with
 |none=>cases h
 |some x=>
  have⟨v1,st1⟩:=x;by_cases hh:∃v',di (p v1 st1) st1 v1 v'
  ·have⟨v',hv⟩:=hh;rw[NJ hv]at h;grind
  ·have:(if h:∃v',di (p v1 st1) st1 v1 v' then So (h.choose,st1.fT (p v1 st1)) else So (v1,st1))=So (v,st):=h;grind
theorem NM(hG:G f=Tt)(hc:S.call f xs st=So (v,s1))(hv:di (mO K f st.next v s1) s1 v v'):(mN G K S).call f xs st=So (v',s1.fT (mO K f st.next v s1)):=by
 show(if G f=Tt then ym (mO K f st.next) (S.call f xs st) else S.call f xs st)=_
 rw[if_pos hG,hc,NJ hv]
theorem XL(hG:G f=Tt)(hK:∀v s g,K f v s g=Tt)(hc:S.call f xs st=So (v,s1))(hv:Fz st.next s1 v v'):(mN G K S).call f xs st=So (v',s1.shut st.next):=by
 have e:mO K f st.next v s1=Nat.ble st.next:=by grind[mO]
 have:=NM hG hc (by rw[e];omega);rw[e]at this;exact this
theorem yn(hG:G f=Ff):(mN G K S).call f xs st=S.call f xs st:=by
 show(if G f=Tt then ym (mO K f st.next) (S.call f xs st) else S.call f xs st)=_
 grind
theorem XN(S:Self)(hS:bK P S):bK P (mN G K S):=by
 refine⟨hS.ng,hS.mixed,⟨λf xs st=>?_,hS.up.code,hS.up.dcall⟩,λ{ks E w st st' f xs us v} hr hc h hn=>?_,λ{ks E w st nt c t a b} k hb hr ht hm hl=>hS.code k hb hr ht hm hl,hS.dcall⟩
 ·unfold mN;simp only;split
  ·intro v s h;obtain⟨v1,s1,h1,h2⟩:=NK h;have:=hS.up.call f xs st _ _ h1;rcases h2 with ⟨q,-,rfl⟩|⟨-,rfl⟩<;>exact this
  ·exact hS.up.call f xs st
 ·have h:(if G f=Tt then ym (mO K f st.next) (S.call f xs st) else S.call f xs st)=So (v,st'):=h;split at h
  case isFalse=>exact hS.call hr hc h hn
  obtain⟨v1,s1,h1,h2⟩:=NK h;rcases h2 with ⟨q,⟨d,hd⟩,rfl⟩|⟨rfl,rfl⟩
  ·obtain⟨E',w',cv,k1,k2,k3⟩:=hS.call hr hc h1 hn;have s:=Step.mN k2.rel q;exact⟨_,w',cv,k1,⟨k2.toStep.trans s,k2.os,k2.out⟩,BA k2.rel d _ _ _ k3 hd⟩
  ·exact hS.call hr hc h1 hn
theorem Kp.fT{A B:List Nat}{st st':St}(k:Kp A B st st'){q:Nat->Bool}(h:∀g,g<st.next->q g=Ff):Kp A B st (st'.fT q):=
 ⟨k.next,λr h1 h2=>k.get r h1 h2,λg h1 h2=>by rw[Fq (h g h1)];exact k.live g h1 h2⟩
theorem Kp.shut{A B:List Nat}{st st':St}(k:Kp A B st st'){n:Nat}(h:st.next<=n):Kp A B st (st'.shut n):=
 ⟨k.next,λr h1 h2=>k.get r h1 h2,λg h1 h2=>by rw[RG (Q2 h1 h)];exact k.live g h1 h2⟩
theorem QI(hr:Rel E H st)(top:Nat):Rel ⟨E.imm,λ_=>No,top⟩ H ay:=by
 refine⟨hr.imm,λ_ _ _=>rfl,λr _=>qf r,λg _=>Tr.vm g,λg al x h=>?_,λr row h=>?_,λr row B h=>?_,λr r' row row' B B' h=>?_,λg al h=>?_,λr t r0 x h=>?_⟩
 ·rw[show ay.live.get g=No from Tr.vm g]at h;grind
 ·have:=Rel.kZ h;rw[qf]at this;grind
 ·grind
 ·grind
 ·rw[show ay.live.get g=No from Tr.vm g]at h;grind
 ·rw[qf]at h;grind
open Classical in
def xd(S0 S:Self)(f:FuncId)(xs:List AV)(st:St):aD :=
 match S0.call f xs ay with
 |some (v,s1)=>if h:∃v',Fz 0 s1 v v'/\aE v'=Tt/\aA xs=Tt then So (h.choose,st) else S.call f xs st
 |none=>S.call f xs st
def qR(G:FuncId->Bool)(S0 S:Self):Self:=⟨λf xs st=>if G f=Tt then xd S0 S f xs st else S.call f xs st,S.code,S.dcall⟩
theorem Ml(hG:G f=Tt)(hx:aA xs=Tt)(hc:S0.call f xs ay=So (v,s1))(hf:Fz 0 s1 v v')(hv:aE v'=Tt):(qR G S0 S).call f xs st=So (v',st):=by
 show(if G f=Tt then xd S0 S f xs st else S.call f xs st)=_
 rw[if_pos hG];unfold xd;have hh:∃v',Fz 0 s1 v v'/\aE v'=Tt/\aA xs=true:=⟨v',hf,hv,hx⟩;simp[hc];rw[dif_pos hh,hh.choose_spec.1.uniq hf]
theorem kL(hG:G f=Ff):(qR G S0 S).call f xs st=S.call f xs st:=by
 show(if G f=Tt then xd S0 S f xs st else S.call f xs st)=_
 grind
theorem Mm(S0 S:Self)(hS0:bK P S0)(hS:bK P S):bK P (qR G S0 S):=by
 refine⟨hS.ng,hS.mixed,⟨λf xs st=>?_,hS.up.code,hS.up.dcall⟩,λ{ks E w st st' f xs us v} hr hc h hn=>?_,λ{ks E w st nt c t a b} k hb hr ht hm hl=>hS.code k hb hr ht hm hl,hS.dcall⟩
 ·unfold qR;simp only;split
  ·unfold xd;split
   ·split
    ·exact fp
    ·exact hS.up.call f xs st
   ·exact hS.up.call f xs st
  ·exact hS.up.call f xs st
 ·have h:(if G f=Tt then xd S0 S f xs st else S.call f xs st)=So (v,st'):=h;split at h
  case isFalse=>exact hS.call hr hc h hn
  unfold xd at h;cases hv:S0.call f xs ay with
  |none=>rw[hv]at h;exact hS.call hr hc h hn
  |some p=>
   obtain⟨v1,s1⟩:=p;rw[hv]at h;simp only at h;split at h
   case isFalse=>exact hS.call hr hc h hn
   rename_i hh;obtain⟨⟨d,hd⟩,hp,hx⟩:=hh.choose_spec;cases h;have hr0:=QI hr s1.next;have hc0:aH ⟨E.imm,λ_=>No,s1.next⟩ xs us:=rM (E:=E) (F:=⟨E.imm,λ_=>No,s1.next⟩) (λ_ _ h=>h) hc hx;obtain⟨E',w',cv,k1,k2,k3⟩:=hS0.call hr0 hc0 hv (Q0 _);have s:=k2.toStep.trans (Step.mN k2.rel (Nat.ble 0));have hcv:=BA k2.rel d _ _ _ k3 hd;generalize re E' w'.heap s1 (Nat.ble 0)=F at*;have no:∀b,¬jh ⟨E.imm,λ_=>No,s1.next⟩ ay b:=by rintro b ⟨r,row,B,ha,_,_⟩;grind
   have keep:∀b,b<w.heap.size->w'.heap[b]? = w.heap[b]?:=λb hb=>k2.fr.keep b hb (no b)
   have hle:E.le ⟨F.imm,E.phi,E.top⟩:=⟨λb o hb=>s.le.imm b o hb,λ_ _ h=>h⟩;refine⟨⟨F.imm,E.phi,E.top⟩,w',cv,k1,⟨⟨hle,λb hb _ hi=>s.imm b hb (no b) hi,rfl,⟨s.rel.imm,hr.fresh,hr.freshRow,hr.freshG,hr.liveLt,λr row h=>?_,λr row B h hB=>?_,hr.sep,hr.ends,λr t r0 x h=>(hr.tys r t r0 x h).mono hle (dZ.Ey keep)⟩,
    k2.fr.size,λb hb _=>keep b hb,λ_ h=>.inr h⟩,k2.os,k2.out⟩,Bt (E:=F) (F:=⟨F.imm,E.phi,E.top⟩) (λ_ _ h=>h) hcv hp⟩
   ·obtain⟨B,hB,hR⟩:=hr.rows r row h;exact⟨B,hB,hR.mono hle (keep _ hR.lt)⟩
   ·obtain⟨B',hB',hR⟩:=hr.rows r row h;rw[hB]at hB';cases hB';exact s.imm B.b hR.lt (no _) (hr.own r row B h hB)
section
theorem Wo(x y:List Nat):iu (.s x) (.s y)=So (decide (x=y)):=by show So (leq x y)=_;rw[wL]
def strKeys:List (AV×AV×Nat)->Prop
 |[]=>True
 |(k,_,_)::l=>(∃s,k=.s s)/\strKeys l
def look:List (AV×AV×Nat)->ae->Option AV
 |[],_=>No
 |(k,v,_)::l,s=>if fo k=s then So v else look l s
def bZ(st:St)(r:Nat)(f:ae->Option AV):Prop:=∃es c,st.get r=So (.mp es c)/\strKeys es/\∀s,look es s=f s
def upd(f:ae->Option AV)(s:ae)(v:AV):ae->Option AV:=λx=>if x=s then So v else f x
theorem Ao:∀{es:List (AV×AV×Nat)}{n:Nat},strKeys es->∀s:ae,(find (.s s) es n=So No/\look es s=No)\/∃i v,find (.s s) es n=So (So (n+i,v))/\look es s=So v/\
   ∀u,strKeys (mo es i u)/\∀x,look (mo es i u) x=if x=s then So u else look es x
 |[],n,_,s=>.inl ⟨rfl,rfl⟩
 |(k,v,c)::es,n,h,s=>by
  obtain⟨⟨y,rfl⟩,h⟩:=h;have fe:find (.s s) ((.s y,v,c)::es) n=match So (decide (s=y))with|some Tt=>So (So (n,v))|some Ff=>find (.s s) es (n+1)|none=>none:=by simp[find,Wo];rfl
  have le:∀x,look ((.s y,v,c)::es) x=if y=x then So v else look es x:=λx=>rfl
  by_cases e:s=y
  ·right;subst e;refine⟨0,v,?_,by grind,λu=>⟨⟨⟨_,rfl⟩,h⟩,λx=>?_⟩⟩
   ·grind
   ·show(if s=x then So u else look es x)=_
    grind
  ·rw[fe,decide_eq_false e,le,if_neg (λh=>e h.symm)];rcases Ao (n:=n+1) h s with ⟨h1,h2⟩|⟨i,w,h1,h2,h3⟩
   ·grind
   ·refine .inr ⟨i+1,w,by grind,h2,λu=>⟨⟨⟨_,rfl⟩,(h3 u).1⟩,λx=>?_⟩⟩;show(if y=x then So v else look (mo es i u) x)=_
    grind
theorem JX:∀{es:List (AV×AV×Nat)}{s:ae}{v:AV}{c:Nat},strKeys es->strKeys (es++[(.s s,v,c)])
 |[],s,v,c,_=>⟨⟨s,rfl⟩,trivial⟩
 |(k,v,c)::es,s,w,d,h=>⟨h.1,JX h.2⟩
theorem Pc:∀{es:List (AV×AV×Nat)}{s:ae}{v:AV}{c:Nat},look es s=No->∀x,look (es++[(.s s,v,c)]) x=if x=s then So v else look es x
 |[],s,v,c,_,x=>by
  show(if s=x then So v else No)=_
  by_cases h:x=s
  ·grind
  ·rw[if_neg (λe=>h e.symm),if_neg h];rfl
 |(k,w,d)::es,s,v,c,h,x=>by
  have h':(if fo k=s then So w else look es s)=none:=h;split at h'
  ·grind
  show(if fo k=x then So w else look (es++[(.s s,v,c)]) x)=if x=s then So v else(if fo k=x then So w else look es x)
  rw[Pc h' x];grind
variable {f:ae->Option AV}
theorem bZ.keep{B:List Nat}(h:bZ st r f)(k:Kp A B st st')(h1:r<st.next)(h2:r∉A):bZ st' r f:=by have⟨es,c,h,h3⟩:=h;exact⟨es,c,by rw[k.get _ h1 h2];grind,h3⟩
theorem bZ.new(st:St):bZ (st.new (.mp [] 0)) st.next (λ_=>No):=by refine⟨[],0,?_,trivial,λ_=>rfl⟩;grind[St.get,St.new,Tr.cW]
theorem Kp.new(A B:List Nat)(w:Row):Kp A B st (st.new w):=⟨J4 _,λr h _=>by grind[St.get,St.new,Tr.cW],λg h _=>rfl⟩
@[simp] theorem agU{ok:Bool}:cO (.lookup ty x ix ok) P S t st=cX st (lookup P ty st (ah t x) (ah t ix) ok):=rfl
@[simp] theorem agX{m k:Operand}:cO (.mapUpdate ty m k x) P S t st=done (mapUpdate P ty st (ah t m) (ah t k) (ah t x)):=rfl
@[simp] theorem agW:cO (.makeMap ty No) P S t st=So (.m st.next,st.new (.mp [] 0)):=rfl
structure qH(P:Program)(ty e:TypeId)(z:AV):Prop where
 und:∃k,P.underlying ty=So (.map k e)/\P.underlying k=So .string
 zero:zeroOf P e=So z
theorem qH.fits{e:TypeId}{z:AV}(h:qH P ty e z)(s:ae):ko P ty (.s s)=true:=by have⟨k,h1,h2⟩:=h.und;unfold ko;grind
theorem bZ.get{e:TypeId}{z:AV}(T:qH P ty e z)(h:bZ st r f)(s:ae):lookup P ty st (.m r) (.s s) Ff=So ((f s).getD z):=by
 have⟨k,h1,h2⟩:=T.und;have⟨es,c,h3,h4,h5⟩:=h;unfold lookup;simp[h1,T.zero,T.fits s,h3];rw[<-h5 s];rcases Ao h4 s with ⟨h6,h7⟩|⟨i,v,h6,h7,-⟩
 ·rw[h6,h7];rfl
 ·rw[h6,h7];rfl
theorem bZ.ti{e:TypeId}{z:AV}(T:qH P ty e z)(h:bZ st r f)(s:ae):lookup P ty st (.m r) (.s s) Tt=So (.tu [(f s).getD z,.b (f s).isSome]):=by
 have⟨k,h1,h2⟩:=T.und;have⟨es,c,h3,h4,h5⟩:=h;unfold lookup;simp[h1,T.zero,T.fits s,h3];rw[<-h5 s];rcases Ao h4 s with ⟨h6,h7⟩|⟨i,v,h6,h7,-⟩
 ·rw[h6,h7];rfl
 ·rw[h6,h7];rfl
theorem ZL{e:TypeId}{z:AV}(T:qH P ty e z)(s:ae):lookup P ty st .mn (.s s) Tt=So (.tu [z,.b Ff]):=by have⟨k,h1,h2⟩:=T.und;unfold lookup;simp only[h1,T.zero,T.fits s];rfl
theorem bZ.set{e:TypeId}{z:AV}(T:qH P ty e z)(h:bZ st r f)(s:ae)(v:AV):∃st',mapUpdate P ty st (.m r) (.s s) v=So st'/\bZ st' r (upd f s v)/\Kp [r] [] st st'/\st'.next=st.next:=by
 have⟨es,c,h3,h4,h5⟩:=h;unfold mapUpdate;simp[T.fits s,h3];rcases Ao h4 s with ⟨h6,h7⟩|⟨i,w,h6,h7,h8⟩
 ·rw[h6];refine⟨_,rfl,⟨_,_,yO _ _,JX h4,λx=>?_⟩,.put (by simp),rfl⟩;rw[Pc h7];unfold upd;grind
 ·rw[h6,Nat.zero_add];refine⟨_,rfl,⟨_,_,yO _ _,(h8 v).1,λx=>?_⟩,.put (by simp),rfl⟩;unfold upd;grind
@[simp] theorem SC(f:ae->Option AV)(s:ae)(v:AV):upd f s v s=So v:=if_pos rfl
theorem adD(f:ae->Option AV){s x:ae}(v:AV)(h:x≠s):upd f s v x=f x:=if_neg h
theorem Zc(h:P.underlying ty=So .string)(l:ae):cP P st [ty] [.s l]=So (.i .i64 (l.length:Int),st):=by
 show qQ P st [ty] (.s l)=_
 unfold qQ;simp[h];rfl
@[simp] theorem agQ:cO (.index ty x ix) P S t st=cX st (index P ty (ah t x) (ah t ix)):=rfl
theorem Yj(h:isStr P ty=Tt){l:ae}(hk:k<l.length):index P ty (.s l) (.i .i64 (k:Int))=So (.i .u8 (l[k]:Int)):=by
 show @Bool.rec (λ_=>Option AV) No (CR k l) (isStr P ty)=_
 rw[h];grind[CR,Z9]
theorem cV{c:Bool}{x y:ae}:Go.Ev.binOp P ty c .eql (.s x) (.s y)=So (.b (decide (x=y))):=by rw[acX,wL]
theorem ik{c:Bool}{x y:ae}:Go.Ev.binOp P ty c .neq (.s x) (.s y)=So (.b (!decide (x=y))):=by
 show So (AV.b !(leq x y))=_
 rw[wL]
theorem acY{c:Bool}{x y:ae}:Go.Ev.binOp P ty c .lss (.s x) (.s y)=So (.b (mT x y)):=rfl
theorem JZ{c:Bool}{x y:ae}:Go.Ev.binOp P ty c .gtr (.s x) (.s y)=So (.b !(mT x y||leq x y)):=rfl
def sP(o:Option (AV×St))(v:AV):Prop:=∃s,o=So (v,s)
@[simp] theorem ahl{s:St}:sP (So (v,s)) v:=⟨s,rfl⟩
end
def Any(_:St):Prop:=True
theorem any:Any st:=trivial
@[simp] theorem afw(t:Tr AV)(bs:ByteArray):ah t (.const (.string bs))=.s (bs.data.toList.map UInt8.toNat):=rfl
structure iq(P:Program)(ty e z:Nat):Prop where
 und:P.underlying ty=So (.slice e)
 inf:aN P e=Tt
 sz:aq P e=z
theorem cz.cP{ty e:Nat}{v:AV}{l:List AV}(T:iq P ty e 1)(h:cz v l):cP P st [ty] [v]=So (.i .i64 (l.length:Int),st):=bg T.und h.len h.text
theorem cz.sat{ty:Nat}{l:List ae}(T:iq P ty e 1)(ha:cw P e=Ff)(h:cz v (l.map .s))(hk:k<l.length):∃a,indexAddr P ty v (.i .i64 (k:Int))=So a/\∀st,loadAt P e st a=So (.s l[k]):=by
 rcases h with ⟨rfl,h⟩|rfl
 ·have:l=[]:=by simp_all
  grind
 ·refine⟨_,dP T.und T.inf T.sz _ _ _ (by grind),λst=>?_⟩;rw[Nat.mul_one,wN T.inf ha,Z9 (by grind)];simp
theorem cz.sLen{ty:Nat}{l:List ae}(T:iq P ty e 1)(h:cz v (l.map .s)):Go.Ev.cP P st [ty] [v]=So (.i .i64 (l.length:Int),st):=by have:=cz.cP (st:=st) T h;grind
def gA(v:AV)(z:Nat)(els:List (List AV)):Prop:=((v=.sn/\els=[])\/v=.rs els.flatten els.length z)/\∀x∈els,x.length=z
theorem DC{z:Nat}:∀{els:List (List AV)}(_:∀x∈els,x.length=z){k:Nat}(hk:k<els.length),∃r,els.flatten.drop (k*z)=els[k]++r
 |x::els,h,0,_=>⟨els.flatten,by simp⟩
 |x::els,h,k+1,hk=>by have⟨r,hr⟩:=DC (λy hy=>h y (J5 _ hy)) (k:=k) (by grind);simp_all[List.drop_append,List.drop_eq_nil_of_le,J6]
theorem gA.at{ty:Nat}(T:iq P ty e z)(h:gA v z els)(hk:k<els.length):∃r,indexAddr P ty v (.i .i64 (k:Int))=So (.rp (els[k]++r)):=by
 have⟨h,hz⟩:=h;rcases h with ⟨rfl,rfl⟩|rfl
 ·grind
 ·have⟨r,hr⟩:=DC hz hk;exact⟨r,by rw[dP T.und T.inf T.sz _ _ _ hk,hr]⟩
theorem gA.len(h:gA v z els):lenOf v=So els.length/\kO v=false:=by rcases h.1 with ⟨rfl,rfl⟩|rfl<;>exact⟨rfl,rfl⟩
theorem gA.cP{ty e z:Nat}{v:AV}{els:List (List AV)}(T:iq P ty e z)(h:gA v z els):Go.Ev.cP P st [ty] [v]=So (.i .i64 (els.length:Int),st):=bg T.und h.len.1 h.len.2
theorem ei(hi:aN P e=Tt)(ha:cw P e=Tt)(hz:aq P e=z){x r:List AV}(hx:x.length=z):loadAt P e st (.rp (x++r))=So (.ag x):=by rw[Pa hi ha,hz,eV,<-hx,mV];rfl
@[simp] theorem agV{a b:Array Operand}:cO (.makeFunc (.func f) a b) P S t st=So (.f (.func f) (args t a.toList) (args t b.toList),st):=rfl
@[simp] theorem agM{k:Tmp}{az:Array Operand}{ts:Array TypeId}:cO (.call {callee:=.value (.tmp k),args:=az,argTypes:=ts}) P S t st=sY P S st (args t az.toList) (ab t k):=rfl
@[simp] theorem ae3{x y az:List AV}:sY P S st az (.f (.func f) x y)=pN P S f (x++(az++y)) st:=rfl
structure gz(P:Program)(ty e z:Nat):Prop where
 sl:iq P ty e z
 z1:1<=z
 zero:∃zs,bt P e=So zs/\zs.length=z
 small:z<=1000
 plain:tI P [ty,ty]=Tt
 ty0:FI P [ty,ty]=No
 by1:1<=jZ P e
 by2:jZ P e<=1000
theorem gz.fit{ty:Nat}(T:gz P ty e z)(h:n<=10000000):fits P e n=true:=by obtain⟨zs,hz,-⟩:=T.zero;unfold fits;have h1:Nat.ble 1 (jZ P e)=true:=Q3 T.by1;have h2:(2*n+2000)*jZ P e<=281474976710656:=Q1 (Nat.mul_le_mul (show 2*n+2000<=20002000 by omega) T.by2) (by decide);simp_all
theorem gz.el{ty:Nat}(T:gz P ty e z):dO P ty=So e:=by unfold dO;rw[T.sl.und]
theorem ef{ty:Nat}(T:gz P ty e z)(hc:(ah t x).cells=So cs)(hl:cs.length=z):cO (.buildSlice ty 1 #[(0,x)]) P S t st=So (.sl st.next 0 1 z (So 1),st.aj cs):=by
 have⟨zs,hz,hzl⟩:=T.zero;show(match dO P ty with
 |none=>No
 |some e=>match bt P e with
  |none=>No
  |some z=>(@Bool.rec (λ_=>aD) No (yC st 1 (aq P e) (fill (nV (aq P e)) (rep 1 z) (eB t [(0,x)]))) (Nat.ble (1*aq P e) 16777216)))=_
 rw[T.el];simp only[hz,T.sl.sz];have h1:Nat.ble (1*z) 16777216=true:=Q3 (by have:=T.small;omega);rw[h1];show yC st 1 z (fill (nV z) (zs++[]) [(0,ah t x)])=_
 have h2:fill (nV z) (zs++[]) [(0,ah t x)]=So cs:=by simp_all[fill,nV,Q3,nU]
 rw[h2];rfl
theorem NZ{new:List AV}(h:st.ce r=So (cs,g,al))(hz:cs.length=n*z)(hg:g<st.next):
  ∃st',yr st r 0 n z m new=So (.sl st.next 0 m z No,st')/\(∃al',st'.ce st.next=So (cs++new,g,al'))/\st'.next=st.next+1/\
   (∀r,r<st.next->st'.get r=st.get r)/\∀g',g'≠g->st'.live.get g'=st.live.get g':=by
 unfold yr;rw[h];simp[<-hz,gY];simp_all[mem,St.ce,St.get,Tr.cW,Nat.ne_of_lt]
def bD(st:St)(lo z:Nat)(v:AV)(n:Nat)(cs:List AV)(g:Option Nat):Prop :=
 (v=.sn/\n=0/\cs=[]/\g=No)\/(∃r,v=.sl r 0 0 z (So 0)/\n=0/\cs=[]/\g=No)\/
 ∃r f al,g=So f/\v=.sl r 0 n z No/\st.ce r=So (cs,f,al)/\cs.length=n*z/\1<=n/\lo<=r/\lo<=f/\r<st.next/\f<st.next
section
variable {lo:Nat}{g:Option Nat}
theorem bD.nil(st:St)(lo z:Nat):bD st lo z .sn 0 [] none:=.inl ⟨rfl,rfl,rfl,rfl⟩
theorem bD.keep{B:List Nat}(h:bD st lo z v n cs g)(k:Kp A B st st')(hA:∀x,x∈A->x<lo)(hB:∀x,x∈B->x<lo\/g≠So x):bD st' lo z v n cs g:=by
 rcases h with h|h|⟨r,f,al,rfl,rfl,hc,hl,h0,h1,h2,h3,h4⟩
 ·exact .inl h
 ·exact .inr (.inl h)
 ·refine .inr (.inr ⟨r,f,al,rfl,rfl,k.ce hc h3 h4 (λhh=>?_) (λhh=>?_),hl,h0,h1,h2,Q2 h3 k.next,Q2 h4 k.next⟩)
  ·have:=hA _ hh;omega
  ·rcases hB _ hh with h|h
   ·omega
   ·exact h rfl
theorem bD.jd(h:bD st lo z v n cs g):∀x,g=So x->lo<=x/\x<st.next:=by
 rintro x rfl;rcases h with h|⟨r,h⟩|⟨r,f,al,h0,rfl,hc,hl,h1,h2,h3,h4,h5⟩
 ·cases h.2.2.2
 ·cases h.2.2.2
 ·cases h0;exact⟨h3,h5⟩
theorem bD.len(h:bD st lo z v n cs g):lenOf v=So n/\kO v=false:=by rcases h with ⟨rfl,rfl,-⟩|⟨r,rfl,rfl,-⟩|⟨r,f,al,-,rfl,-⟩<;>exact⟨rfl,rfl⟩
theorem bD.sc(h:bD st lo z v n cs g):bR v=true:=by rcases h with ⟨rfl,rfl,-⟩|⟨r,rfl,rfl,-⟩|⟨r,f,al,-,rfl,-⟩<;>rfl
theorem bD.cells(h:bD st lo z v n cs g):v.cells=So [v]:=by rcases h with ⟨rfl,rfl,-⟩|⟨r,rfl,rfl,-⟩|⟨r,f,al,-,rfl,-⟩<;>simp
def Grown(v:AV)(z n:Nat)(cs:List AV):Prop:=(v=.sn/\n=0/\cs=[])\/v=.rs cs n z
theorem bD.fz{cs':List AV}(h:bD st lo z v n cs g)(hlo:n0<=lo)(hz:1<=z)(hc:fV n0 st cs cs'):∃v',Fz n0 st v v'/\Grown v' z n cs':=by
 rcases h with ⟨rfl,rfl,rfl,-⟩|⟨r,rfl,rfl,rfl,-⟩|⟨r,f,al,-,rfl,h1,h2,h3,h4,h5,h6,h7⟩
 ·exact⟨.sn,.pure rfl,.inl ⟨rfl,rfl,fV.same rfl hc⟩⟩
 ·have:cs'=[]:=fV.same rfl hc;subst this;exact⟨_,.rY,.inr rfl⟩
 ·exact⟨_,.slice h1 h2.symm (by omega) hc (by omega),.inr rfl⟩
theorem bD.LG{ty:Nat}{x:AV}{new:List AV}(T:gz P ty e z)(h:bD st lo z v n cs g)(h1:lenOf x=So k)(h2:firstCells st z k x=So new)(h3:gO x=No)(hs:bH new=Tt)(hl:new.length=k*z)(hn:n+k<=10000000)(hlo:lo<=st.next):
  ∃v' g' st',fD P st [ty,ty] [v,x]=So (v',st')/\bD st' lo z v' (n+k) (cs++new) g'/\Kp [] g.toList st st'/\(g'=g\/g'=So st.next)/\st'.next<=st.next+1/\(k=0\/∃r m,v'=.sl r 0 m z No/\st.next<=r):=by
 have e0:(tI P [ty,ty]&&aN P e&&bH new)=true:=by rw[T.plain,T.sl.inf,hs];rfl
 have eb:fD P st [ty,ty] [v,x]=append P st [ty,ty] v x:=by
  show wj P st [ty,ty] v x (gO x)=_
  rw[h3];show pH P st [ty,ty] v (append P st [ty,ty] v x)=_
  unfold pH;rw[T.ty0]
 rw[eb];by_cases h0:k=0
 ·subst h0;have hnew:new=[]:=K8 (by omega);subst hnew;refine⟨v,g,st,?_,by simpa using h,.refl _ _ _,.inl rfl,J4 _,.inl rfl⟩;unfold append;simp only[T.el,h1,T.sl.sz,h2,e0];rcases h with ⟨rfl,rfl,-⟩|⟨r,rfl,rfl,-⟩|⟨r,f,al,-,rfl,-⟩<;>simp[bh,T.sl.sz]
 ·have hb0:Nat.beq k 0=false:=by rw[bh];simpa using h0
  have hz1:=T.z1;rcases h with ⟨rfl,rfl,rfl,rfl⟩|⟨r,rfl,rfl,rfl,rfl⟩|⟨r,f,al,rfl,rfl,c1,c2,c3,c4,c5,c6,c7⟩
  ·refine⟨.sl st.next 0 k z No,So st.next,st.aj new,?_,.inr (.inr ⟨st.next,st.next,_,rfl,by simp,by simpa using bq new,by simpa using hl,by omega,hlo,hlo,Q6 _,Q6 _⟩),.aj _ _ _,.inr rfl,Q0 _,.inr ⟨_,_,rfl,Q0 _⟩⟩;unfold append;simp only[T.el,h1,T.sl.sz,h2,e0,hb0,T.fit (show k<=10000000 by omega)];rfl
  ·refine⟨.sl st.next 0 k z No,So st.next,st.aj new,?_,.inr (.inr ⟨st.next,st.next,_,rfl,by simp,by simpa using bq new,by simpa using hl,by omega,hlo,hlo,Q6 _,Q6 _⟩),.aj _ _ _,.inr rfl,Q0 _,.inr ⟨_,_,rfl,Q0 _⟩⟩;unfold append;have e2:Nat.ble (0+k) 0=false:=by
    rw[J3];intro hh;have:=V0 hh;omega
   simp only[T.el,h1,T.sl.sz,h2,e0,hb0,e2,T.fit (show 0+k<=10000000 by omega),bh,decide_true];simp[firstCells,grow,bh]
  ·have⟨st',k1,⟨al',k2⟩,k3,k4,k5⟩:=NZ (new:=new) (m:=n+k) c1 c2 c7;refine⟨_,So f,st',?_,.inr (.inr ⟨st.next,f,al',rfl,rfl,k2,by rw[J8,c2,hl,J6],by omega,hlo,c5,by omega,by omega⟩),⟨by omega,λr h _=>k4 r h,λg h hg=>k5 g (by simpa using hg)⟩,.inl rfl,by omega,.inr ⟨_,_,rfl,Q0 _⟩⟩;unfold append;simp only[T.el,h1,T.sl.sz,h2,e0,hb0];have e3:Nat.beq z z=true:=by rw[bh];simp
   rw[e3];have e2:Nat.ble (n+k) (qe st r 0 z)=false:=by
    have:qe st r 0 z=n:=by
     unfold qe;rw[c1];show(cs.length-0) / z=n
     rw[Nat.sub_zero,c2,Nat.mul_div_cancel _ (by omega)]
    rw[this,J3];intro hh;have:=V0 hh;omega
   show @Bool.rec (λ_=>Option (AV×St)) No (vn st r 0 n z (n+k) new (fits P e (n+k))) Tt=_
   rw[T.fit hn];show vn st r 0 n z (n+k) new Tt=_
   unfold vn;rw[e2];exact k1
theorem bD.app{ty:Nat}{x:AV}{new:List AV}(T:gz P ty e z)(h:bD st lo z v n cs g)(h1:lenOf x=So k)(h2:firstCells st z k x=So new)(h3:gO x=No)(hs:bH new=Tt)(hl:new.length=k*z)(hn:n+k<=10000000)(hlo:lo<=st.next):
  ∃v' g' st',fD P st [ty,ty] [v,x]=So (v',st')/\bD st' lo z v' (n+k) (cs++new) g'/\Kp [] g.toList st st'/\(g'=g\/g'=So st.next):=by
 obtain⟨v',g',st',h4,h5,h6,h7,-⟩:=h.LG T h1 h2 h3 hs hl hn hlo;grind
theorem bD.Gy{ty:Nat}{new:List AV}(T:gz P ty e z)(h:bD st lo z v n cs g)(hs:bH new=Tt)(hl:new.length=z)(hn:n+1<=10000000)(hlo:lo<=st.next):
  ∃v' g' st',fD P (st.aj new) [ty,ty] [v,.sl st.next 0 1 z (So 1)]=So (v',st')/\bD st' lo z v' (n+1) (cs++new) g'/\Kp [] g.toList st st'/\(g'=g\/∃x,g'=So x/\st.next<=x)/\st'.next<=st.next+2/\∃r m,v'=.sl r 0 m z No/\st.next<=r:=by
 have h':bD (st.aj new) lo z v n cs g:=h.keep (.aj [] [] new) (by simp) (by simp);have hf:firstCells (st.aj new) z 1 (.sl st.next 0 1 z (So 1))=So new:=by
  show rd (st.aj new) st.next 0 (1*z)=_
  rw[ai (bq new),eV,Nat.one_mul,<-hl,gY]
 have⟨v',g',st',h1,h2,h3,h4,h5,h6⟩:=h'.LG T rfl hf rfl hs (by omega) hn (Nat.le_succ_of_le hlo);refine⟨v',g',st',h1,h2,(Kp.aj _ _ _).trans h3,?_,h5,(by
  rcases h6 with h6|⟨r,m,h6,h7⟩
  ·omega
  ·exact⟨r,m,h6,Nat.le_of_succ_le h7⟩)⟩
 rcases h4 with h4|h4
 ·grind
 ·exact .inr ⟨_,h4,J4 _⟩
theorem bD.iW{ty:Nat}{new:List AV}(T:gz P ty e z)(h:bD st lo z v n cs g)(hs:bH new=Tt)(hl:new.length=z)(hn:n+1<=10000000)(hlo:lo<=st.next):
  ∃v' g' st',fD P (st.aj new) [ty,ty] [v,.sl st.next 0 1 z (So 1)]=So (v',st')/\bD st' lo z v' (n+1) (cs++new) g'/\Kp [] g.toList st st'/\(g'=g\/∃x,g'=So x/\st.next<=x):=by
 obtain⟨v',g',st',h4,h5,h6,h7,-⟩:=h.Gy T hs hl hn hlo;grind
end
@[simp] theorem ag5{lo hi mx:Option Operand}:cO (.slice ty x lo hi mx) P S t st=cX st (gR P st ty (ah t x) (lo.map (ah t)) (hi.map (ah t)) (mx.map (ah t))):=rfl
theorem zf{ty:Nat}(T:iq P ty e z){c:List AV}(hi:i<=n):gR P st ty (.rs c n z) No (So (.i .i64 (i:Int))) No=So (.rs c i z):=by
 have h1:oY P ty z=true:=by unfold oY dO;simp only[T.und,T.inf,T.sz];simp_all
 have h2:fM n n No (So (.i .i64 (i:Int))) No=So (0,i,n):=by
  show @Bool.rec (λ_=>Option (Nat×Nat×Nat)) No (So (0,i,n)) (Nat.ble 0 i&&Nat.ble i n&&Nat.ble n n&&Tt)=_
  simp_all[Q3]
 simp_all[slice,gR]
theorem Kp.drop{A B:List Nat}{r:Nat}(h:r∈A):Kp A B st (st.drop r):=⟨Q0 _,λx _ hx=>by grind[St.yp],λ_ _ _=>rfl⟩
@[simp] theorem ae4{l:Nat}:sY P S st xs (.f (.yield l) [] [])=round S l xs st:=rfl
theorem R7{L:List (List AV×Ex)}:∀(j:Nat),j<=L.length->∀i,i<=j->dM L i<=dM L j
 |0,_,i,h=>by grind
 |j+1,hj,i,h=>by
  rcases Q4 i (j+1)with h'|h'
  ·have:=R7 (L:=L) j (by omega) i (by omega);grind[gX]
  grind
theorem ac0(l:aa)(h:i<=l.list.length):dM l.list i<=l.size:=by rw[<-mq];exact R7 _ (Q0 _) _ h
abbrev eO:=AV×AV×Nat
theorem MF{es:List eO}(h:fA E es ms):∀m,m∈ms->∃e,e∈es/\FZ E e m:=by
 induction es generalizing ms with
 |nil=>cases ms with
  |nil=>grind
  |cons=>cases h
 |cons e es ih=>
  cases ms with
  |nil=>grind
  |cons m0 ms=>have⟨h1,h2⟩:=h;grind
theorem VH{es:List eO}(h:fA E es ms):∀e,e∈es->∃m,m∈ms/\FZ E e m:=by
 induction es generalizing ms with
 |nil=>grind
 |cons e es ih=>
  cases ms with
  |nil=>cases h
  |cons m0 ms=>have⟨h1,h2⟩:=h;grind
theorem PL(h:Rel E w.heap st){since:Nat}{seen:List Nat}{es:List eO}(hg:st.get r=So (.mi (So m) since seen clock))(hm:st.get m=So (.mp es clock))(hold:∀e∈es,e.2.2<since)(hs:since<=clock)(hu:Conc E (.p r 0) u)(ty:TypeId):
  (left seen es=[]/\(Instr.next u Ff ty).run P w=.ok (.tuple #[.bool Ff]) w)\/
  ∃e,e∈left seen es/\∃w' z,(Instr.next u Ff ty).run P w=.ok z w'/\aR E E w w' st (st.put r (.mi (So m) since (seen++[e.2.2]) clock))/\Conc E (.tu [.b Tt,e.1,e.2.1]) z:=by
 cases hu;rename_i B hB;have⟨B',hB',hR,ha⟩:=Rel.row h hg (λ_ _ e=>by grind);rw[hB]at hB';cases hB';obtain⟨hd,mm,hw,Bm,hBm,rfl⟩:=hR;obtain⟨Bm',ents,hBm',hw',hc,-⟩:=Rel.mp h hm;rw[hBm]at hBm';cases hBm';have he:(Instr.next (.pointer (So ⟨B.b,0+B.d,No⟩)) Ff ty).run P w=(Instr.next (.pointer (So ⟨B.b,0,No⟩)) Ff ty).run P w:=by grind
 rw[he];have hold':∀x∈ents.toList,x.born<since:=λx hx=>by have⟨e,h1,h2⟩:=MF hc x hx;rw[h2.2.2];grind
 have hl:=HP (seen:=seen) hc;have el:(leftOf ents seen.toArray).toList=ents.toList.filter λe=>!seen.contains e.born:=by grind[leftOf,List.filter_congr]
 rcases run_next_at w ty B.b Bm.b since clock seen.toArray ents clock hw hw' hold' hs with ⟨h0,hrun⟩|⟨e,he,w1,hal,hrun⟩
 ·left;refine⟨?_,hrun⟩;have:(leftOf ents seen.toArray).toList=[]:=by
   grind
  rw[<-el,this]at hl;cases hx:left seen es with
  |nil=>rfl
  |cons a l=>rw[hx]at hl;cases hl
 ·right;rw[el]at he;have⟨a,h1,h2⟩:=MF hl e he;refine⟨a,h1,_,_,hrun,?_,?_⟩
  ·have hst:=Step.putRow h ha hB (row':=.mi (So m) since (seen++[a.2.2]) clock) (λ_ _ e=>by grind) (λ_ _ e=>by grind) (.mapIter (So Bm.b) since (seen.toArray.push e.born) clock)
    (λH' hH'=>⟨hd,So Bm.b,by rw[hH',h2.2.2];simp,Bm,hBm,rfl⟩)
   rcases hal with rfl|rfl
   ·exact aR.of hst
   ·exact⟨hst,rfl,rfl⟩
  ·exact .tu _ [.bool Tt,e.key,e.val] (.cons _ _ _ _ (.b Tt) (.cons _ _ _ _ h2.1 (.cons _ _ _ _ h2.2.1 .nil)))
theorem Np{b:Nat}:∀{l:List eO},b∉l.map (·.2.2)->l.filter (λe=>!Nat.beq e.2.2 b)=l
 |[],_=>rfl
 |x::l,h=>by
  have h1:x.2.2≠b:=λe=>h (by simp[e])
  have h2:b∉l.map (·.2.2):=λe=>h (J5 _ e)
  rw[J9,if_pos (by rw[bh];simp[h1]),Np h2]
theorem Qj{e:eO}:∀{l:List eO},(l.map (·.2.2)).Nodup->e∈l->l.Perm (e::l.filter (λx=>!Nat.beq x.2.2 e.2.2))
 |x::l,hn,h=>by
  have hn':x.2.2∉l.map (·.2.2)/\(l.map (·.2.2)).Nodup:=List.nodup_cons.1 hn;rcases J1.1 h with rfl|h
  ·rw[J9,if_neg (by simp),Np hn'.1]
  ·have hne:x.2.2≠e.2.2:=λhh=>hn'.1 (by rw[hh]; exact List.mem_map.2 ⟨e,h,rfl⟩)
   rw[J9,if_pos (by rw[bh];simp[hne])];exact((Qj hn'.2 h).cons x).trans (List.Perm.swap e x _)
theorem YZ(seen:List Nat)(b:Nat)(es:List eO):left (seen++[b]) es=(left seen es).filter (λx=>!Nat.beq x.2.2 b):=by unfold left;rw[List.filter_filter];grind[mem_iff,bh]
theorem YY(es:List eO):left [] es=es:=by unfold left;rw[List.filter_eq_self];intro e _;rfl
def qa(x:Ctx)(ops:Array Oper)(o2:Oper)(d15 id:Nat)(body:Code)(t:Tr AV)(st:St):Out :=
 bW (bw x.P x.S x.nt ops [o2] t st) λt s=>bW (ao (.cond (.tmp d15) .skip (.exit id)) x t s) (ao body x)
theorem abz{x:Ctx}(hxP:x.P=P)(hS:bK P x.S){b:Frame}{ops:Array Oper}{o1 o2:Oper}{i7 d13 d14 d15 id:Nat}{body:Code}(hops:ops.toList=[o1,o2])(hg1:o1.guard=No)(hp1:o1.op=.next (.tmp d13) Ff)(hq1:o1.dst=So d14)(hd14:d14<x.nt){es:List eO}(hold:∀e∈es,e.2.2<clock)(hnd:(es.map (·.2.2)).Nodup)(J:List eO->Tr AV->St->Prop)(Q:List eO->Tr AV->St->Prop){k:List Item}(hb:x.inR=b.roundOf.isSome)(top:Nat)
  (hit:∀done t s,J done t s->ah t (.tmp d13)=.p r 0/\s.get r=So (.mi (So m) clock (done.map (·.2.2)) clock)/\s.get m=So (.mp es clock)/\s.next<=top)
  (hstep:∀done e L t s,J done t s->(done++e::L).Perm es->∃t2 s2,qa x ops o2 d15 id body (t.set d14 (So (.tu [.b Tt,e.1,e.2.1]))) (s.put r (.mi (So m) clock (done.map (·.2.2)++[e.2.2]) clock))=.nx t2 s2/\J (done++[e]) t2 s2/\s2.next<=top)
  (hend:∀done t s,J done t s->done.Perm es->∃t2,qa x ops o2 d15 id body (t.set d14 (So (.tu [.b Ff]))) s=.ex id t2 s/\Q done t2 s):
  ∀(n:Nat) (done:List eO),(left (done.map (·.2.2)) es).length=n->(done++left (done.map (·.2.2)) es).Perm es->∀{E:Env}{w:World}{st:St}{t:Tr AV}{a:Act},E.top=top->Rel E w.heap st->bX E x.nt t a.tmps->Marks n0 b.defers E w.heap st a.defers->n0<=w.heap.size->J done t st->
   ∃done' t' st',done'.Perm es/\Q done' t' st'/\cL P ks n0 E x.nt b w st (lone (b.atR a (.code (.seq (.region i7 ops Ff) (.seq (.cond (.tmp d15) .skip (.exit id)) body))::.inLoop (.seq (.region i7 ops Ff) (.seq (.cond (.tmp d15) .skip (.exit id)) body))::.inBlock id::k)) ks w) k (.nx t' st'):=by
 subst hxP;have ho1:ops[0]? = So o1:=by rw[<-Array.getElem?_toList,hops];rfl
 have hsz:List.range ops.size=[0,1]:=by
  have:ops.size=2:=by rw[<-Array.length_toList,hops];rfl
  rw[this];rfl
 have hput:∀(t:Tr AV) (v:AV),dE x.nt t o1.dst v=So (t.set d14 (So v)):=λt v=>by simp_all
 have rest:∀{E:Env}{w:World}{st:St}{t:Tr AV}{a:Act},Rel E w.heap st->bX E x.nt t a.tmps->Marks n0 b.defers E w.heap st a.defers->n0<=w.heap.size->(qa x ops o2 d15 id body t st).lim E.top->
   cL x.P ks n0 E x.nt b w st (lone (b.atR a (.inRegion ops [1]::.code (.seq (.cond (.tmp d15) .skip (.exit id)) body)::.inLoop (.seq (.region i7 ops Ff) (.seq (.cond (.tmp d15) .skip (.exit id)) body))::.inBlock id::k)) ks w) (.inLoop (.seq (.region i7 ops Ff) (.seq (.cond (.tmp d15) .skip (.exit id)) body))::.inBlock id::k) (qa x ops o2 d15 id body t st):=by
  intro E w st t a hr ht hm hn0 hl;have hops1:ops.toList.drop 1=[o2]:=by grind
  have h1:=IV (ks:=ks) (k:=.code (.seq (.cond (.tmp d15) .skip (.exit id)) body)::.inLoop (.seq (.region i7 ops Ff) (.seq (.cond (.tmp d15) .skip (.exit id)) body))::.inBlock id::k) hS [o2] 1 hops1 hr ht hm;unfold qa at hl|-;cases hc1:bw x.P x.S x.nt ops [o2] t st with
  |no=>trivial
  |nx t1 st1=>
   rw[hc1]at h1 hl;rcases wM (iQ (.seq (.cond (.tmp d15) .skip (.exit id)) body) x hS.up t1 st1) hl with hno|hn
   ·simp_all[cL]
   ·have⟨E1,a1,w1,s1,h2,h3,h4⟩:=h1 hn;have h5:=uR (ks:=ks) (.seq (.cond (.tmp d15) .skip (.exit id)) body) x rfl hS (.inLoop (.seq (.region i7 ops Ff) (.seq (.cond (.tmp d15) .skip (.exit id)) body))::.inBlock id::k) hb s1.rel h2 h3 (Q1 hn0 s1.fr.size) (by rw[s1.top];exact hl);exact cL.pre s1 h4 h5
  |ex i t1 st1=>rw[hc1]at h1 hl;exact h1 hl
  |rt t1 st1=>rw[hc1]at h1 hl;exact h1 hl
 intro n;induction n with
 |zero=>
  intro done h0 hp E w st t a htop hr ht hm hn0 hJ;have⟨h1,h2,h3,h4⟩:=hit done t st hJ;have hl:=K8 h0;rw[hl,List.append_nil]at hp;have⟨t2,h5,h6⟩:=hend done t st hJ hp;refine⟨done,t2,st,hp,h6,?_⟩;have hu:=u9 ht (.tmp d13);rw[h1]at hu;have hrun:(Instr.next (a.eval (.tmp d13)) Ff o1.type).run x.P w=.ok (.tuple #[.bool Ff]) w:=by
   rcases PL hr h2 h3 hold (Q0 _) hu o1.type with ⟨-,h⟩|⟨e,he,-⟩
   ·exact h
   ·rw[hl]at he;cases he
  have hg:qz x.P (b.atR a (.inRegion ops (0::[1])::.code (.seq (.cond (.tmp d15) .skip (.exit id)) body)::.inLoop (.seq (.region i7 ops Ff) (.seq (.cond (.tmp d15) .skip (.exit id)) body))::.inBlock id::k)) ks E w st st (.tu [.b Ff]) ((execOp a.eval o1).run x.P w):=by simp only[execOp,hp1];exact(oH hrun (.refl hr) (.tu _ [.bool Ff] (.cons _ _ _ _ (.b Ff) .nil))).c
  have⟨E1,w1,cv,s1,k1,k2⟩:=DH ho1 (FQ hg1 _) (λc e=>by rw[hp1]at e;cases e) hg;have h7:=rest s1.rel (tM (ht.mono s1.le) (hput t _) k1) (by rw[put_defers];exact hm.step s1.toStep) (Q1 hn0 s1.fr.size) (by rw[h5];show st.next<=E1.top;rw[s1.top,htop];exact h4);rw[h5]at h7;have hst:Steps x.P (lone (b.atR a (.code (.seq (.region i7 ops Ff) (.seq (.cond (.tmp d15) .skip (.exit id)) body))::.inLoop (.seq (.region i7 ops Ff) (.seq (.cond (.tmp d15) .skip (.exit id)) body))::.inBlock id::k)) ks w) (lone (b.atR (a.put o1.dst cv) (.inRegion ops [1]::.code (.seq (.cond (.tmp d15) .skip (.exit id)) body)::.inLoop (.seq (.region i7 ops Ff) (.seq (.cond (.tmp d15) .skip (.exit id)) body))::.inBlock id::k)) ks w1):=by refine(Q5 stepR_seq).trans ((Q5 stepR_region).trans ?_);rw[hsz];exact k2
  have⟨E2,a2,w2,s2,q1,q2,q3⟩:=cL.pre s1 hst h7;exact⟨E2,a2,w2,s2,q1,q2,q3 k (by simp[exitTo])⟩
 |succ n ih=>
  intro done h0 hp E w st t a htop hr ht hm hn0 hJ;have⟨h1,h2,h3,h4⟩:=hit done t st hJ;have hu:=u9 ht (.tmp d13);rw[h1]at hu;rcases PL hr h2 h3 hold (Q0 _) hu o1.type with ⟨hl,-⟩|⟨e,he,w',z,hrun,hs,hz⟩
  ·rw[hl]at h0;cases h0
  have hL:((left (done.map (·.2.2)) es).map (·.2.2)).Nodup:=hnd.sublist ((List.filter_sublist).map _);have hpm:=Qj hL he;have⟨t2,st2,h5,h6,h6'⟩:=hstep done e _ t st hJ ((V1 done hpm.symm).trans hp);have hg:qz x.P (b.atR a (.inRegion ops (0::[1])::.code (.seq (.cond (.tmp d15) .skip (.exit id)) body)::.inLoop (.seq (.region i7 ops Ff) (.seq (.cond (.tmp d15) .skip (.exit id)) body))::.inBlock id::k)) ks E w st (st.put r (.mi (So m) clock (done.map (·.2.2)++[e.2.2]) clock)) (.tu [.b Tt,e.1,e.2.1]) ((execOp a.eval o1).run x.P w):=by simp only[execOp,hp1];exact(oH hrun hs hz).c
  have⟨E1,w1,cv,s1,k1,k2⟩:=DH ho1 (FQ hg1 _) (λc e=>by rw[hp1]at e;cases e) hg;have h7:=rest s1.rel (tM (ht.mono s1.le) (hput t _) k1) (by rw[put_defers];exact hm.step s1.toStep) (Q1 hn0 s1.fr.size) (by rw[h5];show st2.next<=E1.top;rw[s1.top,htop];exact h6');rw[h5]at h7;have hst:Steps x.P (lone (b.atR a (.code (.seq (.region i7 ops Ff) (.seq (.cond (.tmp d15) .skip (.exit id)) body))::.inLoop (.seq (.region i7 ops Ff) (.seq (.cond (.tmp d15) .skip (.exit id)) body))::.inBlock id::k)) ks w) (lone (b.atR (a.put o1.dst cv) (.inRegion ops [1]::.code (.seq (.cond (.tmp d15) .skip (.exit id)) body)::.inLoop (.seq (.region i7 ops Ff) (.seq (.cond (.tmp d15) .skip (.exit id)) body))::.inBlock id::k)) ks w1):=by refine(Q5 stepR_seq).trans ((Q5 stepR_region).trans ?_);rw[hsz];exact k2
  have⟨E2,a2,w2,s2,q1,q2,q3⟩:=cL.pre s1 hst h7;have hsn:left ((done++[e]).map (·.2.2)) es=(left (done.map (·.2.2)) es).filter (λx=>!Nat.beq x.2.2 e.2.2):=by rw[List.map_append];exact YZ _ _ _
  have⟨done',t',st',g1,g2,g3⟩:=ih (done++[e]) (by rw[hsn];have hh:=hpm.length_eq;rw[h0]at hh;exact(Nat.succ.inj hh).symm)
   (by rw[hsn,List.append_assoc];exact(V1 done hpm.symm).trans hp) (by rw[s2.top,htop]) s2.rel q1 q2 (Q1 hn0 s2.fr.size) h6
  exact⟨done',t',st',g1,g2,cL.pre s2 (q3.trans (Q5 stepR_inLoop)) g3⟩
def mW(F:FuncId->List AV->St->Option (AV×St))(S:Self):Self :=
 ⟨λf xs st=>match F f xs st with|some r=>So r|none=>S.call f xs st,S.code,S.dcall⟩
structure um(P:Program)(F:FuncId->List AV->St->Option (AV×St)):Prop where
 up:∀f xs st,Up st (F f xs st)
 ok:∀{ks:List Frame}{E:Env}{w:World}{st st':St}{f:FuncId}{az:List AV}{us:List Value}{v:AV},Rel E w.heap st->aH E az us->F f az st=So (v,st')->st'.next<=E.top->
  ∃E' w' cv,jD P ks f us.toArray w w' cv/\aR E E' w w' st st'/\Conc E' v cv
theorem Cb{F:FuncId->List AV->St->Option (AV×St)}(hF:um P F)(S:Self)(hS:bK P S):bK P (mW F S):=by
 refine⟨hS.ng,hS.mixed,⟨λf xs st=>?_,hS.up.code,hS.up.dcall⟩,λ{ks E w st st' f xs us v} hr hc h hn=>?_,λ{ks E w st nt c t a b} k hb hr ht hm hl=>hS.code k hb hr ht hm hl,hS.dcall⟩
 ·have:=hF.up f xs st;unfold mW;simp only;cases hx:F f xs st with
  |none=>exact hS.up.call f xs st
  |some p=>grind
 ·unfold mW at h;simp only at h;cases hx:F f xs st with
  |none=>rw[hx]at h;exact hS.call hr hc h hn
  |some p=>rw[hx]at h;cases h;exact hF.ok hr hc hx hn
theorem Ca{F:FuncId->List AV->St->Option (AV×St)}{r:AV×St}(h:F f xs st=So r):(mW F S).call f xs st=So r:=by
 show(match F f xs st with|some r=>So r|none=>S.call f xs st)=_
 rw[h]
theorem lQ{F:FuncId->List AV->St->Option (AV×St)}(h:F f xs st=No):(mW F S).call f xs st=S.call f xs st:=by
 show(match F f xs st with|some r=>So r|none=>S.call f xs st)=_
 rw[h]
theorem Vn{args:Array Value}{W:World}{v:Value}(h:Calls P f args w λe w'=>e=.returned v/\w'=W):jD P ks f args w W v:=by obtain⟨e,w',fr,⟨rfl,rfl⟩,h1,h2,h3⟩:=h ks;exact⟨fr,h1,h2,h3⟩
def pD(st:St):Prop:=∃t,st.get 0=So (.ty t 0 Ff)
open Classical in
def afg(g:FuncId)(D:Nat->Nat)(f:FuncId)(xs:List AV)(st:St):Option (AV×St):=
 if f=g/\pD st then match xs with
  |[.i .u64 (.ofNat n)]=>if 1<=n/\n<18446744073709551616 then So (.i .i64 (D n:Int),st) else No
  |_=>No
 else No
def qV(g:FuncId)(f:FuncId)(xs:List AV)(st:St):Option (AV×St):=
 if f=g then match xs with
  |[.m r]=>match st.get r with
   |some (.mp es c)=>So (.m st.next,st.new (.mp es c))
   |_=>No
  |_=>No
 else No
theorem VO{g:FuncId}{c:Nat}{es:List (AV×AV×Nat)}(h:st.get r=So (.mp es c)):qV g g [.m r] st=So (.m st.next,st.new (.mp es c)):=by grind[qV]
theorem Hn{g:FuncId}(h:f≠g):qV g f xs st=none:=by unfold qV;grind
theorem VP{g:FuncId}:qV g g [.mn] st=none:=by unfold qV;grind
theorem VQ{g:FuncId}(hd:∀(b:Nat) (es:Array MapEntry) (c:Nat) (w:World),w.heap[b]? = So (.map es c)->Calls P g #[.map (So b)] w λe w'=>e=.returned (.map (So w.heap.size))/\w'=w.alloc (.map es c)):um P (qV g):=by
 refine⟨λf xs st=>?_,λ{ks E w st st' f xs us v} hr hc h hn=>?_⟩
 ·unfold qV;grind[Ku,bu]
 ·unfold qV at h;split at h
  case isFalse=>grind
  rename_i hg;subst hg;split at h
  ·rename_i r;split at h
   ·rename_i es c hrow;cases h;have ha:st.alive r=So (.mp es c):=by unfold St.alive;grind
    have⟨B,hB,ents,h1,h2⟩:=hr.rows _ _ ha;cases hc with
    |cons _ _ u us k1 k2=>
    cases k2;cases k1 with
    |m _ B' hB'=>
    rw[hB]at hB';cases hB';have hs:=IG hr (show st.next+1<=E.top from hn) (.map ents c) (.mp es c) (λ_ _ e=>by grind) (λF hF=>⟨ents,by simp,h2.mono hF⟩);exact⟨_,_,_,Vn (hd B.b ents c w h1),hs,.m _ ⟨w.heap.size,0,0⟩ Env.df⟩
   grind
  grind
section
variable {nt:Nat}{b:Frame}{G:Tr AV->St->Prop}
def fX(P:Program)(ks:List Frame)(n0:Nat)(E:Env)(nt:Nat)(b:Frame)(w:World)(st:St)(m:Machine)(G:Tr AV->St->Prop):Prop:=∃t s,G t s/\cL P ks n0 E nt b w st m [] (.rt t s)
theorem fX.pre{E1:Env}{w1:World}{st1:St}{m m1:Machine}(hs:aR E E1 w w1 st st1)(hm:Steps P m m1)(h:fX P ks n0 E1 nt b w1 st1 m1 G):fX P ks n0 E nt b w st m G:=by have⟨t,s,g,h⟩:=h;exact⟨t,s,g,cL.pre hs hm h⟩
theorem fX.assoc{c1:Code}{K:List Item}(hr:Rel E w.heap st)(h:fX P ks n0 E nt b w st (lone (b.atR a (.code c1::.code c2::K)) ks w) G):fX P ks n0 E nt b w st (lone (b.atR a (.code (.seq c1 c2)::K)) ks w) G :=
 h.pre (.refl hr) (Q5 stepR_seq)
theorem fX.code{x:Ctx}(hxP:x.P=P)(hS:bK P x.S){c:Code}{t t1:Tr AV}{st1:St}{a:Act}{K:List Item}(hb:x.inR=b.roundOf.isSome)(hr:Rel E w.heap st)(ht:bX E x.nt t a.tmps)(hm:Marks n0 b.defers E w.heap st a.defers)(hn0:n0<=w.heap.size)
  (h:ao c x t st=.rt t1 st1) (htop:st1.next<=E.top) (hg:G t1 st1):fX P ks n0 E x.nt b w st (lone (b.atR a (.code c::K)) ks w) G:=by
 refine⟨t1,st1,hg,?_⟩;have h1:=uR (ks:=ks) c x hxP hS K hb hr ht hm hn0 (by rw[h];exact htop);rw[h]at h1;exact h1
theorem fX.step{x:Ctx}(hxP:x.P=P)(hS:bK P x.S){c:Code}{K:List Item}(hb:x.inR=b.roundOf.isSome)(hr:Rel E w.heap st)(ht:bX E x.nt t a.tmps)(hm:Marks n0 b.defers E w.heap st a.defers)(hn0:n0<=w.heap.size)
  (h:ao c x t st=.nx t1 st1) (htop:st1.next<=E.top)
  (k:∀{E1:Env}{w1:World}{a1:Act},E1.top=E.top->E.le E1->Rel E1 w1.heap st1->bX E1 x.nt t1 a1.tmps->Marks n0 b.defers E1 w1.heap st1 a1.defers->n0<=w1.heap.size->fX P ks n0 E1 x.nt b w1 st1 (lone (b.atR a1 K) ks w1) G):
  fX P ks n0 E x.nt b w st (lone (b.atR a (.code c::K)) ks w) G:=by
 have h1:=uR (ks:=ks) c x hxP hS K hb hr ht hm hn0 (by rw[h];exact htop);rw[h]at h1;have⟨E1,a1,w1,s1,h2,h3,h4⟩:=h1;exact(k s1.top s1.le s1.rel h2 h3 (Q1 hn0 s1.fr.size)).pre s1 h4
theorem fX.seq{x:Ctx}(hxP:x.P=P)(hS:bK P x.S){c c2:Code}{t t1:Tr AV}{st1:St}{a:Act}{K:List Item}(hb:x.inR=b.roundOf.isSome)(hr:Rel E w.heap st)(ht:bX E x.nt t a.tmps)(hm:Marks n0 b.defers E w.heap st a.defers)(hn0:n0<=w.heap.size)
  (h:ao c x t st=.nx t1 st1) (htop:st1.next<=E.top)
  (k:∀{E1:Env}{w1:World}{a1:Act},E1.top=E.top->E.le E1->Rel E1 w1.heap st1->bX E1 x.nt t1 a1.tmps->Marks n0 b.defers E1 w1.heap st1 a1.defers->n0<=w1.heap.size->fX P ks n0 E1 x.nt b w1 st1 (lone (b.atR a1 (.code c2::K)) ks w1) G):
  fX P ks n0 E x.nt b w st (lone (b.atR a (.code (.seq c c2)::K)) ks w) G :=
 .assoc hr (.step hxP hS hb hr ht hm hn0 h htop k)
theorem abI{fn:Func}{c:Code}(hf:P.funcs[f]? = So fn)(hbody:fn.body=So c)(hr:Rel E w.heap st){R:AV->St->Prop}
  (h:∀b:Frame,b.roundOf=No->b.defers=[]->fX P ks w.heap.size E fn.ntmps b w st (lone (b.atR {tmps:=us.toArray++Array.replicate (fn.ntmps-us.toArray.size) undef,defers:=[]} [.code c]) ks w) G)
  (hG:∀t s,G t s->∃v,nY P fn.results.toList t s=So (v,s)/\R v s):
  ∃E' w' cv v s,R v s/\jD P ks f us.toArray w w' cv/\aR E E' w w' st s/\Conc E' v cv:=by
 let fb:Frame:={fn:=f,tmps:=us.toArray++Array.replicate (fn.ntmps-us.toArray.size) undef,todo:=[],defers:=[],mode:=.run,kind:=.normal}
 let a0:Act:={tmps:=us.toArray++Array.replicate (fn.ntmps-us.toArray.size) undef,defers:=[]}
 have hent:Frame.enter P f us.toArray .normal=fb.atR a0 [.code c]:=by grind[Frame.enter,Frame.atR]
 have⟨t,s,hg,hA⟩:=h fb rfl rfl;have⟨v,hres,hR⟩:=hG t s hg;have⟨E1,a1,w1,todo,h1,h2,⟨ms,h3,h4⟩,h5⟩:=hA.JF rfl (.inr rfl);have h3:a1.defers=ms:=by grind
 subst h3;have⟨w2,k1,k2⟩:=Hw hr h1 h4 h5;obtain⟨-,u,k5,k4⟩:=Ra k1.rel h2 hres;exact⟨E1,w2,u,v,s,hR,(show xP P .normal ks f us.toArray w w2 u from⟨{fb.atR a1 todo with mode:=.returning,defers:=[]},by grind,rfl,rfl,rfl,rfl,fn,hf,k5⟩).to,k1,k4⟩
theorem abo(hr:Rel E w.heap st){v1:AV}(k1:jD P ks f us.toArray w w' cv)(k2:aR ⟨E.imm,λ_=>No,top⟩ E' w w' ay s1)(k3:Conc E' v1 cv)(hd:Fz 0 s1 v1 v')(hp:aE v'=Tt) :
  ∃E2 w2 cv2,jD P ks f us.toArray w w2 cv2/\aR E E2 w w2 st st/\Conc E2 v' cv2:=by
 have⟨d,hd⟩:=hd;have s:=k2.toStep.trans (Step.mN k2.rel (Nat.ble 0));have hcv:=BA k2.rel d _ _ _ k3 hd;generalize re E' w'.heap s1 (Nat.ble 0)=F at*;have no:∀b,¬jh ⟨E.imm,λ_=>No,top⟩ ay b:=by rintro b ⟨r,row,B,ha,_,_⟩;grind
 have keep:∀b,b<w.heap.size->w'.heap[b]? = w.heap[b]?:=λb hb=>k2.fr.keep b hb (no b)
 have hle:E.le ⟨F.imm,E.phi,E.top⟩:=⟨λb o hb=>s.le.imm b o hb,λ_ _ h=>h⟩;refine⟨⟨F.imm,E.phi,E.top⟩,w',cv,k1,⟨⟨hle,λb hb _ hi=>s.imm b hb (no b) hi,rfl,⟨s.rel.imm,hr.fresh,hr.freshRow,hr.freshG,hr.liveLt,λr row h=>?_,λr row B h hB=>?_,hr.sep,hr.ends,λr t r0 x h=>(hr.tys r t r0 x h).mono hle (dZ.Ey keep)⟩,
  k2.fr.size,λb hb _=>keep b hb,λ_ h=>.inr h⟩,k2.os,k2.out⟩,Bt (E:=F) (F:=⟨F.imm,E.phi,E.top⟩) (λ_ _ h=>h) hcv hp⟩
 ·have⟨B,hB,hR⟩:=hr.rows r row h;exact⟨B,hB,hR.mono hle (keep _ hR.lt)⟩
 ·have⟨B',hB',hR⟩:=hr.rows r row h;rw[hB]at hB';cases hB';exact s.imm B.b hR.lt (no _) (hr.own r row B h hB)
end
theorem da.uniq{a b:List AV}(h:da q st l a)(k:da q st l b):a=b:=by have⟨d,h⟩:=h;have⟨e,k⟩:=k;have h':=jy (rQ d (max d e) (by omega)) h;have k':=jy (rQ e (max d e) (by omega)) k;grind
open Classical in
def yk(G:FuncId->Bool)(K:FuncId->List AV->St->Nat->Bool)(S:Self):Self :=
 ⟨λf xs st=>if G f=Tt then(if h:∃ys,da (K f xs st) st xs ys then S.call f h.choose (st.fT (K f xs st)) else S.call f xs st) else S.call f xs st,S.code,S.dcall⟩
section
open Classical
variable {K:FuncId->List AV->St->Nat->Bool}
theorem Ib(hG:G f=Tt)(h:da (K f xs st) st xs ys):(yk G K S).call f xs st=S.call f ys (st.fT (K f xs st)):=by
 show(if G f=Tt then(if h:∃ys,da (K f xs st) st xs ys then S.call f h.choose (st.fT (K f xs st)) else S.call f xs st) else S.call f xs st)=_
 have hh:∃ys,da (K f xs st) st xs ys:=⟨ys,h⟩;rw[if_pos hG,dif_pos hh,hh.choose_spec.uniq h]
theorem th(hG:G f=Ff):(yk G K S).call f xs st=S.call f xs st:=by
 show(if G f=Tt then _ else S.call f xs st)=_
 grind
end
open Classical in
theorem XK{K:FuncId->List AV->St->Nat->Bool}(S:Self)(hS:bK P S):bK P (yk G K S):=by
 refine⟨hS.ng,hS.mixed,⟨λf xs st=>?_,hS.up.code,hS.up.dcall⟩,λ{ks E w st st' f xs us v} hr hc h hn=>?_,λ{ks E w st nt c t a b} k hb hr ht hm hl=>hS.code k hb hr ht hm hl,hS.dcall⟩
 ·cases hG:G f with
  |false=>rw[th hG];exact hS.up.call f xs st
  |true=>
   by_cases hh:∃ys,da (K f xs st) st xs ys
   ·have⟨ys,hy⟩:=hh;rw[Ib hG hy];exact λv s h=>hS.up.call f ys (st.fT (K f xs st)) v s h
   ·show Up st (if G f=Tt then(if h:∃ys,da (K f xs st) st xs ys then S.call f h.choose (st.fT (K f xs st)) else S.call f xs st) else S.call f xs st)
    rw[if_pos hG,dif_neg hh];exact hS.up.call f xs st
 ·cases hG:G f with
  |false=>rw[th hG]at h;exact hS.call hr hc h hn
  |true=>
   by_cases hh:∃ys,da (K f xs st) st xs ys
   ·have⟨ys,hy⟩:=hh;rw[Ib hG hy]at h;have⟨d,hd⟩:=hy;have s:=Step.mN hr (K f xs st);have⟨E',w',cv,k1,k2,k3⟩:=hS.call (ks:=ks) s.rel (pZ (BA hr d) hc hd) h hn;exact⟨E',w',cv,k1,(show aR E _ w w st _ from⟨s,rfl,rfl⟩).trans k2,k3⟩
   ·have h:(if G f=Tt then(if h:∃ys,da (K f xs st) st xs ys then S.call f h.choose (st.fT (K f xs st)) else S.call f xs st) else S.call f xs st)=So (v,st'):=h;rw[if_pos hG,dif_neg hh]at h;exact hS.call hr hc h hn
theorem Kp.acg{B:List Nat}(h:∀g,g<st.next->q g=Tt->g∈B):Kp A B st (st.fT q):=
 ⟨Q0 _,λ_ _ _=>rfl,λg h1 h2=>Fq (by grind)⟩
theorem Rel.Uw(h:Rel E H st)(hn:st.next<E.top){B:eo}(hi:E.imm B.b=No)(hno:¬jh E st B.b)(hrow:gE (E.bind st.next B) H B (.ce l st.next)):
  Rel (E.bind st.next B) H (st.aj l):=by
 have hle:E.le (E.bind st.next B):=Env.mS (h.fresh _ (Q0 _) hn);have hget:=St.pU st l;have hlive:∀g,(st.aj l).live.get g=st.live.get g\/(g=st.next/\(st.aj l).live.get g=So [st.next]):=λg=>by
  by_cases e:g=st.next
  ·right;exact⟨e,by simp[St.aj,Tr.cW,e]⟩
  ·left;simp[St.aj,Tr.cW,e]
 have hal:∀r x,(st.aj l).alive r=So x->(r=st.next/\x=.ce l st.next)\/(r≠st.next/\st.alive r=So x):=by
  intro r x hx;by_cases e:r=st.next
  ·left;have:=Rel.kZ hx;grind
  ·right;refine⟨e,?_⟩;unfold St.alive at hx|-;rw[hget,if_neg e]at hx;cases hg:st.get r with
   |none=>grind
   |some w=>
    rw[hg]at hx;cases w with
    |ce l' g=>
     simp only at hx|-;rcases hlive g with hh|⟨rfl,hh⟩
     ·grind
     ·rw[hh]at hx;have:mem r [st.next]=false:=by
       cases hm:mem r [st.next] with
       |false=>rfl
       |true=>rw[mem_iff]at hm;grind
      grind
    |_=>grind
 refine⟨h.imm,?_,?_,?_,?_,?_,?_,?_,?_,?_⟩
 ·intro r hr ht;have hr:st.next+1<=r:=hr;rw[Env.cG (by omega)];exact h.fresh r (by omega) ht
 ·intro r hr;have hr:st.next+1<=r:=hr;rw[hget,if_neg (by omega)];exact h.freshRow r (by omega)
 ·intro g hg;have hg:st.next+1<=g:=hg;rcases hlive g with hh|⟨rfl,_⟩
  ·rw[hh];exact h.freshG g (by omega)
  grind
 ·intro g al x hg hx;show x<st.next+1
  rcases hlive g with hh|⟨rfl,hh⟩
  ·rw[hh]at hg;have:=h.liveLt g al x hg hx;omega
  grind
 ·intro r x hx;rcases hal r x hx with ⟨rfl,rfl⟩|⟨hne,hx'⟩
  ·exact⟨_,Env.df,hrow⟩
  ·have⟨B',hB,hR⟩:=h.rows r x hx';exact⟨B',by rw[Env.cG hne];grind,hR.mono hle rfl⟩
 ·intro r x B' hx hB;rcases hal r x hx with ⟨rfl,rfl⟩|⟨hne,hx'⟩
  ·rw[Env.df]at hB;cases hB;exact hi
  ·rw[Env.cG hne]at hB;exact h.own r x B' hx' hB
 ·intro r r' x x' C C' hx hx' hB hB' hb;rcases hal r x hx with ⟨rfl,rfl⟩|⟨hne,hx1⟩<;>rcases hal r' x' hx' with ⟨rfl,rfl⟩|⟨hne',hx1'⟩
  ·grind
  ·rw[Env.df]at hB;cases hB;rw[Env.cG hne']at hB';exact absurd ⟨r',x',C',hx1',hB',hb.symm⟩ hno
  ·rw[Env.df]at hB';cases hB';rw[Env.cG hne]at hB;exact absurd ⟨r,x,C,hx1,hB,hb⟩ hno
  ·rw[Env.cG hne]at hB;rw[Env.cG hne']at hB';exact h.sep r r' x x' C C' hx1 hx1' hB hB' hb
 ·intro g al hg;rcases hlive g with hh|⟨rfl,hh⟩
  ·rw[hh]at hg;refine(h.ends g al hg).imp_of_mem ?_;intro x y hx hy hxy lx ly Bx By h1 h2 h3 h4 h5;have hxn:x≠st.next:=by have:=h.liveLt g al x hg hx;omega
   have hyn:y≠st.next:=by have:=h.liveLt g al y hg hy;omega
   rw[hget,if_neg hxn]at h1;rw[hget,if_neg hyn]at h2;rw[Env.cG hxn]at h3;rw[Env.cG hyn]at h4;exact hxy lx ly Bx By h1 h2 h3 h4 h5
  ·rw[hh]at hg;cases hg;simp
 ·intro r t r0 x hx;rw[hget]at hx;split at hx
  ·cases hx
  ·exact(h.tys r t r0 x hx).mono hle (dZ.refl H)
theorem abZ(hr:Rel E w.heap st){q:Option Nat}{cells:List AV}(k1:jD P ks f us.toArray w w' cv)(k2:aR ⟨E.imm,λ_=>No,top⟩ E' w w' ay s1)(k3:Conc E' (.sl r 0 n z q) cv)
  (hc:s1.ce r=So (cells,g,al)) (hp:aA cells=Tt) (hn:st.next+1<=E.top):
  ∃E2 w2 cv2,jD P ks f us.toArray w w2 cv2/\aR E E2 w w2 st (st.aj cells)/\Conc E2 (.sl st.next 0 n z q) cv2:=by
 have no:∀b,¬jh ⟨E.imm,λ_=>No,top⟩ ay b:=by rintro b ⟨r,row,B,ha,_,_⟩;grind
 have keep:∀b,b<w.heap.size->w'.heap[b]? = w.heap[b]?:=λb hb=>k2.fr.keep b hb (no b)
 have hle:E.le ⟨E'.imm,E.phi,E.top⟩:=⟨λb o hb=>k2.le.imm b o hb,λ_ _ h=>h⟩;have himm:∀b,b<w.heap.size->E.imm b=No->E'.imm b=none:=λb hb hi=>k2.imm b hb (no b) hi
 have rel0:Rel ⟨E'.imm,E.phi,E.top⟩ w'.heap st:=by
  refine⟨k2.rel.imm,hr.fresh,hr.freshRow,hr.freshG,hr.liveLt,λr row h=>?_,λr row B h hB=>?_,hr.sep,hr.ends,λr t r0 x h=>(hr.tys r t r0 x h).mono hle (dZ.Ey keep)⟩
  ·have⟨B,hB,hR⟩:=hr.rows r row h;exact⟨B,hB,hR.mono hle (keep _ hR.lt)⟩
  ·have⟨B',hB',hR⟩:=hr.rows r row h;rw[hB]at hB';cases hB';exact himm B.b hR.lt (hr.own r row B h hB)
 obtain⟨ha,-,-,-⟩:=St.lA hc;have⟨B,hB,cs,t,fz,r1,r2,r3,r4,r5⟩:=k2.rel.rows _ _ ha;have hBi:=k2.rel.own _ _ _ ha hB;have hBs:w.heap.size<=B.b:=(k2.fr.own B.b ⟨r,_,B,ha,hB,rfl⟩).resolve_right (no _);have hno:¬jh ⟨E'.imm,E.phi,E.top⟩ st B.b:=by rintro⟨r',row,B',h1,h2,h3⟩;have⟨C,hC,hR⟩:=hr.rows r' row h1;rw[h2]at hC;cases hC;have:=hR.lt;omega
 have rel1:=rel0.Uw (B:=B) (l:=cells) (show st.next<E.top by omega) hBi hno ⟨cs,t,fz,r1,r2,r3,r4,rM (E:=E') (F:=Env.bind ⟨E'.imm,E.phi,E.top⟩ st.next B) (λ_ _ h=>h) r5 hp⟩;have hle2:=Env.mS (E:=⟨E'.imm,E.phi,E.top⟩) (r:=st.next) (B:=B) (hr.fresh _ (Q0 _) (by omega));refine⟨_,w',cv,k1,⟨⟨hle.trans hle2,λb hb _ hi=>himm b hb hi,rfl,rel1,k2.fr.size,λb hb _=>keep b hb,?_⟩,k2.os,k2.out⟩,?_⟩
 ·rintro b ⟨x,row,C,h1,h2,rfl⟩;by_cases e:x=st.next
  ·subst e;rw[Env.df]at h2;grind
  ·rw[Env.cG e]at h2;right;refine⟨x,row,C,?_,h2,rfl⟩;have h3:=Rel.kZ h1;rw[St.pU,if_neg e]at h3;unfold St.alive at h1|-;rw[St.pU,if_neg e,h3]at h1;rw[h3];cases row with
   |ce l' g'=>
    simp only at h1|-;by_cases eg:g'=st.next
    ·subst eg;have:(st.aj cells).live.get st.next=So [st.next]:=by simp[St.aj,Tr.cW]
     rw[this]at h1;have:mem x [st.next]=false:=by
      cases hm:mem x [st.next] with
      |false=>rfl
      |true=>rw[mem_iff]at hm;simp at hm;exact absurd hm e
     simp[this]at h1
    ·have:(st.aj cells).live.get g'=st.live.get g':=by simp[St.aj,Tr.cW,eg]
     rw[this]at h1;exact h1
   |_=>exact h1
 ·cases k3 with
  |slk _ _ _ _ c a hq hB2=>exact .slk _ _ _ _ c a hq (hB2.imp id λ⟨C,h1,h2⟩=>⟨C,by rw[hB]at h1;cases h1;exact Env.df,h2⟩)
  |slu _ _ _ _ c a hq hB2=>have⟨C,h1,h2,h3⟩:=hB2;rw[hB]at h1;cases h1;exact .slu _ _ _ _ c a hq ⟨_,Env.df,h2,h3⟩
abbrev Rf:=Int×Int
structure dG where
 k:Nat
 n:Nat
 rs:List Rf
 slot:Nat
structure cT where
 k:Int
 n:Nat
 num:Int
 slots:List Nat
 op:Nat
structure bC where
 k:Nat
 n:Nat:=0
 nm:ae:=[]
 rs:List Rf:=[]
 ops:List Nat:=[]
 als:List dG:=[]
 chs:List cT:=[]
 next:Nat:=0
structure dS where
 free:Nat
 ps:Nat
 slots:Nat
 op:Nat
structure fW where
 nm:ae
 k:Nat
 n:Nat
 rs:List Rf
structure Ms where
 ops:List bC
 bos:List dS
def L1:Ex->ae
 |.mk _ nm _ _ _ _ _=>nm
def yN:Ex->List ae
 |.mk _ _ _ ps _ _ _=>aL ps
def zW:Ex->aa
 |.mk _ _ _ _ _ a _=>a
abbrev aK:=ae->Option Nat
def aZ(S:aK):List ae->Nat->aK
 |[],_=>S
 |s::l,n=>aZ (λx=>if x=s then So n else S x) l (n+1)
abbrev mE:=aK->Nat->Ms->Nat×Nat×Ms
def eh(o:bC)(n:Nat)(m:Ms):Nat×Nat×Ms:=(m.ops.length,n,⟨m.ops++[o],m.bos⟩)
section
variable(F:Ex->List ae)(G K:ae->Nat)(strF:ae->Int)
def eJ(S:aK)(s:ae):Rf:=match S s with|some n=>(1,(n:Int))|none=>(2,(G s:Int))
def atR(S:aK):Ex->Rf
 |.mk k nm num _ _ _ _=>if k=2 then(3,num) else if k=3 then(4,num) else eJ G S nm
def gQ(S:aK)(l:aa):List Rf:=l.list.map λp=>atR G S p.2
def lu(fr ps:List ae)(run:mE)(m:Ms):Nat×Ms :=
 let r:=run (aZ (aZ (λ_=>No) fr 0) ps fr.length) (fr.length+ps.length) m
 (r.2.2.bos.length,⟨r.2.2.ops,r.2.2.bos++[⟨fr.length,ps.length,r.2.1,r.1⟩]⟩)
def valOf(S:aK):Ex->mE->mE->Ms->(Nat×Nat×List Rf)×Ms
 |.mk k nm num ps b a l=>λlam ex m=>
  if k=4 then((3,K nm,gQ G S a),m)
  else if k=2\/k=3 then((4,0,[atR G S (.mk k nm num ps b a l)]),m)
  else if k=5 then((2,(lu (F (.mk k nm num ps b a l)) (aL ps) lam m).1,(F (.mk k nm num ps b a l)).map (eJ G S)),(lu (F (.mk k nm num ps b a l)) (aL ps) lam m).2)
  else((1,(lu (F (.mk k nm num ps b a l)) [] ex m).1,(F (.mk k nm num ps b a l)).map (eJ G S)),(lu (F (.mk k nm num ps b a l)) [] ex m).2)
mutual
def cU:Ex->mE
 |.mk k nm num ps b a l=>λS n m=>
  if k=5 then
   let r:=lu (F (.mk k nm num ps b a l)) (aL ps) (gj a) m
   eh {k:=2,n:=r.1,rs:=(F (.mk k nm num ps b a l)).map (eJ G S)} n r.2
  else if k=4 then eh {k:=3,n:=K nm,rs:=gQ G S a} n m
  else if k=6 then
   let r:=gj a S n m
   eh {k:=4,rs:=(gQ G S a).drop 1,next:=r.1} r.2.1 r.2.2
  else if k=7 then
   let q:=iw b (aZ S b.names n) n m
   let r:=gj a (aZ S b.names n) (n+b.len) q.2
   eh {k:=5,als:=q.1,next:=r.1} r.2.1 r.2.2
  else if k=8 then
   let r:=gj a S n m
   let q:=fx l S r.2.1 r.2.2
   eh {k:=6,next:=r.1,chs:=q.1} q.2.1 q.2.2
  else if k=9 then
   let q:=eX a (strF nm).toNat S n m
   eh {k:=7,nm:=nm,ops:=q.1,rs:=(gQ G S a).drop (strF nm).toNat} q.2.1 q.2.2
  else eh {k:=1,rs:=[atR G S (.mk k nm num ps b a l)]} n m
def gj:aa->mE
 |.nil _=>λ_ n m=>(0,n,m)
 |.cons _ x _=>cU x
def gN:Ex->mE
 |.mk _ _ _ _ _ a _=>gj a
def iw:aa->aK->Nat->Ms->List dG×Ms
 |.nil _=>λ_ _ m=>([],m)
 |.cons _ x l=>λS i m=>
  let r:=valOf F G K S x (gN x) (cU x) m
  let q:=iw l S (i+1) r.2
  (⟨r.1.1,r.1.2.1,r.1.2.2,i⟩::q.1,q.2)
def fx:aa->aK->Nat->Ms->List cT×Nat×Ms
 |.nil _=>λ_ n m=>([],n,m)
 |.cons p x l=>λS n m=>
  let h:=aM (p,x)
  let r:=cU x (aZ S h.vs n) (n+h.vs.length) m
  let q:=fx l S r.2.1 r.2.2
  (⟨h.k,if h.k=1 then K h.n else 0,h.m,List.range' n h.vs.length,r.1⟩::q.1,q.2)
def eX:aa->Nat->aK->Nat->Ms->List Nat×Nat×Ms
 |.nil _=>λ_ _ n m=>([],n,m)
 |.cons _ x l=>λi S n m=>match i with
  |0=>([],n,m)
  |i+1=>
   let r:=cU x S n m
   let q:=eX l i S r.2.1 r.2.2
   (r.1::q.1,q.2)
end
def jf:aa->Ms->List fW×Ms
 |.nil _,m=>([],m)
 |.cons p x l,m=>
  let r:=valOf F G K (λ_=>No) x (gN F G K strF x) (cU F G K strF x) m
  let q:=jf l r.2
  (⟨eD (p,x),r.1.1,r.1.2.1,if r.1.1=3\/r.1.1=4 then r.1.2.2 else[]⟩::q.1,q.2)
end
def comes(o:bC):List Nat:=(if o.k=4\/o.k=5\/o.k=6 then[o.next] else[])++(o.ops++o.chs.map (·.op))
def lV(m:Ms)(j:Nat):Nat:=(m.ops.flatMap comes).count j+(m.bos.map (·.op)).count j
structure eu(m m':Ms)(res:List Nat):Prop where
 grow:∃o b,m'.ops=m.ops++o/\m'.bos=m.bos++b
 cnt:∀j,lV m' j+res.count j=lV m j+if m.ops.length<=j/\j<m'.ops.length then 1 else 0
 low:∀i o,m.ops.length<=i->m'.ops[i]? = So o->∀c∈comes o,c<i
 lt:∀c∈res,m.ops.length<=c/\c<m'.ops.length
 bo:∀i b,m.bos.length<=i->m'.bos[i]? = So b->b.op<m'.ops.length
section
variable {m m1 m2 m':Ms}{r1 r2 res:List Nat}
theorem eu.len(h:eu m m' res):m.ops.length<=m'.ops.length/\m.bos.length<=m'.bos.length:=by have⟨o,b,h1,h2⟩:=h.grow;grind
theorem eu.refl(m:Ms):eu m m [] :=
 ⟨⟨[],[],by simp,by simp⟩,λj=>by simp,λi o h1 h2=>by grind,λc h=>(Q8 h).elim,λi b h1 h2=>by grind⟩
theorem eu.trans(h:eu m m1 r1)(k:eu m1 m2 r2):eu m m2 (r1++r2):=by
 have hl:=h.len;have kl:=k.len;refine⟨?_,λj=>?_,λi o h1 h2 c hc=>?_,λc hc=>?_,λi b h1 h2=>?_⟩
 ·have⟨o,b,h1,h2⟩:=h.grow;have⟨o',b',k1,k2⟩:=k.grow;grind
 ·have h1:=h.cnt j;have k1:=k.cnt j;grind
 ·rcases Q4 i m1.ops.length with hi|hi
  ·have h3:=h2;obtain⟨o',b',k1,-⟩:=k.grow;rw[k1,Q9 hi]at h3;exact h.low i o h1 h3 c hc
  ·exact k.low i o hi h2 c hc
 ·rcases V2.1 hc with hc|hc
  ·have:=h.lt c hc;omega
  ·have:=k.lt c hc;omega
 ·rcases Q4 i m1.bos.length with hi|hi
  ·have h3:=h2;obtain⟨o',b',-,k1⟩:=k.grow;rw[k1,Q9 hi]at h3;have:=h.bo i b h1 h3;omega
  ·exact k.bo i b hi h2
theorem eu.put(h:eu m m1 res){o:bC}(hc:∀j,(comes o).count j=res.count j):eu m ⟨m1.ops++[o],m1.bos⟩ [m1.ops.length]:=by
 have hl:=h.len;have hm:∀c,c∈comes o->c∈res:=λc hh=>V3.1 (by grind)
 refine⟨?_,λj=>?_,λi o' h1 h2 c hcc=>?_,λc hcc=>?_,λi b h1 h2=>?_⟩
 ·have⟨o',b,h1,h2⟩:=h.grow;grind
 ·have h1:=h.cnt j;have e:lV ⟨m1.ops++[o],m1.bos⟩ j=lV m1 j+res.count j:=by
   unfold lV;grind
  grind
 ·rcases Q4 i m1.ops.length with hi|hi
  ·rw[Q9 hi]at h2;exact h.low i o' h1 h2 c hcc
  ·have:i=m1.ops.length:=by
    have:=(List.getElem?_eq_some_iff.1 h2).1;simp at this;omega
   subst this;simp at h2;subst h2;have:=h.lt c (hm c hcc);omega
 ·rw[List.mem_singleton.1 hcc];simp;omega
 ·have:=h.bo i b h1 h2;simp;omega
theorem eu.body(h:eu m m1 [r])(f p s:Nat):eu m ⟨m1.ops,m1.bos++[⟨f,p,s,r⟩]⟩ []:=by
 refine⟨?_,λj=>?_,h.low,λc hc=>(Q8 hc).elim,λi b h1 h2=>?_⟩
 ·have⟨o',b,h1,h2⟩:=h.grow;grind
 ·have h1:=h.cnt j;have e:lV ⟨m1.ops,m1.bos++[⟨f,p,s,r⟩]⟩ j=lV m1 j + [r].count j:=by
   unfold lV;grind
  grind
 ·rcases Q4 i m1.bos.length with hi|hi
  ·rw[Q9 hi]at h2;exact h.bo i b h1 h2
  ·have:i=m1.bos.length:=by
    grind
   subst this;simp at h2;subst h2;exact(h.lt r (by simp)).2
end
section
variable {F:Ex->List ae}{G K:ae->Nat}{strF:ae->Int}
theorem Hh{n:Nat}{nm:ae}{rs:List Rf}(h:¬(k=4\/k=5\/k=6))(j:Nat):(comes {k:=k,n:=n,nm:=nm,rs:=rs}).count j=([]:List Nat).count j:=by unfold comes;grind
theorem GN{fr ps:List ae}{run:mE}(hr:∀S n m,eu m (run S n m).2.2 [(run S n m).1])(m:Ms):eu m (lu fr ps run m).2 []:=(hr _ _ _).body _ _ _
theorem SL{S:aK}{x:Ex}{lam ex:mE}(hl:x.kind=5->∀S n m,eu m (lam S n m).2.2 [(lam S n m).1])(he:∀S n m,eu m (ex S n m).2.2 [(ex S n m).1])(m:Ms):eu m (valOf F G K S x lam ex m).2 []:=by
 have⟨k,nm,num,ps,b,a,l⟩:=x;unfold valOf;simp only;split
 ·exact .refl m
 ·split
  ·exact .refl m
  ·split
   ·rename_i h5;exact GN (hl h5) m
   ·exact GN he m
def Cl(k:Int)(a:aa):Prop:=(k=5\/k=6\/k=7\/k=8)->1<=a.len
mutual
def Ce:Ex->Prop
 |.mk k _ _ _ b a l=>Cl k a/\pj b/\pj a/\pj l
def pj:aa->Prop
 |.nil _=>True
 |.cons _ x l=>Ce x/\pj l
end
mutual
theorem AT:∀(x:Ex),Ce x->∀(S:aK) (n:Nat) (m:Ms),eu m (cU F G K strF x S n m).2.2 [(cU F G K strF x S n m).1]
 |.mk k nm num ps b a l,⟨h0,hb,ha,hl⟩,S,n,m=>by
  unfold cU;by_cases h5:k=5
  ·rw[if_pos h5];exact(GN (AX a ha (h0 (.inl h5))) m).put (Hh (by decide))
  rw[if_neg h5];by_cases h4:k=4
  ·rw[if_pos h4];exact(eu.refl m).put (Hh (by decide))
  rw[if_neg h4];by_cases h6:k=6
  ·rw[if_pos h6];exact(AX a ha (h0 (by omega)) S n m).put (λj=>by simp[comes])
  rw[if_neg h6];by_cases h7:k=7
  ·rw[if_pos h7];have h:=(Po b hb (aZ S b.names n) n m).trans (AX a ha (h0 (by omega)) (aZ S b.names n) (n+b.len) (iw F G K strF b (aZ S b.names n) n m).2);exact h.put (λj=>by simp[comes])
  rw[if_neg h7];by_cases h8:k=8
  ·rw[if_pos h8];have h:=AX a ha (h0 (by omega)) S n m;have k:=Pl l hl S (gj F G K strF a S n m).2.1 (gj F G K strF a S n m).2.2;exact(h.trans k).put (λj=>by simp[comes])
  rw[if_neg h8];by_cases h9:k=9
  ·rw[if_pos h9];exact(Pz a ha (strF nm).toNat S n m).put (λj=>by simp[comes])
  rw[if_neg h9];exact(eu.refl m).put (Hh (by decide))
theorem AX:∀(l:aa),pj l->1<=l.len->∀(S:aK) (n:Nat) (m:Ms),eu m (gj F G K strF l S n m).2.2 [(gj F G K strF l S n m).1]
 |.nil _,_,h,_,_,_=>by simp[aa.len]at h
 |.cons _ x _,⟨hx,_⟩,_,S,n,m=>by unfold gj;exact AT x hx S n m
theorem Pw:∀(x:Ex),Ce x->x.kind=5->∀(S:aK) (n:Nat) (m:Ms),eu m (gN F G K strF x S n m).2.2 [(gN F G K strF x S n m).1]
 |.mk k nm num ps b a l,⟨h0,hb,ha,hl⟩,h5,S,n,m=>by unfold gN;exact AX a ha (h0 (.inl h5)) S n m
theorem Po:∀(l:aa),pj l->∀(S:aK) (i:Nat) (m:Ms),eu m (iw F G K strF l S i m).2 []
 |.nil _,_,_,_,m=>by unfold iw;exact .refl m
 |.cons _ x l,⟨hx,hl⟩,S,i,m=>by unfold iw;simp only;have h:=SL (F:=F) (G:=G) (K:=K) (S:=S) (x:=x) (lam:=gN F G K strF x) (ex:=cU F G K strF x) (λh5=>Pw x hx h5) (AT x hx) m;exact h.trans (Po l hl S (i+1) _)
theorem Pl:∀(l:aa),pj l->∀(S:aK) (n:Nat) (m:Ms),eu m (fx F G K strF l S n m).2.2 ((fx F G K strF l S n m).1.map (·.op))
 |.nil _,_,_,_,m=>by unfold fx;exact .refl m
 |.cons _ x l,⟨hx,hl⟩,S,n,m=>by unfold fx;simp only[V4];exact(AT x hx _ _ _).trans (Pl l hl S _ _)
theorem Pz:∀(l:aa),pj l->∀(i:Nat) (S:aK) (n:Nat) (m:Ms),eu m (eX F G K strF l i S n m).2.2 (eX F G K strF l i S n m).1
 |.nil _,_,_,_,_,m=>by unfold eX;exact .refl m
 |.cons _ x l,⟨hx,hl⟩,0,S,n,m=>by unfold eX;exact .refl m
 |.cons _ x l,⟨hx,hl⟩,i+1,S,n,m=>by unfold eX;simp only;exact(AT x hx _ _ _).trans (Pz l hl i S _ _)
end
theorem Pr:∀(l:aa),pj l->∀(m:Ms),eu m (jf F G K strF l m).2 []
 |.nil _,_,m=>by exact .refl m
 |.cons p x l,⟨hx,hl⟩,m=>by have h:=SL (F:=F) (G:=G) (K:=K) (S:=λ_=>No) (x:=x) (lam:=gN F G K strF x) (ex:=cU F G K strF x) (λh5=>Pw x hx h5) (AT x hx) m;exact h.trans (Pr l hl _)
end
section
variable {C:Nat->List Nat}
def pJ(C:Nat->List Nat):Nat->List Nat->List Nat
 |0,_=>[]
 |_+1,[]=>[]
 |k+1,x::q=>x::pJ C k (q++C x)
def xE(C:Nat->List Nat):Nat->Nat->Nat
 |0,_=>1
 |k+1,j=>1+((C j).map (xE C k)).sum
def mz(C:Nat->List Nat):Prop:=∀j,∀c∈C j,c<j
def lP(C:Nat->List Nat)(j:Nat):Nat:=xE C (j+1) j
def jg(C:Nat->List Nat)(q:List Nat):Nat:=(q.map (lP C)).sum
theorem ac9(hC:mz C):∀(j k k':Nat),j<k->j<k'->xE C k j=xE C k' j:=by
 intro j;induction j using Nat.strongRecOn with
 |ind j ih=>intro k k' h h';obtain⟨k,rfl⟩:∃e,k=e+1:=⟨k-1,by omega⟩;obtain⟨k',rfl⟩:∃e,k'=e+1:=⟨k'-1,by omega⟩;unfold xE;rw[Z0 λc hc=>ih c (hC j c hc) k k' (by have:=hC j c hc;omega) (by have:=hC j c hc;omega)]
theorem Kk(hC:mz C)(j:Nat):lP C j=1+jg C (C j):=by
 show xE C (j+1) j=_
 unfold xE;rw[Z0 λc hc=>ac9 hC c j (c+1) (hC j c hc) (Q6 c)];rfl
theorem aed(a b:List Nat):jg C (a++b)=jg C a+jg C b:=by simp[jg]
theorem Cc(hC:mz C)(x:Nat)(q:List Nat):jg C (x::q)=1+jg C (q++C x):=by
 rw[aed];have:jg C (x::q)=lP C x+jg C q:=by simp[jg]
 rw[this,Kk hC];omega
theorem Uu(k:Nat):pJ C k []=[]:=by cases k<;>rfl
theorem LR(hC:mz C):∀(k:Nat) (q:List Nat),jg C q<=k->(pJ C k q).length=jg C q
 |0,[],_=>rfl
 |0,x::q,h=>by rw[Cc hC]at h;omega
 |k+1,[],_=>rfl
 |k+1,x::q,h=>by rw[Cc hC]at h|-;unfold pJ;rw[V6,LR hC k _ (by omega)];omega
theorem LQ(hC:mz C)(j:Nat):∀(k:Nat) (q:List Nat),jg C q<=k->(pJ C k q).count j=q.count j+((pJ C k q).flatMap C).count j
 |0,[],_=>rfl
 |0,x::q,h=>by rw[Cc hC]at h;omega
 |k+1,[],_=>rfl
 |k+1,x::q,h=>by rw[Cc hC]at h;have:=LQ hC j k (q++C x) (by omega);unfold pJ;grind
def fy(C:Nat->List Nat)(at':Nat):List Nat:=pJ C (lP C at') [at']
theorem KG(x:Nat):jg C [x]=lP C x:=by simp[jg]
theorem abG(hC:mz C)(a j:Nat):(fy C a).count j=[a].count j+((fy C a).flatMap C).count j:=LQ hC j _ _ (by rw[KG];grind)
theorem EX(hC:mz C)(a:Nat):(fy C a).length=lP C a:=by unfold fy;rw[LR hC _ _ (by rw[KG];grind),KG]
theorem LP{P:Nat->Prop}(hP:∀x,P x->∀c∈C x,P c):∀(k:Nat) (q:List Nat),(∀x∈q,P x)->∀x∈pJ C k q,P x
 |0,_,_,x,hx=>(Q8 hx).elim
 |k+1,[],_,x,hx=>(Q8 hx).elim
 |k+1,y::q,h,x,hx=>by
  rcases J1.1 hx with rfl|hx
  ·grind
  ·refine LP hP k (q++C y) (λz hz=>?_) x hx;grind
theorem HO(P:Nat->Bool)(j:Nat)(hP:∀i,P i=Ff->(C i).count j=0):∀L:List Nat,(L.flatMap C).count j=((L.filter P).flatMap C).count j
 |[]=>rfl
 |x::L=>by have ih:=HO P j hP L;grind
theorem Xz{L M:List Nat}(h:∀i,(C i).count j≠0->L.count i=M.count i):(L.flatMap C).count j=(M.flatMap C).count j:=by
 have hP:∀i,decide ((C i).count j≠0)=Ff->(C i).count j=0:=λi hi=>by grind
 rw[HO (λi=>decide ((C i).count j≠0)) j hP L,HO (λi=>decide ((C i).count j≠0)) j hP M];refine(List.Perm.flatMap_right _ ?_).count_eq j;rw[V7];intro a;by_cases ha:(C a).count j≠0
 ·simp_all
 ·have e:∀L:List Nat,(L.filter λi=>decide ((C i).count j≠0)).count a=0:=λL=>List.count_eq_zero.2 λhh=>by
   grind
  grind
end
def Be(ops:List bC)(i:Nat):bC:=ops.getD i {k:=0}
def dI(ops:List bC)(i:Nat):List Nat:=comes (Be ops i)
theorem Mx{ops:List bC}(h:ops.length<=i):dI ops i=[]:=by unfold dI Be;rw[List.getD,List.getElem?_eq_none h];rfl
theorem Hg{ops:List bC}{o:bC}(h:ops[i]? = So o):dI ops i=comes o:=by unfold dI Be;grind
theorem Xy(ops:List bC):ops.flatMap comes=(List.range ops.length).flatMap (dI ops):=by
 have:ops=(List.range ops.length).map (Be ops):=List.ext_getElem (by simp) λi h1 h2=>by simp[Be,List.getD,h1]
 conv=>lhs;rw[this]
 rw[List.flatMap_map];rfl
theorem VU(h:i<n):(List.range n).count i=1:=by grind
section
variable {m:Ms}(h:eu ⟨[],[]⟩ m [])
include h
theorem eu.IA:mz (dI m.ops):=λj c hc=>by
 rcases Q4 j m.ops.length with hj|hj
 ·rw[Hg (Q7 hj)]at hc;exact h.low j _ (Nat.zero_le _) (Q7 hj) c hc
 ·rw[Mx hj]at hc;grind
theorem eu.one(j:Nat):lV m j=if j<m.ops.length then 1 else 0:=by
 have:=h.cnt j;have e:lV ⟨[],[]⟩ j=0:=by simp[lV]
 grind
theorem eu.all(j:Nat):(m.bos.flatMap λb=>fy (dI m.ops) b.op).count j=if j<m.ops.length then 1 else 0:=by
 have hC:=h.IA;have key:∀(bs:List dS) (j:Nat),(bs.flatMap λb=>fy (dI m.ops) b.op).count j=(bs.map (·.op)).count j+((bs.flatMap λb=>fy (dI m.ops) b.op).flatMap (dI m.ops)).count j:=by
  intro bs j;induction bs with
  |nil=>rfl
  |cons b bs ih=>rw[Z3,List.flatMap_append,V8,V8,ih,abG hC b.op j,V4,V9,V9,List.count_nil];omega
 generalize hd:m.ops.length-j=d;induction d using Nat.strongRecOn generalizing j with
 |ind d ih=>
  rw[key];have e:((m.bos.flatMap λb=>fy (dI m.ops) b.op).flatMap (dI m.ops)).count j=((List.range m.ops.length).flatMap (dI m.ops)).count j:=by
   refine Xz λi hi=>?_
   have hm:j∈dI m.ops i:=V3.1 (Nat.pos_of_ne_zero hi);have h1:=hC i j hm;have h2:i<m.ops.length:=by
    rcases Q4 i m.ops.length with h2|h2
    ·exact h2
    ·rw[Mx h2]at hm;cases hm
   rw[ih (m.ops.length-i) (by omega) i rfl,if_pos h2,VU h2]
  rw[e,<-Xy,Z8];exact h.one j
theorem eu.HN{b:dS}(hb:b∈m.bos):(fy (dI m.ops) b.op).length<=m.ops.length:=by
 have hp:(m.bos.flatMap λb=>fy (dI m.ops) b.op).Perm (List.range m.ops.length):=by rw[V7];intro j;rw[h.all j];grind
 have:=hp.length_eq;have⟨l1,l2,e⟩:=List.append_of_mem hb;grind
end
inductive TS (ops:List bC) (P:bC->Prop):Nat->Prop where
 |mk (j:Nat) (o:bC) (h:ops[j]? = So o) (hp:P o) (hc:∀c∈comes o,TS ops P c):TS ops P j
theorem TS.mono{ops ops':List bC}{P Q:bC->Prop}(ho:∀(i:Nat) (o:bC),ops[i]? = So o->ops'[i]? = So o)(hP:∀o,P o->Q o)(h:TS ops P j):TS ops' Q j:=by
 induction h with
 |mk j o h hp _ ih=>exact .mk j o (ho j o h) (hP o hp) ih
theorem TS.at{ops:List bC}{P:bC->Prop}(h:TS ops P j):∃o,ops[j]? = So o/\P o:=by
 cases h with
 |mk _ o h hp _=>grind
theorem TS.QO{ops:List bC}{P:bC->Prop}{a:Nat}(h:TS ops P a)(hj:j∈fy (dI ops) a):∃o,ops[j]? = So o/\P o:=by
 refine TS.at (LP (P:=TS ops P) (λx hx c hc=>?_) _ [a] (λx hx=>by grind) j hj);cases hx with
 |mk _ o h hp hcs=>rw[Hg h]at hc;grind
def eA(z:Nat)(cs:List AV)(n:Nat):AV:=if n=0 then .sn else .rs cs n z
theorem Fx(h:aA cs=Tt):aE (eA z cs n)=true:=by
 unfold eA;split
 ·rfl
 ·simpa[aE]using h
theorem tP(f:α->List AV)(hz:∀x,(f x).length=z)(l:List α):gA (eA z (l.flatMap f) l.length) z (l.map f):=by
 refine⟨?_,λx hx=>?_⟩
 ·unfold eA;grind
 grind
theorem RJ(z n:Nat)(cs:List AV):(eA z cs n).cells=So [eA z cs n]:=by unfold eA;split<;>simp
theorem od(z n:Nat)(cs:List AV):bR (eA z cs n)=true:=by unfold eA;split<;>rfl
theorem mj{α:Type}(f:α->List AV)(h:∀x,aA (f x)=Tt):∀l:List α,aA (l.flatMap f)=Tt
 |[]=>rfl
 |x::l=>by rw[Z3,vF,h,mj f h l];rfl
theorem AQ{α:Type}{z:Nat}(f:α->List AV)(h:∀x,(f x).length=z):∀l:List α,(l.flatMap f).length=l.length*z
 |[]=>by simp
 |x::l=>by rw[Z3,J8,h,AQ f h l,V6,J6];omega
def iN(n:Nat):AV:=.i .i64 (n:Int)
def bI(r:Rf):List AV:=[.i .i64 r.1,.i .i64 r.2]
def bz(l:List Rf):AV:=eA 2 (l.flatMap bI) l.length
def mQ(n:Nat):List AV:=[iN n]
def fu(l:List Nat):AV:=eA 1 (l.flatMap mQ) l.length
def dG.cells(a:dG):List AV:=[iN a.k,iN a.n,bz a.rs,iN a.slot]
def cT.cells(a:cT):List AV:=[.i .i64 a.k,iN a.n,.i .i64 a.num,fu a.slots,iN a.op]
def ox(l:List dG):AV:=eA 4 (l.flatMap dG.cells) l.length
def gJ(l:List cT):AV:=eA 5 (l.flatMap cT.cells) l.length
def bC.cells(o:bC):List AV:=[iN o.k,iN o.n,.s o.nm,bz o.rs,fu o.ops,ox o.als,gJ o.chs,iN o.next]
def dS.cells(b:dS):List AV:=[iN b.free,iN b.ps,iN b.slots,iN b.op]
def fW.cells(g:fW):List AV:=[.s g.nm,iN g.k,iN g.n,bz g.rs]
theorem qd(l:List Rf):aE (bz l)=true:=Fx (mj _ (λ_=>rfl) l)
theorem DU(l:List Nat):aE (fu l)=true:=Fx (mj _ (λ_=>rfl) l)
theorem dG.pure(a:dG):aA a.cells=true:=by simp[dG.cells,aA,aE,iN,qd]
theorem cT.pure(a:cT):aA a.cells=true:=by simp[cT.cells,aA,aE,iN,DU]
theorem Ub(l:List dG):aE (ox l)=true:=Fx (mj _ dG.pure l)
theorem Mu(l:List cT):aE (gJ l)=true:=Fx (mj _ cT.pure l)
theorem bC.pure(o:bC):aA o.cells=true:=by simp[bC.cells,aA,aE,iN,qd,DU,Ub,Mu]
theorem dS.pure(b:dS):aA b.cells=true:=by simp[dS.cells,aA,aE,iN]
theorem fW.pure(g:fW):aA g.cells=true:=by simp[fW.cells,aA,aE,iN,qd]
theorem dG.sc(a:dG):bH a.cells=true:=by simp[dG.cells,iN,bz,od]
theorem cT.sc(a:cT):bH a.cells=true:=by simp[cT.cells,iN,fu,od]
theorem bC.sc(o:bC):bH o.cells=true:=by simp[bC.cells,iN,bz,fu,ox,gJ,od]
theorem dS.sc(b:dS):bH b.cells=true:=by simp[dS.cells,iN]
theorem fW.sc(g:fW):bH g.cells=true:=by simp[fW.cells,iN,bz,od]
def PY(P:Program)(fs:Array Field)(n:Nat):Bool:=(List.range n).all λi=>match gP P fs i with|some (o,s)=>Nat.beq o i&&Nat.beq s 1|none=>Ff
def Oz(P:Program)(ty n:Nat):Bool:=match P.underlying ty with|some (.struct fs)=>PY P fs n|_=>Ff
structure Flat(P:Program)(ty n:Nat)(zs:List AV):Prop where
 wf:eC P ty=Tt
 fl:Oz P ty n=Tt
 z:bt P ty=So zs
 len:zs.length=n
theorem Nn{place:Nat->Option (Nat×Nat)}{n:Nat}(hp:∀i,i<n->place i=So (i,1)):∀(l:List (Nat×AV)) (zs:List AV),zs.length=n->(∀p∈l,p.1<n/\p.2.cells=So [p.2])->fill place zs l=So (l.foldl (λz p=>z.set p.1 p.2) zs)
 |[],_,_,_=>rfl
 |(i,v)::l,zs,hl,h=>by
  have⟨h1,h2⟩:=h (i,v) (List.mem_cons_self ..);have ih:=Nn hp l (zs.set i v) (by grind) λp hp=>h p (J5 _ hp)
  have e:(Nat.beq [v].length 1&&Nat.ble (i+1) zs.length)=true:=by rw[Q3 (by omega)];rfl
  unfold fill;simp only[hp i h1,h2,e];rw[Bk];grind
theorem Flat.build{ty n:Nat}{zs:List AV}(H:Flat P ty n zs){ps:Array (Nat×Operand)}(h:∀p∈ps.toList,p.1<n/\(ah t p.2).cells=So [ah t p.2]):cO (.build ty ps) P S t st=So (.ag (ps.toList.foldl (λz p=>z.set p.1 (ah t p.2)) zs),st):=by
 have hf:=H.fl;unfold Oz at hf;split at hf
 case h_2=>grind
 rename_i fs hu;have hp:∀i,i<n->gP P fs i=So (i,1):=λi hi=>by
  unfold PY at hf;rw[List.all_eq_true]at hf;have:=hf i (List.mem_range.2 hi);split at this
  ·rename_i o s e;rw[Bool.and_eq_true,bh,bh,decide_eq_true_eq,decide_eq_true_eq]at this;rw[e,this.1,this.2]
  ·cases this
 show @Bool.rec (λ_=>aD) No (cI P ty (eB t ps.toList) st) (eC P ty)=_
 rw[H.wf];unfold cI;rw[hu];simp only[H.z,jc];rw[Nn hp _ _ H.len (λp hp=>by unfold eB at hp;grind)];unfold eB;rw[List.foldl_map];rfl
def Kv(R F F':List Nat)(a b:St):Prop:=Kp (R++F) (R++F) a b/\∀y∈F',y∈F\/a.next<=y
section
variable {R R' F F' F'' B:List Nat}{a b d:St}
theorem Kv.refl(R F:List Nat)(a:St):Kv R F F a a:=⟨.refl _ _ _,λ_ h=>.inl h⟩
theorem Kv.out(h:Kv R F F' a b){y:Nat}(hy:y<a.next)(h1:y∉F):y∉F':=λhh=>by
 rcases h.2 y hh with h|h
 ·exact h1 h
 ·omega
theorem Kv.step(h:Kv R F F' a b)(k:Kp A B b d)(hA:∀y∈A,y∈R++F'\/a.next<=y)(hB:∀y∈B,y∈R++F'\/a.next<=y):Kv R F F' a d:=by
 have key:∀(L:List Nat),(∀y∈L,y∈R++F'\/a.next<=y)->∀y,y<a.next->y∉R++F->y∉L:=λL hL y h1 h2 hh=>by
  rcases hL y hh with h3|h3
  ·rcases V2.1 h3 with h4|h4
   ·grind
   ·exact h.out h1 (λhh=>h2 (List.mem_append_right _ hh)) h4
  grind
 exact⟨⟨Q1 h.1.next k.next,λr h1 h2=>(k.get r (Q2 h1 h.1.next) (key A hA r h1 h2)).trans (h.1.get r h1 h2),λg h1 h2=>(k.live g (Q2 h1 h.1.next) (key B hB g h1 h2)).trans (h.1.live g h1 h2)⟩,h.2⟩
theorem Kv.call(h:Kv R F F' a b)(k:Kv R' F' F'' b d)(hR:∀y∈R',y∈R\/a.next<=y):Kv R F F'' a d:=by
 have:=h.step k.1 (λy hy=>by
  grind) (λy hy=>by
  grind)
 refine⟨this.1,λy hy=>?_⟩;rcases k.2 y hy with h1|h1
 ·exact h.2 y h1
 ·exact .inr (Q1 h.1.next h1)
theorem Kv.of(k:Kp [] [] a b):Kv R F F a b:=⟨k.sub (by simp) (by simp),λ_ h=>.inl h⟩
theorem Kv.next(h:Kv R F F' a b):a.next<=b.next:=h.1.next
theorem Kv.ce(h:Kv R F F' a b){r g:Nat}{l:List AV}{al:List Nat}(hc:a.ce r=So (l,g,al))(h1:r<a.next)(h2:g<a.next)(h3:r∉R++F)(h4:g∉R++F):b.ce r=So (l,g,al):=h.1.ce hc h1 h2 h3 h4
end
theorem di.Xi(h:∀l g al,st.ce r=So (l,g,al)->q g=Ff):di q st (.p r o) (.p r o):=⟨1,by
 unfold fk;have:oA q st r=none:=by unfold oA;grind
 grind⟩
section
open Go.Sort Go.Proofs
theorem acO(hr:Rel E w.heap st)(n:Nat)(os:Array Obj):aR E E w (Sort.grow (w.drewN n) os) st st:=by
 refine⟨Step.grow hr ?_ λb hb=>?_,rfl,rfl⟩
 ·simp_all
 ·show(w.heap++os)[b]? = w.heap[b]?
  grind
theorem Ob(hr:Rel E w.heap st)(h:rd st r o n=So l){B:eo}(hB:E.phi r=So B):
  ∃us:List Value,aH E l us/\us.length=n/\Sort.Holds id w B.b (o+B.d) us.toArray/\B.b<w.heap.size:=by
 unfold rd at h;cases hc:st.ce r with
 |none=>grind
 |some x=>
  rw[hc]at h;have⟨B',cs,t,fz,hB',hH,hfz,hn,hd,hC⟩:=hr.cells hc;rw[hB]at hB';cases hB';obtain⟨rfl,hk⟩:=pQ h;have h2:=(hC.drop o).take n;have hlt:B.b<w.heap.size:=(Array.getElem?_eq_some_iff.1 hH).1;refine⟨_,h2,by grind,λj hj=>?_,hlt⟩;have hj3:o+B.d+j<cs.length:=by grind
  refine⟨?_,?_⟩
  ·grind[World.cell?]
  ·simp[World.frozen?,hH];have:=hfz.not (o+B.d+j) hj3;grind
theorem abp(cs F:List Value)(o:Nat)(h:o+F.length<=cs.length):Sort.putCells id o F.toArray cs.toArray=(aW cs o F).toArray:=by
 apply Array.ext_getElem?;intro k;rw[mg cs o F h];simp only[Sort.putCells,Array.getElem?_mapIdx,List.getElem?_toArray,List.size_toArray,id];simp only[List.getElem?_append,List.length_take,J8,Z7,List.getElem?_drop];have e1:min o cs.length=o:=by omega
 rw[e1];by_cases h1:k<o
 ·have h3:k<o+F.length:=by omega
  rw[if_pos h3,if_pos h1,if_pos h1,Q7 (by omega:k<cs.length),Z4,if_neg (by omega)]
 ·by_cases h2:k<o+F.length
  ·rw[if_pos h2,if_neg h1,Q7 (by omega:k<cs.length),Z4,if_pos ⟨by omega,h2⟩,Q7 (by omega:k-o<F.length)];rw[getElem!_pos _ _ (by simp;omega)];simp
  ·rw[if_neg h2,show o+F.length+(k-(o+F.length))=k by omega];cases cs[k]? with
   |none=>rfl
   |some y=>rw[Z4,if_neg (by omega)]
theorem RV(hr:Rel E w.heap st){vs:List AV}(hw:wt st r o vs=So st')(hc:aH E vs us)(n:Nat)(os:Array Obj){B:eo}(hB:E.phi r=So B):
  aR E E w (Sort.grow (Sort.putRow id (Sort.ahead w n) B.b (o+B.d) us.toArray) os) st st':=by
 have⟨B',cs,t,fz,hB',h2,h3,h4,h5,h6⟩:=Step.wt hr hw hc;have e:(Sort.putRow id (Sort.ahead w n) B.b (o+B.d) us.toArray).heap=w.heap.setIfInBounds B.b (.cells (aW cs (o+B.d) us).toArray t fz):=by
  show w.heap.modify B.b (Sort.onCells (Sort.putCells id (o+B.d) us.toArray))=_
  grind[Sort.onCells,abp]
 have s1:Step E E w.heap (Sort.putRow id (Sort.ahead w n) B.b (o+B.d) us.toArray).heap st st':=by grind
 have s2:Step E E (Sort.putRow id (Sort.ahead w n) B.b (o+B.d) us.toArray).heap (Sort.grow (Sort.putRow id (Sort.ahead w n) B.b (o+B.d) us.toArray) os).heap st' st':=by
  refine Step.grow s1.rel ?_ λb hb=>?_
  ·simp[Sort.grow]
  ·simp[Sort.grow];rw[Array.getElem?_append_left hb]
 exact⟨s1.trans s2,rfl,rfl⟩
theorem CV{args:Array Value}{v:Value}{Q:World->Prop}(h:Calls P f args w λe w'=>e=.returned v/\Q w'):∃W,jD P ks f args w W v/\Q W:=by obtain⟨e,w',fr,⟨rfl,hq⟩,h1,h2,h3⟩:=h ks;exact⟨w',⟨fr,h1,h2,h3⟩,hq⟩
def uO(s:ae):List UInt8:=s.map UInt8.ofNat
theorem Ve(l:List UInt8):uO (l.map UInt8.toNat)=l:=by
 unfold uO;rw[Z6]
 conv=>rhs;rw[<-List.map_id l]
 exact Z0 λa _=>by simp
def pX(x y:ae):Bool:=decide (uO x<=uO y)
def jz(l:List ae):List ae:=l.mergeSort pX
theorem BP(l:List ae):(jz l).Perm l:=List.mergeSort_perm l pX
theorem FA(l:List ae):(jz l).length=l.length:=List.length_mergeSort l
def tW:List AV->Option (List ae)
 |[]=>So []
 |.s x::l=>match tW l with|some r=>So (x::r)|none=>No
 |_::_=>No
theorem R4:∀{l:List AV}{r:List ae},tW l=So r->l=r.map .s
 |[],r,h=>by cases h;rfl
 |v::l,r,h=>by cases v<;>first|(simp[tW]at h;cases hl:tW l with|none=>grind|some q=>rw[hl]at h;cases h;rw[R4 hl];rfl)|cases h
theorem R5:∀l:List ae,tW (l.map .s)=So l
 |[]=>rfl
 |x::l=>by simp[tW,R5 l]
theorem MD{E:Env}:∀{l:List ae}{us:List Value},aH E (l.map .s) us->∃bs:List (List UInt8),us=bs.map encStr/\l=bs.map (·.map UInt8.toNat)
 |[],us,h=>by cases h;simp_all
 |x::l,us,h=>by
  cases h with
  |cons _ _ u us h1 h2=>
  obtain⟨bs,rfl,rfl⟩:=MD h2;generalize hx:AV.s x=y at h1;cases h1<;>cases hx
  rename_i b;exact⟨b.data.toList::bs,rfl,rfl⟩
theorem Rr{E:Env}:∀bs:List (List UInt8),aH E ((bs.map (·.map UInt8.toNat)).map .s) (bs.map encStr)
 |[]=>.nil
 |b::bs=>.cons _ _ _ _ (Conc.s (⟨b.toArray⟩:ByteArray)) (Rr bs)
theorem Yd{bs:List (List UInt8)}(h:Sort.Holds id w b o (bs.map encStr).toArray):Sort.Holds encStr w b o bs.toArray:=by intro j hj;have:=h j (by grind);grind
theorem abw(w:World)(b o:Nat)(bs:List (List UInt8)):Sort.putRow encStr w b o bs.toArray=Sort.putRow id w b o (bs.map encStr).toArray:=by grind[Sort.putRow,Sort.mapBlock_congr,Sort.putCells]
theorem RM(h:Conc E (.sl r o n z c) u)(hn:0<n):∃B k,E.phi r=So B/\u=.slice (So ⟨B.b,o+B.d,No⟩) n k/\n<=k:=by
 cases h with
 |slk _ _ _ _ c a h1 h2=>grind
 |slu _ _ _ _ c a h1 h2=>grind
def oZ(g:FuncId)(f:FuncId)(xs:List AV)(st:St):Option (AV×St):=
 if f=g then match xs with
  |[.sn]=>So (.tu [],st)
  |[.sl r o n _ _]=>if 0<n/\n<4611686018427387904 then(rd st r o n).bind λl=>(tW l).bind λss=>(wt st r o ((jz ss).map .s)).bind λst'=>So (.tu [],st') else No
  |_=>No
 else No
theorem JS{g:FuncId}(h:f≠g):oZ g f xs st=none:=by unfold oZ;grind
theorem acy{g:FuncId}:oZ g g [.sn] st=So (.tu [],st):=by unfold oZ;grind
theorem acx{ss:List ae}(h1:0<n)(h2:n<4611686018427387904)(h3:rd st r o n=So l)(h4:l=ss.map .s)(h5:wt st r o ((jz ss).map .s)=So st'):oZ g g [.sl r o n z c] st=So (.tu [],st'):=by unfold oZ;simp[h1,h2,h3,h4,R5,h5]
theorem acz{g:FuncId}(hn:∀(w:World),Calls P g #[.slice No 0 0] w λe w'=>e = .returned (.tuple #[])∧w'=w)
  (hs:∀(blk off cap:Nat) (ss:List (List UInt8)) (w:World),Sort.Holds encStr w blk off ss.toArray->blk<w.heap.size->ss.length<4611686018427387904->
   Calls P g #[.slice (So ⟨blk,off,No⟩) ss.length cap] w λe w'=>e=.returned (.tuple #[])/\∃n os,w'=Sort.grow (Sort.putRow encStr (Sort.ahead w n) blk off (ss.mergeSort λx y=>decide (x<=y)).toArray) os):um P (oZ g):=by
 refine⟨λf xs st=>?_,λ{ks E w st st' f xs us v} hr hc h hn'=>?_⟩
 ·unfold oZ;split
  ·split
   ·exact fp
   ·split
    ·cases h1:rd st _ _ _ with
     |none=>exact bu
     |some l=>
      simp;cases h2:tW l with
      |none=>exact bu
      |some ss=>
       simp;cases h3:wt st _ _ _ with
       |none=>exact bu
       |some st'=>exact λ_ _ e=>by cases e;exact B7 _ h3
    ·exact bu
   ·exact bu
  ·exact bu
 ·unfold oZ at h;split at h
  case isFalse=>grind
  rename_i hg;subst hg;split at h
  ·cases h;cases hc with
   |cons _ _ u us h1 h2=>
   cases h2;cases h1;obtain⟨W,h1,rfl⟩:=CV (ks:=ks) (hn w);exact⟨E,_,_,h1,.refl hr,.tu _ _ .nil⟩
  ·rename_i r o n z c;split at h
   case isFalse=>grind
   rename_i hb;cases h1:rd st r o n with
   |none=>grind
   |some l=>
   rw[h1,Z5]at h;cases h2:tW l with
   |none=>grind
   |some ss=>
   rw[h2,Z5]at h;cases h3:wt st r o ((jz ss).map .s)with
   |none=>grind
   |some st2=>
   rw[h3,Z5]at h;cases h;cases hc with
   |cons _ _ u us k1 k2=>
   cases k2;obtain⟨B,k,hB,rfl,hk⟩:=RM k1 hb.1;have⟨us,e1,e2,e3,e4⟩:=Ob hr h1 hB;rw[R4 h2]at e1;obtain⟨bs,rfl,rfl⟩:=MD e1;have hl:bs.length=n:=by grind
   obtain⟨W,h1,m,os,rfl⟩:=CV (ks:=ks) (hs B.b (o+B.d) k bs w (Yd e3) e4 (by omega));rw[hl]at h1;refine⟨E,_,_,h1,?_,.tu _ _ .nil⟩;rw[abw];refine RV hr h3 ?_ m os hB;have:jz (bs.map (·.map UInt8.toNat))=(bs.mergeSort λx y=>decide (x<=y)).map (·.map UInt8.toNat):=by grind[jz,List.map_mergeSort,pX,Ve]
   rw[this];exact Rr _
  grind
