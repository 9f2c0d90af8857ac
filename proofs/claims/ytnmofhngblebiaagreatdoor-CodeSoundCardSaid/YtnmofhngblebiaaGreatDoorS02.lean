/- A part of the proof. -/
import Derived.Test.YtnmofhngblebiaaGreatDoorS01
import Derived.IntWalk
import Derived.Laws.StructEq
import Derived.Laws.MakeOwn
open Option renaming some->So,none->No
open Bool renaming true->Tt,false->Ff
open Go.Sem renaming run_bind->Q0,run_pure->Q3,run_ite->Z9
open Go.Result renaming andThen_ok->Q1
open Nat renaming le_of_ble_eq_true->Q2,le_refl->Q4,ble_eq_true_of_le->Q6,blt_eq->Q7,add_mul->Q8,mul_le_mul_right->J3,eq_of_beq_eq_true->J4,zero_mul->J5,add_zero->J6,sub_mul->V1,sub_self->V2,ble_eq->V4
open Bool renaming and_eq_true->Q5,eq_iff_iff->J1,false_eq_true->V7
open Go.ByteArray renaming toList_eq->Q9
open List renaming mem_cons->J8,mem_cons_of_mem->J9,mem_cons_self->Z0,ext_getElem?->Z3,drop_eq_getElem_cons->Z6,length_take->Z7,map_drop->K8,map_take->V0,eq_nil_of_length_eq_zero->V3
open Array renaming getElem?_eq_some_iff->Z4,eq_empty_of_size_eq_zero->Z5,toList_inj->V6
open UInt8 renaming toNat_inj->Z8
noncomputable section
namespace Go.Ev
variable {E E':Env}{H':Array Obj}{P:Program}{S:Self}{a b c cap e g len m n need o r sCap sLen z:Nat}{al:List Nat}{base:Option Addr}{cs us:Array Value}{d kd:TypeDesc}{fz:Nat×Nat}{h hv:Option Value}{hi lo mx:Option AV}{i u u1 u2 uk uv ux:Value}{ix k s v x y:AV}{l:List AV}{op:BinOp}{parts:Array (Nat×Operand)}{place:Nat->Option (Nat×Nat)}{st st':St}{t ty:TypeId}{ts:List TypeId}{vs:List Value}{w w':World}{xo yo:Operand}{α:Type}{ρ:Operand->Value}
section
variable {H:Array Obj}
theorem St.yp(st:St)(r x:Nat):(st.drop r).get x=if x=r then No else st.get x:=by simp[St.drop,St.get,Tr.cW]
theorem St.get_put(st:St)(r:Nat)(row:Row)(x:Nat):(st.put r row).get x=if x=r then So row else st.get x:=by simp[St.put,St.get,Tr.cW]
theorem yf{x:Nat}{row:Row}(h:(st.drop r).alive x=So row):x≠r/\st.alive x=So row:=by
 have hx:x≠r:=by have:=Rel.kZ h;grind[St.yp]
 refine⟨hx,?_⟩;unfold St.alive at h|-;rw[St.yp,if_neg hx]at h;exact h
theorem Step.drop(h:Rel E H st)(r:Nat):Step E E H H st (st.drop r):=by
 refine⟨.refl E,λ_ _ _ h=>h,rfl,⟨h.imm,h.fresh,?_,h.freshG,h.liveLt,?_,?_,?_,?_,λx t r0 q hx=>by
  rw[St.yp]at hx;split at hx
  ·grind
  ·exact h.tys x t r0 q hx⟩,Q4 _,λ_ _ _=>rfl,?_⟩
 ·intro x hx;rw[St.yp];split
  ·rfl
  ·exact h.freshRow x hx
 ·intro x row hx;exact h.rows x row (yf hx).2
 ·intro x row B hx hB;exact h.own x row B (yf hx).2 hB
 ·intro x y row row' B B' hx hy hB hB' hb;exact h.sep x y row row' B B' (yf hx).2 (yf hy).2 hB hB' hb
 ·intro g al hg;refine(h.ends g al hg).imp ?_;intro x y hxy lx ly Bx By h1 h2;rw[St.yp]at h1 h2;split at h1
  ·grind
  ·split at h2
   ·grind
   ·exact hxy lx ly Bx By h1 h2
 ·rintro b ⟨x,row,B,hx,hB,rfl⟩;exact .inr ⟨x,row,B,(yf hx).2,hB,rfl⟩
theorem Step.other(h:Rel E H st)(o:Obj):Step E E H (H.push o) st st:=by
 have hold:∀b,b<H.size->(H.push o)[b]? = H[b]?:=λb hb=>by grind
 refine⟨.refl E,λ_ _ _ h=>h,rfl,⟨?_,h.fresh,h.freshRow,h.freshG,h.liveLt,?_,h.own,h.sep,h.ends,λx t r0 q hx=>(h.tys x t r0 q hx).mono (.refl E) (dZ.push H o)⟩,by simp,λb hb _=>hold b hb,λ_ h=>.inr h⟩
 ·intro b o' hb;rw[hold b (h.wG hb)];exact h.imm b o' hb
 ·intro r row hr;have⟨B,hB,hR⟩:=h.rows r row hr;exact⟨B,hB,hR.mono (.refl E) (hold _ hR.lt)⟩
theorem Step.yK(h:Step E E' H H' st st')(hb:jh E st b\/H.size<=b)(hn:Un E' st' b)(o:Obj)(hk:dZ H' (H'.setIfInBounds b o)):Step E E' H (H'.setIfInBounds b o) st st':=by
 have hold:∀c,c≠b->(H'.setIfInBounds b o)[c]? = H'[c]?:=λc hc=>by grind
 have hr:=h.rel;refine⟨h.le,h.imm,h.top,⟨?_,hr.fresh,hr.freshRow,hr.freshG,hr.liveLt,?_,hr.own,hr.sep,hr.ends,λx t r0 q hx=>(hr.tys x t r0 q hx).mono (.refl E') hk⟩,by simpa using h.fr.size,?_,h.fr.own⟩
 ·intro c o' hc;have:c≠b:=by rintro rfl;rw[hn.2]at hc;grind
  rw[hold c this];exact hr.imm c o' hc
 ·intro r row hrow;have⟨B,hB,hR⟩:=hr.rows r row hrow;refine⟨B,hB,hR.mono (.refl E') (hold _ ?_)⟩;rintro rfl;exact hn.1 ⟨r,row,B,hrow,hB,rfl⟩
 ·intro c hc ho;have:c≠b:=by
   grind
  rw[hold c this];exact h.fr.keep c hc ho
theorem Bu{x:Nat}{row w:Row}(hce:∀l g,row≠.ce l g)(h:(st.put r row).alive x=So w):(x=r/\w=row)\/(x≠r/\st.alive x=So w):=by
 by_cases e:x=r
 ·have:=Rel.kZ h;grind[St.get_put]
 ·right;refine⟨e,?_⟩;unfold St.alive at h|-;rw[St.get_put,if_neg e]at h;exact h
theorem Step.T6(h:Step E E' H H' st st'){row:Row}{B:eo}(hce:∀l g,row≠.ce l g)(hr:r<st'.next)(hB:E'.phi r=So B)(hrow:gE E' H' B row)
  (hb:jh E st B.b\/H.size<=B.b) (hn:Un E' st' B.b):Step E E' H H' st (st'.put r row):=by
 have hh:=h.rel;refine⟨h.le,h.imm,h.top,⟨hh.imm,hh.fresh,?_,hh.freshG,hh.liveLt,?_,?_,?_,?_,λx t r0 q hx=>by
  rw[St.get_put]at hx;split at hx
  ·cases hx;exact(show False from hrow).elim
  ·exact hh.tys x t r0 q hx⟩,h.fr.size,h.fr.keep,?_⟩
 ·intro x hx;have hx':st'.next<=x:=hx;rw[St.get_put,if_neg (by omega)];exact hh.freshRow x hx'
 ·intro x w hx;rcases Bu hce hx with ⟨rfl,rfl⟩|⟨_,hx⟩
  ·grind
  ·exact hh.rows x w hx
 ·intro x w C hx hC;rcases Bu hce hx with ⟨rfl,rfl⟩|⟨_,hx⟩
  ·rw[hB]at hC;cases hC;exact hn.2
  ·exact hh.own x w C hx hC
 ·intro x y w w' C C' hx hy hC hC' hbb;rcases Bu hce hx with ⟨rfl,rfl⟩|⟨_,hx1⟩<;>rcases Bu hce hy with ⟨rfl,rfl⟩|⟨_,hy1⟩
  ·grind
  ·rw[hB]at hC;cases hC;exact absurd ⟨y,w',C',hy1,hC',hbb.symm⟩ hn.1
  ·rw[hB]at hC';cases hC';exact absurd ⟨x,w,C,hx1,hC,hbb⟩ hn.1
  ·exact hh.sep x y w w' C C' hx1 hy1 hC hC' hbb
 ·intro g al hg;refine(hh.ends g al hg).imp ?_;intro x y hxy lx ly Bx By h1 h2;rw[St.get_put]at h1 h2;split at h1
  ·grind
  ·split at h2
   ·grind
   ·exact hxy lx ly Bx By h1 h2
 ·rintro b ⟨x,w,C,hx,hC,rfl⟩;rcases Bu hce hx with ⟨rfl,rfl⟩|⟨_,hx⟩
  ·grind
  ·exact h.fr.own _ ⟨x,w,C,hx,hC,rfl⟩
theorem Step.adq(h:Step E E' H H' st st')(hb:b<H.size)(hn:¬jh E st b):¬jh E' st' b:=λho=>by
 rcases h.fr.own b ho with hh|hh
 ·omega
 ·exact hn hh
theorem Step.un(h:Step E E' H H' st st')(hb:b<H.size)(hn:Un E st b):Un E' st' b:=⟨h.adq hb hn.1,h.imm b hb hn.1 hn.2⟩
theorem Rel.Ks(h:Rel E H st)(hb:H.size<=b)(hn:¬jh E st b):Un E st b:=⟨hn,by
 cases hi:E.imm b with
 |none=>rfl
 |some o=>have:=h.wG hi;omega⟩
theorem MU(h:Rel E H st){row:Row}{B:eo}(ha:st.alive r=So row)(hce:∀l g,row≠.ce l g)(hB:E.phi r=So B):Un E (st.drop r) B.b:=by
 refine⟨?_,h.own _ _ _ ha hB⟩;rintro⟨x,w,C,hx,hC,hb⟩;have⟨hne,hx⟩:=yf hx;rcases h.sep x r w row C B hx ha hC hB hb with rfl|⟨g,l,l',_,rfl⟩
 ·exact hne rfl
 ·exact hce _ _ rfl
theorem Step.XI(h:Rel E H st){fz':Nat×Nat}(hb:H[b]? = So (.cells cs t fz))(ho:jh E st b)(hi:E.imm b=No)(hz:my cs.size fz->my cs.size fz'):
  Step E E H (H.setIfInBounds b (.cells cs t fz')) st st:=by
 have hlt:b<H.size:=(Z4.1 hb).1;have hold:∀c,c≠b->(H.setIfInBounds b (.cells cs t fz'))[c]? = H[c]?:=λc hc=>by rw[Array.getElem?_setIfInBounds_ne (Ne.symm hc)]
 have hnew:(H.setIfInBounds b (.cells cs t fz'))[b]? = So (.cells cs t fz'):=by simp[hlt]
 refine⟨.refl E,λ_ _ _ h=>h,rfl,⟨?_,h.fresh,h.freshRow,h.freshG,h.liveLt,?_,h.own,h.sep,h.ends,λx t r0 q hx=>(h.tys x t r0 q hx).mono (.refl E) (dZ.set hb)⟩,by simp,?_,λ_ h=>.inr h⟩
 ·intro c o' hc;have:c≠b:=by rintro rfl;rw[hi]at hc;cases hc
  rw[hold c this];exact h.imm c o' hc
 ·intro r row hr;have⟨B,hB,hR⟩:=h.rows r row hr;refine⟨B,hB,?_⟩;by_cases e:B.b=b
  ·cases row with
   |ce l g=>have⟨cs',t',fz1,a1,a2,a3,a4,a5⟩:=hR;rw[e,hb]at a1;cases a1;exact⟨cs,t,fz',by rw[e];exact hnew,hz a2,a3,a4,a5⟩
   |mp=>have⟨_,a1,_⟩:=hR;rw[e,hb]at a1;cases a1
   |si=>have⟨_,_,a1,_⟩:=hR;rw[e,hb]at a1;cases a1
   |mi=>have⟨_,_,a1,_⟩:=hR;rw[e,hb]at a1;cases a1
   |lp=>have⟨_,_,_,a1,_⟩:=hR;rw[e,hb]at a1;cases a1
   |mu=>have⟨_,_,_,a1,_⟩:=hR;rw[e,hb]at a1;cases a1
   |ch=>have⟨_,_,_,a1,_⟩:=hR;rw[e,hb]at a1;cases a1
   |ty=>exact(show False from hR).elim
  ·exact hR.mono (.refl E) (hold _ e)
 ·intro c hc hn;exact hold c λe=>hn (e▸ho)
theorem Step.Ej(h:Rel E H st){t r0:Nat}{x:Bool}(ht:nj E H t r0 x):Step E E H H st (st.new (.ty t r0 x)):=by
 have hget:∀r,(st.new (.ty t r0 x)).get r=if r=st.next then So (.ty t r0 x) else st.get r:=St.oG st _
 have hal:∀{r:Nat}{row:Row},(st.new (.ty t r0 x)).alive r=So row->st.alive r=So row:=by
  intro r row hr;unfold St.alive at hr|-;rw[hget]at hr;by_cases e:r=st.next
  ·grind
  ·rw[if_neg e]at hr;exact hr
 have hce:∀{r:Nat}{l:List AV}{g:Nat},(st.new (.ty t r0 x)).get r=So (.ce l g)->st.get r=So (.ce l g):=by grind
 have hnext:(st.new (.ty t r0 x)).next=st.next+1:=rfl;refine⟨.refl E,λ_ _ _ h=>h,rfl,⟨h.imm,λr hr=>h.fresh r (by omega),λr hr=>?_,λg hg=>h.freshG g (by omega),λg al y hg hy=>?_,λr row hr=>h.rows r row (hal hr),λr row B hr hB=>h.own r row B (hal hr) hB,
  λr r' row row' B B' hr hr' hB hB' hb=>h.sep r r' row row' B B' (hal hr) (hal hr') hB hB' hb,λg al hg=>?_,λr t' r' q hr=>?_⟩,Q4 _,λ_ _ _=>rfl,?_⟩
 ·rw[hget,if_neg (by omega)];exact h.freshRow r (by omega)
 ·have:=h.liveLt g al y hg hy;omega
 ·refine(h.ends g al hg).imp ?_;intro a b hab la lb Ba Bb h1 h2;exact hab la lb Ba Bb (hce h1) (hce h2)
 ·rw[hget]at hr;split at hr
  ·grind
  ·exact h.tys r t' r' q hr
 ·rintro b ⟨r,row,B,hr,hB,rfl⟩;exact .inr ⟨r,row,B,hal hr,hB,rfl⟩
theorem ado{t:Nat}{x:Bool}(h:Kr st r=So (t,x)):st.get (r+1)=So (.ty t r x):=by
 unfold Kr at h;split at h
 ·rename_i t' r0 x' hg;cases hb:Nat.beq r0 r with
  |false=>rw[hb]at h;cases h
  |true=>rw[hb]at h;cases h;rw[hg,J4 hb]
 ·cases h
theorem Kq(h:Rel E H st){t:Nat}(ht:BY st r t=Tt):nj E H t r true:=by
 unfold BY at ht;split at ht
 ·rename_i u hu;rw[<-J4 ht];exact h.tys _ _ _ _ (ado hu)
 ·cases ht
theorem OH{x:Nat}{l':List AV}(hr:st.ce r=So (l,g,al)):(st.kill r).alive x≠So (.ce l' g):=by
 intro hx;have hg:=Rel.kZ hx;have hk:st.kill r=⟨st.rows,st.live.set g (So []),st.next⟩:=by unfold St.kill;rw[hr]
 rw[hk]at hx hg;unfold St.alive at hx;rw[hg]at hx;simp only[Tr.cW,if_pos]at hx;simp[mem]at hx
theorem Step.YI(h:Rel E H st)(hr:st.ce r=So (l,g,al)){B:eo}(hB:E.phi r=So B)(hH:H[B.b]? = So (.cells cs t fz))(cs':Array Value)(fz':Nat×Nat):
  Step E E H (H.setIfInBounds B.b (.cells cs' t fz')) st (st.kill r):=by
 obtain⟨ha,-,-,-⟩:=St.lA hr;refine(Step.kill h r).yK (.inl ⟨r,_,B,ha,hB,rfl⟩) ⟨?_,h.own r _ B ha hB⟩ _ (dZ.set hH);rintro⟨x,row,C,hx,hC,hb⟩;have hx':=(yw hx).1;rcases h.sep x r row _ C B hx' ha hC hB hb with rfl|⟨g',l1,l2,rfl,h2⟩
 ·rw[ha]at hx';cases hx';exact OH hr hx
 ·cases h2;exact OH hr hx
end
theorem nZ(v:Value):Conc E (rV v) v:=by
 cases v with
 |bool x=>exact .b x
 |int k n=>exact .i k n
 |string s=>exact .s s
 |pointer a=>cases a with
  |none=>exact .pn
  |some a=>exact .bad _
 |slice a n c=>cases a with
  |none=>
   show Conc E (@Bool.rec (λ_=>AV) .bad .sn (Nat.beq (n+c) 0)) _
   rw[bh];by_cases h:n+c=0
   ·have h1:n=0:=by omega
    have h2:c=0:=by omega
    subst h1;subst h2;exact .sn
   ·simp only[h,decide_false];exact .bad _
  |some a=>exact .bad _
 |map r=>cases r with
  |none=>exact .mn
  |some r=>exact .bad _
 |func fn a b=>
  show Conc E (@Bool.rec (λ_=>AV) .bad (.f fn [] []) (Nat.beq (a.size+b.size) 0&&nT fn)) _
  cases hh:(Nat.beq (a.size+b.size) 0&&nT fn)with
  |false=>exact .bad _
  |true=>simp only[Q5,bh,decide_eq_true_eq]at hh;have⟨h,hf⟩:=hh;have h1:a = #[]:=Z5 (by omega);have h2:b = #[]:=Z5 (by omega);subst h1;subst h2;exact .f fn [] [] [] [] hf .nil .nil
 |nilFunc=>exact .fn0
 |nilIface=>exact .if0
 |chan r=>
  cases r with
  |none=>exact .cn
  |some r=>exact .bad _
 |_=>exact .bad _
theorem BF:∀l:List Value,aH E (l.map rV) l
 |[]=>.nil
 |v::l=>.cons _ _ _ _ (nZ v) (BF l)
theorem vB(v:Value):Conc E (Ew v) v:=by
 cases v with
 |agg cs=>exact .ag _ cs.toList (BF _)
 |tuple cs=>exact .tu _ cs.toList (BF _)
 |iface t v=>exact .ifc t _ _ (nZ v)
 |func fn a b=>
  show Conc E (@Bool.rec (λ_=>AV) .bad (.f fn (a.toList.map rV) (b.toList.map rV)) (nT fn)) _
  cases hf:nT fn with
  |false=>exact .bad _
  |true=>exact .f fn _ _ a.toList b.toList hf (BF _) (BF _)
 |bool x=>exact nZ (.bool x)
 |int k n=>exact nZ (.int k n)
 |float k b=>exact nZ (.float k b)
 |complex k a b=>exact nZ (.complex k a b)
 |string s=>exact nZ (.string s)
 |pointer a=>exact nZ (.pointer a)
 |slice a n c=>exact nZ (.slice a n c)
 |map r=>exact nZ (.map r)
 |chan r=>exact nZ (.chan r)
 |nilFunc=>exact nZ .nilFunc
 |nilIface=>exact nZ .nilIface
theorem u9{nt:Nat}{t:Tr AV}{a:Act}(h:bX E nt t a.tmps)(x:Operand):Conc E (ah t x) (a.eval x):=by
 cases x with
 |tmp x=>exact h.2 x
 |const v=>exact vB v
 |global g=>exact .gp g
 |func f=>exact .f (.func f) [] [] [] [] rfl .nil .nil
theorem zY(h:Conc E v u)(hc:v.cells=So l):aH E l u.cells.toList:=by cases h<;>cases hc<;>first|(first|assumption|exact .cons _ _ _ _ (by constructor<;>assumption) .nil)|exact .cons _ _ _ _ .un .nil
theorem uF{t:Tr AV}{ρ:Operand->Value}(h:∀x,Conc E (ah t x) (ρ x)):∀l:List Operand,aH E (args t l) (l.map ρ)
 |[]=>.nil
 |x::l=>.cons _ _ _ _ (h x) (uF h l)
theorem wJ(h:aN P t=Tt):∃i d,P.info? t=So i/\P.underlying t=So d:=by grind[aN,Option.isSome_iff_exists]
theorem vI{i:TypeInfo}(h:P.info? t=So i):(typeInfo t).run P w=.ok i w:=by simp[typeInfo,h]
theorem bA(h:P.underlying t=So d):(underlying t).run P w=.ok d w:=by simp[underlying,h]
theorem fR(h:aN P t=Tt):(sizeOf t).run P w=.ok (aq P t) w:=by have⟨i,d,hi,hd⟩:=wJ h;simp_all[sizeOf,vI,aq]
theorem JH(h:aN P t=Tt):(isAgg t).run P w=.ok (cw P t) w:=by have⟨i,d,hi,hd⟩:=wJ h;unfold isAgg cw;rw[Q0,bA hd,hd];cases d<;>simp
theorem KJ(h:zeroOf P t=So v):∃z,v=Ew z/\∀w,(zeroValue t).run P w=.ok z w:=by
 unfold zeroOf at h;split at h
 ·rename_i z _ _ hi;cases h;exact⟨z,rfl,λw=>by simp[zeroValue,vI hi]⟩
 ·cases h
theorem pg(h:bt P t=So l):∃z,(∀w,(zeroValue t).run P w=.ok z w)/\aH E l z.cells.toList/\aN P t=Tt/\l.length=aq P t:=by
 unfold bt at h;cases hz:zeroOf P t with
 |none=>grind
 |some v=>
  rw[hz]at h;simp only at h;cases hc:v.cells with
  |none=>grind
  |some l'=>
   rw[hc]at h;simp[bh]at h;cases hb:aN P t with
   |false=>simp_all
   |true=>
    rw[hb,Bool.true_and]at h;by_cases hl:l'.length=aq P t
    ·rw[decide_eq_true hl]at h;cases h;obtain⟨z,rfl,hz'⟩:=KJ hz;exact⟨z,hz',zY (vB z) hc,rfl,hl⟩
    simp_all
theorem I0{cs:List AV}{off:Nat}(h:part P t cs off=So v)(hc:aH E cs us.toList):
  ∃u,(Go.part t us off).run P w=.ok u w/\Conc E v u:=by
 unfold part at h;cases hi:aN P t with
 |false=>simp_all
 |true=>
  rw[hi]at h;unfold Go.part;simp[JH hi,Result.andThen];cases ha:cw P t with
  |true=>
   rw[ha]at h;cases hcut:cut cs off (aq P t)with
   |none=>rw[hcut]at h;cases h
   |some l=>
    rw[hcut]at h;cases h;obtain⟨rfl,hlen⟩:=pQ hcut;refine⟨.agg (us.extract off (off+aq P t)),by simp[fR hi],?_⟩;have e:us.extract off (off+aq P t)=((us.toList.drop off).take (aq P t)).toArray:=by grind
    rw[e];exact .ag _ _ ((hc.drop off).take _)
  |false=>
   rw[ha]at h;cases hcut:cut cs off 1 with
   |none=>rw[hcut]at h;cases h
   |some l=>
    rw[hcut]at h;obtain⟨rfl,hlen⟩:=pQ hcut;have hlt:off<cs.length:=by omega
    have hlu:off<us.size:=by have:=hc.length;grind
    have e1:(cs.drop off).take 1=[cs[off]]:=by rw[Z6 hlt];rfl
    rw[e1]at h;cases h;refine⟨us[off],by simp_all,?_⟩;have⟨u,hu,hcu⟩:=hc.get off cs[off] (by grind);grind
theorem jj(b o j:Nat):Addr.add ⟨b,o,No⟩ j=⟨b,o+j,No⟩:=by grind[Addr.add]
theorem ab1{cs:List Value}(h:w.heap[b]? = So (.cells cs.toArray t fz))(hn:o+n<=cs.length\/n=0):
  (loadCells ⟨b,o,No⟩ n).run P w=.ok ((cs.drop o).take n).toArray w:=by
 grind[Z7,run_loadCells_list,jj,World.cell?]
theorem Oe(h:Rel E w.heap st){v:Value}(hc:E.cell b o=So v):w.cell? ⟨b,o,No⟩=So v:=by
 unfold Env.cell at hc;cases hi:E.imm b with
 |none=>grind
 |some ob=>have:=h.imm b ob hi;grind[World.cell?]
theorem Rm(h:Rel E w.heap st)(hv:∀(j:Nat) v,vs[j]? = So v->E.cell b (o+j)=So v)(hn:n<=vs.length):
  (loadCells ⟨b,o,No⟩ n).run P w=.ok (vs.take n).toArray w:=by
 grind[Z7,run_loadCells_list,jj,Oe]
theorem EY(h:Rel E w.heap st)(hr:rd st r o n=So l){B:eo}(hB:E.phi r=So B):
  ∃us:List Value,(loadCells ⟨B.b,o+B.d,No⟩ n).run P w=.ok us.toArray w/\aH E l us/\l.length=n:=by
 unfold rd at hr;cases hc:st.ce r with
 |none=>grind
 |some x=>rw[hc]at hr;have⟨B',cs,t,fz,hB',hH,hfz,hn,hd,hC⟩:=h.cells hc;rw[hB]at hB';cases hB';have hlen:=lW hr;obtain⟨rfl,hk⟩:=pQ hr;refine⟨_,ab1 hH (by omega),?_,hlen⟩;have h2:=(hC.drop o).take n;grind[List.drop_take,List.drop_drop]
theorem Iy(h:Rel E w.heap st){a:AV}(hl:loadAt P t st a=So v)(hu:Conc E a u):
  ∃x,(Instr.loadAt t u).run P w=.ok x w/\Conc E v x:=by
 unfold loadAt at hl;cases hi:aN P t with
 |false=>simp_all
 |true=>
  rw[hi]at hl;cases hp:a.jL with
  |some ro=>
   have⟨r,o⟩:=ro;have:=AV.wo hp;subst this;rw[hp]at hl;cases hu with
   |p _ _ B hB=>
    unfold Instr.loadAt loadVar;simp[Instr.sureAddr,pure_bind,JH hi,Result.andThen];cases ha:cw P t with
    |true=>
     rw[ha]at hl;simp only at hl;cases hr:rd st r o (aq P t)with
     |none=>rw[hr]at hl;cases hl
     |some l=>rw[hr]at hl;cases hl;obtain⟨us,h1,h2,-⟩:=EY (P:=P) h hr hB;exact⟨.agg us.toArray,by simp[fR hi,h1],.ag _ _ h2⟩
    |false=>
     rw[ha]at hl;simp only at hl;cases hr:rd st r o 1 with
     |none=>rw[hr]at hl;cases hl
     |some l=>
      rw[hr]at hl;have⟨us,h1,h2,h3⟩:=EY (P:=P) h hr hB
      match l,h3,hl with
      |[v'],_,hl=>
       cases hl;cases h2 with
       |cons _ _ x xs hx ht=>
        simp[loadCells,loadCellsFrom,jj]at h1;cases hld:(load ⟨B.b,o+B.d,No⟩:Sem Value).run P w with
        |halt e w'=>simp_all
        |ok y w'=>simp_all
  |none=>
   cases hp2:a.x5 with
   |none=>grind
   |some c=>
    have:=AV.LM hp2;subst this;rw[hp2]at hl;cases hu with
    |rp _ b o vs hv hc=>
     unfold Instr.loadAt loadVar;simp[Instr.sureAddr,pure_bind,JH hi,Result.andThen];have hlen:=hc.length;cases ha:cw P t with
     |true=>
      rw[ha]at hl;simp only at hl;cases hr:cut c 0 (aq P t)with
      |none=>rw[hr]at hl;cases hl
      |some l=>rw[hr]at hl;cases hl;obtain⟨rfl,hk2⟩:=pQ hr;refine⟨.agg (vs.take (aq P t)).toArray,?_,.ag _ _ (by simpa using hc.take (aq P t))⟩;simp[fR hi,Rm h hv (n:=aq P t) (by omega)]
     |false=>
      rw[ha]at hl;simp only at hl;cases hr:cut c 0 1 with
      |none=>rw[hr]at hl;cases hl
      |some l=>
       rw[hr]at hl;obtain⟨rfl,hk2⟩:=pQ hr;cases hc with
       |nil=>grind
       |cons v' l' x xs hx ht=>cases hl;have:=Oe h (hv 0 x rfl);simp_all
theorem dH{a:Bool}{x y:α}(h:(@Bool.rec (λ_=>Option α) No (So x) a)=So y):a=Tt/\x=y:=by
 cases a with
 |false=>grind
 |true=>grind
theorem dm{a:Bool}{x:Option α}{y:α}(h:(@Bool.rec (λ_=>Option α) No x a)=So y):a=Tt/\x=So y:=by
 cases a with
 |false=>grind
 |true=>grind
theorem acR(h:Rel E w.heap st){a:AV}{ua:Value}(hs:storeAt P t st a v=So st')(ha:Conc E a ua)(hv:Conc E v uv):
  ∃w',(Instr.storeAt t ua uv).run P w=.ok () w'/\aR E E w w' st st':=by
 unfold storeAt at hs;cases hp:a.jL with
 |none=>grind
 |some ro=>
  have⟨r,o⟩:=ro;have:=AV.wo hp;subst this;cases hc:v.cells with
  |none=>rw[hc]at hs;cases hs
  |some l=>
   rw[hc]at hs;simp[vO,bh]at hs;have⟨hb,hs⟩:=dm hs;have hcl:=zY hv hc;have⟨B,cs,tt,fz,h1,h2,h3,h4,h5,h6⟩:=Step.wt h hs hcl;cases ha with
   |p _ _ B' hB'=>
    have hrun:=xg P B.b (o+B.d) tt fz uv.cells.toList 0 cs w h2 h3.not (by omega) h5;have hsz:uv.cells.size=aq P t:=by have:=hcl.length;grind
    refine⟨{w with heap:=w.heap.setIfInBounds B.b (.cells (aW cs (o+B.d) uv.cells.toList).toArray tt fz)},?_,.of h6⟩;grind[Instr.storeAt,storeVar,Instr.sureAddr,Q0,fR,Result.andThen]
theorem Gs(h:Rel E w.heap st)(hn:st.next<E.top)(t:TypeId)(hc:aH E l us.toList):
  ∃E' w',(newRow t us).run P w=.ok ⟨w.heap.size,0,No⟩ w'/\aR E E' w w' st (st.aj l)/\E'.phi st.next=So ⟨w.heap.size,0,us.size⟩:=by
 have hl:=hc.length;have:=Step.aj h hn l us.toList t (0,0) (.inl rfl) (by omega) (by grind);refine⟨E.bind st.next ⟨w.heap.size,0,us.size⟩,{w with heap:=w.heap.push (.cells us t)},by simp[newRow],?_,Env.df⟩;exact aR.of (by simp_all)
theorem NF:∀(cs:List Value) (off k:Nat) (l:Array Value),off+k+cs.length<=l.size->
  ((cs.zipIdx k).foldl (λl (c,j)=>l.setIfInBounds (off+j) c) l).toList=aW l.toList (off+k) cs
 |[],off,k,l,h=>by simp_all[mg]
 |c::cs,off,k,l,h=>by
  simp;rw[NF cs off (k+1) _ (by grind)];rw[mg _ _ _ (by grind),mg _ _ _ (by grind)];have e:(l.setIfInBounds (off+k) c).toList.take (off+(k+1))=l.toList.take (off+k)++[c]:=by grind[List.take_succ_eq_append_getElem,List.take_set,List.set_eq_of_length_le]
  simp;grind[List.drop_set_of_lt]
theorem Dw{place:Nat->Option (Nat×Nat)}{t:Tr AV}{ρ:Operand->Value}(hρ:∀x,Conc E (ah t x) (ρ x)):∀(parts:List (Nat×Operand)) (cells l:List AV) (us:Array Value),
  fill place cells (eB t parts)=So l->aH E cells us.toList->∃us':Array Value,Instr.fill place us (parts.map λ(i,x)=>(i,ρ x))=So us'/\aH E l us'.toList
 |[],cells,l,us,hf,hc=>by grind[eB,fill,Instr.fill]
 |(i,x)::parts,cells,l,us,hf,hc=>by
  simp[eB,fill]at hf;cases hp:place i with
  |none=>grind
  |some os=>
   obtain⟨off,size⟩:=os;cases hv:(ah t x).cells with
   |none=>grind
   |some cl=>
    rw[hp,hv]at hf;simp[bh]at hf;obtain⟨hb,hf⟩:=dm hf;simp only[Q5,decide_eq_true_eq]at hb;obtain⟨hb1,hb2⟩:=hb;have hb2:=Q2 hb2;have hcl:=zY (hρ x) hv;have hl1:=hcl.length;have hl2:=hc.length;have hcc:=hc.aW hcl off (by omega);have hfold:=NF (ρ x).cells.toList off 0 us (by grind);have hfe:((ρ x).cells.zipIdx.foldl (λcs (c,j)=>cs.setIfInBounds (off+j) c) us).toList=aW us.toList off (ρ x).cells.toList:=by grind[Array.toList_zipIdx]
    obtain⟨us',h1,h2⟩:=Dw hρ parts (aW cells off cl) l _ hf (by rw[hfe];exact hcc);grind[Instr.fill]
theorem BC{l:List AV}{us:List Value}(h:aH E l us):∀n:Nat,aH E (rep n l) (rep n us)
 |0=>.nil
 |n+1=>h.append (BC h n)
theorem yS{α:Type}(l:List α):∀n:Nat,(rep n l).length=n*l.length
 |0=>by simp[rep]
 |n+1=>by simp[rep,yS l n,Nat.succ_mul,Nat.add_comm]
theorem rh(a b:Int):oJ a b=decide (a=b):=by
 cases a with
 |ofNat a=>cases b with
  |ofNat b=>
   show Nat.beq a b=_
   grind[bh]
  |negSucc b=>rfl
 |negSucc a=>cases b with
  |ofNat b=>rfl
  |negSucc b=>
   show Nat.beq a b=_
   grind[bh]
theorem nM(a b:Int):lH a b=decide (a<b):=by
 cases a with
 |ofNat a=>cases b with
  |ofNat b=>
   show Nat.blt a b=_
   grind[Q7]
  |negSucc b=>
   show Ff=_
   grind
 |negSucc a=>cases b with
  |ofNat b=>
   show Tt=_
   grind
  |negSucc b=>
   show Nat.blt b a=_
   grind[Q7]
theorem Iq(a b:IntKind):tv a b=decide (a=b):=rfl
theorem xJ(k:IntKind)(n:Int):wr k n=k.wrap n:=by
 have key:∀m:Int,-9223372036854775808<=m->m<=9223372036854775807->IntKind.i64.wrap m=m:=λm h1 h2=>IntWalk.i64_in m ⟨h1,h2⟩
 cases n with
 |ofNat m=>
  show(@Bool.rec (λ_=>Int) (k.wrap _) (Int.ofNat m) (vr k&&Nat.ble m 9223372036854775807))=_
  cases hb:(vr k&&Nat.ble m 9223372036854775807)with
  |false=>rfl
  |true=>simp only[Q5]at hb;have hm:=Q2 hb.2;grind[vr]
 |negSucc m=>
  show(@Bool.rec (λ_=>Int) (k.wrap _) (Int.negSucc m) (vr k&&Nat.ble m 9223372036854775807))=_
  cases hb:(vr k&&Nat.ble m 9223372036854775807)with
  |false=>rfl
  |true=>simp only[Q5]at hb;have hm:=Q2 hb.2;grind[vr]
theorem wL:∀a b:List Nat,leq a b=decide (a=b)
 |[],[]=>rfl
 |[],_::_=>rfl
 |_::_,[]=>rfl
 |a::x,b::y=>by
  show(@Bool.rec (λ_=>Bool) Ff (leq x y) (Nat.beq a b))=_
  rw[bh,wL x y];by_cases h:a=b<;>simp[h]
theorem IF:∀{x y:List UInt8},x.map UInt8.toNat=y.map UInt8.toNat->x=y
 |[],[],_=>rfl
 |[],_::_,h=>by grind
 |_::_,[],h=>by grind
 |a::x,b::y,h=>by simp at h;rw[Z8.1 h.1,IF h.2]
theorem OZ:∀x y:List UInt8,mT (x.map UInt8.toNat) (y.map UInt8.toNat)=Op.bytesLess x y
 |[],[]=>rfl
 |[],_::_=>rfl
 |_::_,[]=>rfl
 |a::x,b::y=>by
  show(@Bool.rec (λ_=>Bool) (@Bool.rec (λ_=>Bool) Ff (mT (x.map UInt8.toNat) (y.map UInt8.toNat)) (Nat.beq a.toNat b.toNat)) Tt (Nat.blt a.toNat b.toNat))=_
  rw[OZ x y,bh];simp[Op.bytesLess];have h1:Nat.blt a.toNat b.toNat=decide (a<b):=by grind[Q7,UInt8.lt_iff_toNat_lt]
  have h2:(a==b)=decide (a.toNat=b.toNat):=by grind[Z8]
  rw[h1,h2];cases decide (a<b)<;>cases decide (a.toNat=b.toNat)<;>rfl
theorem Yv{k:IntKind}{a b:Int}(h:Il op k a b=So v)(xt:TypeId):
  ∃u,(Go.binOp op xt (.int k a) (.int k b)).run P w=.ok u w/\Conc E v u:=by
 cases op<;>first|cases h|skip
 case add=>exact⟨.int k (k.wrap (a+b)),by simp[Go.binOp,Op.intArith],by rw[xJ];exact .i k _⟩
 case sub=>exact⟨.int k (k.wrap (a-b)),by simp[Go.binOp,Op.intArith],by rw[xJ];exact .i k _⟩
 case mul=>exact⟨.int k (k.wrap (a*b)),by simp[Go.binOp,Op.intArith],by rw[xJ];exact .i k _⟩
 case quo=>
  have h':yu b (.i k (wr k (a.tdiv b)))=So v:=h;unfold yu at h';rw[rh]at h';by_cases hb:b=0
  ·simp_all
  ·rw[decide_eq_false hb]at h';cases h';exact⟨.int k (k.wrap (a.tdiv b)),by simp[Go.binOp,Op.intDiv,hb],by rw[xJ];exact .i k _⟩
 case rem=>
  have h':yu b (.i k (a.tmod b))=So v:=h;unfold yu at h';rw[rh]at h';by_cases hb:b=0
  ·simp_all
  ·rw[decide_eq_false hb]at h';cases h';exact⟨.int k (a.tmod b),by simp[Go.binOp,Op.intDiv,hb],.i k _⟩
 case and=>exact⟨_,by simp[Go.binOp,Op.intBits],.i k _⟩
 case or=>exact⟨_,by simp[Go.binOp,Op.intBits],.i k _⟩
 case xor=>exact⟨_,by simp[Go.binOp,Op.intBits],.i k _⟩
 case andNot=>exact⟨_,by simp[Go.binOp,Op.intBits],.i k _⟩
 case eql=>exact⟨.bool (a==b),by simp[Go.binOp,Op.intCmp],by rw[rh];exact .b _⟩
 case neq=>exact⟨.bool (a != b),by simp[Go.binOp,Op.intCmp],by rw[rh,bne,show(a==b)=decide (a=b) from rfl];exact .b _⟩
 case lss=>exact⟨.bool (a<b),by simp[Go.binOp,Op.intCmp],by rw[nM];exact .b _⟩
 case leq=>exact⟨.bool (a<=b),by simp[Go.binOp,Op.intCmp],by rw[nM,show(!decide (b<a))=decide (a<=b) by grind];exact .b _⟩
 case gtr=>exact⟨.bool (a > b),by simp[Go.binOp,Op.intCmp],by rw[nM];exact .b _⟩
 case geq=>exact⟨.bool (a ≥ b),by simp[Go.binOp,Op.intCmp],by rw[nM,show(!decide (a<b))=decide (a ≥ b) by grind];exact .b _⟩
theorem Uv{k:IntKind}{a:Int}(h:GI k a op y=So v)(hu:Conc E y u)(xt:TypeId):
  ∃z,(Go.binOp op xt (.int k a) u).run P w=.ok z w/\Conc E v z/\∃k' b,u=.int k' b:=by
 unfold GI at h;cases hy:y.oy with
 |none=>grind
 |some kb=>
  obtain⟨k',b⟩:=kb;have:=AV.CH hy;subst this;rw[hy]at h;cases hu;have other:BE op k a k' b=So v->(op≠.shl/\op≠.shr)->∃z,(Go.binOp op xt (.int k a) (.int k' b)).run P w=.ok z w/\Conc E v z/\∃k'' b',Value.int k' b=.int k'' b':=by
   intro h _;unfold BE at h;rw[Iq]at h;by_cases hk:k=k'
   ·subst hk;rw[decide_eq_true rfl]at h;obtain⟨z,h1,h2⟩:=Yv h xt;exact⟨z,h1,h2,k,b,rfl⟩
   ·rw[decide_eq_false hk]at h;cases h
  cases op<;>first|(refine other h ⟨?_,?_⟩<;>(grind))|skip
  ·simp[AH,RC]at h;rw[nM]at h;by_cases hb:b<0
   ·simp_all
   ·rw[decide_eq_false hb]at h;cases h;exact⟨.int k (k.wrap (a*2 ^ (min b.toNat k.bits))),by simp[Go.binOp,Op.shift,hb],.i k _,k',b,rfl⟩
  ·simp[AH,RD]at h;rw[nM]at h;by_cases hb:b<0
   ·simp_all
   ·rw[decide_eq_false hb]at h;cases h;exact⟨.int k (a.fdiv (2 ^ (min b.toNat k.bits))),by simp[Go.binOp,Op.shift,hb],.i k _,k',b,rfl⟩
theorem xw(a b:ByteArray):leq (a.data.toList.map UInt8.toNat) (b.data.toList.map UInt8.toNat)=(a.toList==b.toList):=by rw[wL,Q9,Q9,J1];simp only[decide_eq_true_eq,beq_iff_eq];exact⟨λh=>IF h,λh=>by rw[h]⟩
theorem strLt(a b:ByteArray):mT (a.data.toList.map UInt8.toNat) (b.data.toList.map UInt8.toNat)=Op.bytesLess a.toList b.toList:=by rw[OZ,Q9,Q9]
theorem acT{a b:ByteArray}(h:RZ op (a.data.toList.map UInt8.toNat) (b.data.toList.map UInt8.toNat)=So v)(xt:TypeId):
  ∃z,(Go.binOp op xt (.string a) (.string b)).run P w=.ok z w/\Conc E v z:=by
 cases op<;>first|cases h|skip
 case add=>
  have⟨hb,h'⟩:=dH h;simp at hb;subst h';refine⟨.string (a++b),?_,?_⟩
  ·simp only[Go.binOp,Op.stringOp];rw[if_neg]
   ·rfl
   grind[IntKind.max,IntKind.bits]
  ·have:a.data.toList.map UInt8.toNat++b.data.toList.map UInt8.toNat=(a++b).data.toList.map UInt8.toNat:=by simp
   rw[this];exact .s _
 case eql=>exact⟨.bool (a.toList==b.toList),by simp[Go.binOp,Op.stringOp],by rw[xw];exact .b _⟩
 case neq=>exact⟨.bool (!(a.toList==b.toList)),by simp[Go.binOp,Op.stringOp],by rw[xw];exact .b _⟩
 case lss=>exact⟨.bool (Op.bytesLess a.toList b.toList),by simp[Go.binOp,Op.stringOp],by rw[strLt];exact .b _⟩
 case leq=>exact⟨.bool (Op.bytesLess a.toList b.toList||a.toList==b.toList),by simp[Go.binOp,Op.stringOp],by rw[strLt,xw];exact .b _⟩
 case gtr=>exact⟨.bool (!(Op.bytesLess a.toList b.toList||a.toList==b.toList)),by simp[Go.binOp,Op.stringOp],by rw[strLt,xw];exact .b _⟩
 case geq=>exact⟨.bool (!Op.bytesLess a.toList b.toList),by simp[Go.binOp,Op.stringOp],by rw[strLt];exact .b _⟩
theorem Er{b:Bool}(h:x.tz=So b)(hx:Conc E x u):∃a,u=.pointer a/\a.isNone=b:=by cases hx<;>cases h<;>exact⟨_,rfl,rfl⟩
theorem Es{b:Bool}(h:x.yE=So b)(hx:Conc E x u):∃a n c,u=.slice a n c/\a.isNone=b:=by cases hx<;>cases h<;>exact⟨_,_,_,rfl,rfl⟩
theorem Ep{b:Bool}(h:x.yD=So b)(hx:Conc E x u):∃a,u=.map a/\a.isNone=b:=by cases hx<;>cases h<;>exact⟨_,rfl,rfl⟩
theorem Em{b:Bool}(h:x.El=So b)(hx:Conc E x u):(b=Tt/\u=.nilFunc)\/(b=Ff/\∃f a c,u=.func f a c):=by cases hx<;>cases h<;>first|grind|grind
theorem Eo{b:Bool}(h:x.En=So b)(hx:Conc E x u):(b=Tt/\u=.nilIface)\/(b=Ff/\∃t v,u=.iface t v):=by
 cases hx<;>cases h
 ·exact .inr ⟨rfl,_,_,rfl⟩
 ·exact .inl ⟨rfl,rfl⟩
theorem yg{a b:Option Bool}{r:Bool}(h:lB a b=So r):(a=So Tt/\b=So r)\/(a=So Ff/\b=So Tt/\r=Ff):=by rcases a with _|_|_<;>rcases b with _|_|_<;>cases h<;>simp
theorem HF{r:Bool}(h:gK P t x y=So r)(hx:Conc E x u1)(hy:Conc E y u2)(d:Nat):
  (Op.equalIn (d+1) t u1 u2).run P w=.ok r w:=by
 unfold gK at h;split at h
 ·rename_i hu;unfold Hz at h;cases h1:x.gH with
  |none=>grind
  |some a=>
   cases h2:y.gH with
   |none=>grind
   |some b=>rw[h1,h2]at h;cases h;have:=AV.xZ h1;subst this;have:=AV.xZ h2;subst this;cases hx;cases hy;simp[Op.equalIn,bA hu]
 ·rename_i k hu;unfold HC at h;cases h1:x.oy with
  |none=>grind
  |some a=>
   have⟨k1,a⟩:=a;cases h2:y.oy with
   |none=>grind
   |some b=>have⟨k2,b⟩:=b;rw[h1,h2]at h;have:=AV.CH h1;subst this;have:=AV.CH h2;subst this;simp[Iq,rh]at h;have⟨hk,h'⟩:=dH h;clear h;simp at hk;subst hk;subst h';cases hx;cases hy;simp[Op.equalIn,bA hu];rfl
 ·rename_i hu;unfold eqStr at h;cases h1:x.nw with
  |none=>rw[h1]at h;cases h
  |some a=>
   cases h2:y.nw with
   |none=>rw[h1,h2]at h;cases h
   |some b=>rw[h1,h2]at h;cases h;have:=AV.zX h1;subst this;have:=AV.zX h2;subst this;cases hx;cases hy;rw[xw,<-beq_toListBytes];simp[Op.equalIn,bA hu]
 ·rename_i e hu;cases hn:lB x.tz y.tz with
  |some v=>
   rw[hn]at h;cases h;rcases yg hn with ⟨h1,h2⟩|⟨h1,h2,rfl⟩
   ·obtain⟨a,rfl,ha⟩:=Er h1 hx;obtain⟨b,rfl,hb⟩:=Er h2 hy;cases a<;>simp at ha
    simp[Op.equalIn,bA hu,hb]
   ·obtain⟨a,rfl,ha⟩:=Er h1 hx;obtain⟨b,rfl,hb⟩:=Er h2 hy;cases a<;>simp at ha
    cases b<;>simp at hb
    simp[Op.equalIn,bA hu]
  |none=>
   rw[hn]at h;simp[orElse,HD]at h;cases h1:x.jL with
   |none=>rw[h1]at h;cases h
   |some p1=>
    have⟨r1,o1⟩:=p1;cases h2:y.jL with
    |none=>rw[h1,h2]at h;cases h
    |some p2=>
     have⟨r2,o2⟩:=p2;rw[h1,h2]at h;have:=AV.wo h1;subst this;have:=AV.wo h2;subst this;simp[bh]at h;have⟨hb,h'⟩:=dH h;clear h h1 h2 hn;simp only[Q5,decide_eq_true_eq]at hb;have⟨⟨hrr,hi⟩,hz⟩:=hb;subst hrr;cases hx with
     |p _ _ B1 hB1=>
      cases hy with
      |p _ _ B2 hB2=>
       rw[hB1]at hB2;cases hB2;have hz:¬aq P e=0:=by rw[Q7]at hz;omega
       subst h';simp only[Op.equalIn,Q0,bA hu,Q1,fR hi,ne_eq,hz,not_false_eq_true,if_true,sameAddr,beq_self_eq_true,Q3];congr 1;rw[J1];simp
 ·rename_i hu;rcases yg h with ⟨h1,h2⟩|⟨h1,h2,rfl⟩
  ·obtain⟨a,n,c,rfl,ha⟩:=Es h1 hx;obtain⟨b,m,k,rfl,hb⟩:=Es h2 hy;cases a<;>simp at ha
   simp[Op.equalIn,bA hu,hb]
  ·obtain⟨a,n,c,rfl,ha⟩:=Es h1 hx;obtain⟨b,m,k,rfl,hb⟩:=Es h2 hy;cases a<;>simp at ha
   cases b<;>simp at hb
   simp[Op.equalIn,bA hu]
 ·rename_i hu;rcases yg h with ⟨h1,h2⟩|⟨h1,h2,rfl⟩
  ·obtain⟨a,rfl,ha⟩:=Ep h1 hx;obtain⟨b,rfl,hb⟩:=Ep h2 hy;cases a<;>simp at ha
   simp[Op.equalIn,bA hu,hb]
  ·obtain⟨a,rfl,ha⟩:=Ep h1 hx;obtain⟨b,rfl,hb⟩:=Ep h2 hy;cases a<;>simp at ha
   cases b<;>simp at hb
   simp[Op.equalIn,bA hu]
 ·rename_i hu;rcases yg h with ⟨h1,h2⟩|⟨h1,h2,rfl⟩
  ·rcases Em h1 hx with ⟨-,rfl⟩|⟨hh,-⟩
   ·rcases Em h2 hy with ⟨rfl,rfl⟩|⟨rfl,f,a,c,rfl⟩<;>simp[Op.equalIn,bA hu]
   ·cases hh
  ·rcases Em h1 hx with ⟨hh,-⟩|⟨-,f,a,c,rfl⟩
   ·cases hh
   ·rcases Em h2 hy with ⟨-,rfl⟩|⟨hh,-⟩
    ·simp[Op.equalIn,bA hu]
    ·cases hh
 ·rename_i hu;rcases yg h with ⟨h1,h2⟩|⟨h1,h2,rfl⟩
  ·rcases Eo h1 hx with ⟨-,rfl⟩|⟨hh,-⟩
   ·rcases Eo h2 hy with ⟨rfl,rfl⟩|⟨rfl,f,a,rfl⟩<;>simp[Op.equalIn,bA hu]
   ·cases hh
  ·rcases Eo h1 hx with ⟨hh,-⟩|⟨-,f,a,rfl⟩
   ·cases hh
   ·rcases Eo h2 hy with ⟨-,rfl⟩|⟨hh,-⟩
    ·simp[Op.equalIn,bA hu]
    ·cases hh
 grind
theorem M6{xs ys:List AV}{us vs:Array Value}(hx:aH E xs us.toList)(hy:aH E ys vs.toList)(d:Nat):∀(fs:List Field) (r:Bool),te P xs ys fs=So r->(Op.eqFields (d+1) us vs fs).run P w=.ok r w
 |[],r,h=>by simp_all[te,Op.eqFields]
 |f::fs,r,h=>by
  simp[te]at h;cases hn:(f.name == "_")with
  |true=>rw[hn]at h;cases h
  |false=>
   rw[hn]at h;cases h1:part P f.type xs f.offset with
   |none=>rw[h1]at h;cases h
   |some a=>
    cases h2:part P f.type ys f.offset with
    |none=>rw[h1,h2]at h;cases h
    |some b=>
     rw[h1,h2]at h;simp only at h;have⟨u,hu1,hu2⟩:=I0 (w:=w) h1 hx;have⟨v,hv1,hv2⟩:=I0 (w:=w) h2 hy;have hne:f.name≠ "_":=by simpa using hn
     simp only[Op.eqFields,ne_eq,hne,not_false_eq_true,if_true,Q0,hu1,hv1,Q1];cases h3:gK P f.type a b with
     |none=>rw[h3]at h;cases h
     |some q=>
      rw[HF h3 hu2 hv2 d,Q1];rw[h3]at h;cases q with
      |true=>exact M6 hx hy d fs r h
      |false=>cases h;simp
theorem Dm(h1:u1=.nilIface->u2=.nilIface->False)(h2:∀a b,u1=.agg a->u2=.agg b->False):
  (Go.eqGuard op t xo yo u1 u2).run P w=.ok () w:=by
 simp_all[Go.eqGuard]
theorem Dn{c:Bool}:lC P t c .bad y=none:=by
 have e:lC P t c .bad y=orElse (gK P t .bad y) (Dk P t .bad y):=rfl;have e1:gK P t .bad y=none:=by unfold gK;split<;>rfl
 have e2:Dk P t .bad y=none:=by unfold Dk;cases isChan P t<;>rfl
 rw[e,e1,e2];rfl
theorem Nb{r:Bool}(h:lC P t (kh xo||kh yo) x y=So r)(hx:Conc E x u1)(hy:Conc E y u2):
  (Go.eqGuard op t xo yo u1 u2).run P w=.ok () w/\(Op.equal t u1 u2).run P w=.ok r w:=by
 unfold lC at h;split at h
 ·rename_i xs ys;cases hx with
  |ag _ us hus=>
   cases hy with
   |ag _ vs hvs=>
    unfold Dj at h;split at h
    ·rename_i fs hf;have⟨hb,h'⟩:=dm h;simp[Bool.not_eq_true']at hb;constructor
     ·cases op<;>simp[Go.eqGuard,hb.2]
     ·have hfo:P.fieldsOf t=fs:=by simp[Program.fieldsOf,hf]
      show(Op.equalIn (9999+1) t _ _).run P w=_
      rw[run_equalIn_struct w 9999 t _ _ (by grind) hb.1,hfo];exact M6 (by omega) (by grind) 9998 fs.toList r h'
    grind
 ·have⟨hc,h'⟩:=dm h;cases hx;cases hy;constructor
  ·rw[Bool.or_eq_true]at hc;rcases hc with hc|hc
   ·cases xo<;>simp[kh]at hc
    cases op<;>simp[Go.eqGuard]
   ·cases yo<;>simp[kh]at hc
    cases op<;>simp[Go.eqGuard]
  ·exact HF h' (E:=E) .if0 .if0 9999
 ·rename_i h1 h2;cases he:gK P t x y with
  |none=>
   rw[he]at h;have⟨hc,h⟩:=dm h;have hu:∃dd e,P.underlying t=So (.chan dd e):=by grind[isChan]
   have⟨dd,e,hu⟩:=hu;have key:∀{x:AV}{u:Value}{b:Bool},x.II=So b->Conc E x u->∃a,u=.chan a/\a.isNone=b:=by intro x u b h hx;cases hx<;>cases h<;>exact⟨_,rfl,rfl⟩
   have fin:∃a b,u1=.chan a/\u2=.chan b/\(a==b)=r:=by
    rcases yg h with ⟨h1,h2⟩|⟨h1,h2,rfl⟩
    ·obtain⟨a,rfl,ha⟩:=key h1 hx;obtain⟨b,rfl,hb⟩:=key h2 hy;cases a<;>simp at ha
     refine⟨No,b,rfl,rfl,?_⟩;cases b<;>simp at hb<;>subst hb<;>rfl
    grind
   obtain⟨a,b,rfl,rfl,hab⟩:=fin;refine⟨Dm (λe=>by grind) (λ_ _ e=>by grind),?_⟩;have:∀d,(Op.equalIn (d+1) t (.chan a) (.chan b)).run P w=.ok r w:=λd=>by simp[Op.equalIn,bA hu,hab]
   exact this 9999
  |some vv=>
  have h:gK P t x y=So r:=by rw[he]at h;rw[he];exact h
  refine⟨?_,HF h hx hy 9999⟩;have n1:∀vs,u1=.agg vs->∃l,x=.ag l\/x=.bad:=by rintro vs rfl;cases hx;exact⟨[],.inr rfl⟩;exact⟨_,.inl rfl⟩
  have n2:∀vs,u2=.agg vs->∃l,y=.ag l\/y=.bad:=by rintro vs rfl;cases hy;exact⟨[],.inr rfl⟩;exact⟨_,.inl rfl⟩
  have m1:u1=.nilIface->x=.if0\/x=.bad:=by rintro rfl;cases hx;exact .inr rfl;exact .inl rfl
  have m2:u2=.nilIface->y=.if0\/y=.bad:=by rintro rfl;cases hy;exact .inr rfl;exact .inl rfl
  have bx:x≠.bad:=by rintro rfl;unfold gK at h;split at h<;>first|cases h|skip
  have by_:y≠.bad:=by
   rintro rfl;have e1:AV.bad.gH=none:=rfl;have e2:AV.bad.oy=none:=rfl;have e3:AV.bad.nw=none:=rfl;have e4:AV.bad.jL=none:=rfl;have e5:AV.bad.tz=none:=rfl;have e6:AV.bad.yE=none:=rfl;have e7:AV.bad.yD=none:=rfl;have e8:AV.bad.El=none:=rfl;have e9:AV.bad.En=none:=rfl;have en:∀o:Option Bool,lB o No=none:=by rintro(_|_|_)<;>rfl
   unfold gK at h;simp only[Hz,HC,eqStr,HD,e1,e2,e3,e4,e5,e6,e7,e8,e9,en,orElse]at h;split at h<;>first|cases h|skip
   ·revert h;cases x.gH<;>intro h<;>cases h
   ·revert h;rcases x.oy with _|⟨_,_⟩<;>intro h<;>cases h
   ·revert h;cases x.nw<;>intro h<;>cases h
   ·revert h;rcases x.jL with _|⟨_,_⟩<;>intro h<;>cases h
  refine Dm (λe1 e2=>?_) (λa b e1 e2=>?_)
  ·exact h2 ((m1 e1).resolve_right bx) ((m2 e2).resolve_right by_)
  ·have⟨l,hl⟩:=n1 _ e1;have⟨l',hl'⟩:=n2 _ e2;exact h1 l l' (hl.resolve_right bx) (hl'.resolve_right by_)
theorem LS(h:binOp P t (kh xo||kh yo) op x y=So v)(hx:Conc E x u1)(hy:Conc E y u2):
  ∃z,(do Go.eqGuard op t xo yo u1 u2;Go.binOp op t u1 u2:Sem Value).run P w=.ok z w/\Conc E v z:=by
 have gi:∀k a k' b,(Go.eqGuard op t xo yo (.int k a) (.int k' b)).run P w=.ok () w:=λk a k' b=>Dm (λe=>by grind) (λ_ _ e=>by grind)
 have gs:∀a b,(Go.eqGuard op t xo yo (.string a) (.string b)).run P w=.ok () w:=λa b=>Dm (λe=>by grind) (λ_ _ e=>by grind)
 unfold binOp at h;cases h1:x.oy with
 |some ka=>have:=AV.CH h1;subst this;rw[h1]at h;cases hx;obtain⟨z,hz,hc,k',b,rfl⟩:=Uv (P:=P) (w:=w) h hy t;simp_all
 |none=>
  rw[h1]at h;cases h2:x.nw with
  |some l=>
   have:=AV.zX h2;subst this;simp[LU]at h;cases h3:y.nw with
   |none=>grind
   |some l'=>
    have:=AV.zX h3;subst this;cases hx with
    |s a=>
     cases hy with
     |s b=>simp_all[acT]
  |none=>
   rw[h2]at h;simp[kc]at h;have hni:∀k n,u1≠.int k n:=by
    rintro k n rfl;cases hx
    ·grind[Dn]
    ·cases h1
   have hns:∀n,u1≠.string n:=by
    rintro n rfl;cases hx
    ·grind[Dn]
    ·cases h2
   have hnf:∀k n,u1≠.float k n:=by rintro k n rfl;cases hx;grind[Dn]
   have hnc:∀k n m,u1≠.complex k n m:=by rintro k n m rfl;cases hx;grind[Dn]
   cases op<;>simp only at h<;>first|cases h|skip
   ·cases h3:lC P t (kh xo||kh yo) x y with
    |none=>grind
    |some r=>rw[h3]at h;cases h;have⟨g1,g2⟩:=Nb (w:=w) (op:=.eql) h3 hx hy;refine⟨.bool r,?_,.b r⟩;simp_all[Go.binOp]
   ·cases h3:lC P t (kh xo||kh yo) x y with
    |none=>grind
    |some r=>rw[h3]at h;cases h;have⟨g1,g2⟩:=Nb (w:=w) (op:=.neq) h3 hx hy;refine⟨.bool (!r),?_,.b _⟩;simp_all[Go.binOp]
theorem Sv{op:UnOp}(h:unOp op x=So v)(hx:Conc E x u):∃z,(Op.unary op u).run P w=.ok z w/\Conc E v z:=by
 unfold unOp at h;split at h
 ·cases h;cases hx;rename_i k n;exact⟨.int k (k.wrap (0-n)),by simp[Op.unary,Op.intArith],by rw[xJ];exact .i k _⟩
 ·cases h;cases hx;exact⟨_,by simp[Op.unary,Op.intBits],.i _ _⟩
 ·cases h;cases hx;exact⟨_,by simp[Op.unary],.b _⟩
 grind
theorem tx(h:gO x=So n)(hx:Conc E x u):∃k,u=.int k (Int.ofNat n):=by obtain⟨k,rfl⟩:=IE h;cases hx;grind
theorem Xj(h:bE P t n=So o):
  ∃fs f,P.underlying t=So (.struct fs)/\fs[n]? = So f/\f.offset=o/\aN P f.type=Tt/\0<aq P f.type:=by
 grind[bE,dH,Q7]
theorem Nl(ho:bE P t n=So o)(h:fieldAt o st x=So (v,st'))(hx:Conc E x u):
  st'=st/\∃z,(Instr.fieldAt t u n).run P w=.ok z w/\Conc E v z:=by
 obtain⟨fs,f,hu,hf,rfl,hi,hz⟩:=Xj ho;unfold fieldAt at h;have hz':¬aq P f.type=0:=by omega
 have run:∀a,(Instr.fieldAt t (.pointer (So a)) n).run P w=.ok (.pointer (So (a.add f.offset))) w:=by simp_all[Instr.fieldAt,bA,Instr.sureAddr,fieldPlace,fR]
 cases h1:x.jL with
 |some ro=>
  have⟨r,k⟩:=ro;have:=AV.wo h1;subst this;cases h;cases hx with
  |p _ _ B hB=>refine⟨rfl,_,run _,?_⟩;rw[jj,show k+B.d+f.offset=k+f.offset+B.d by omega];exact .p r (k+f.offset) B hB
 |none=>
  cases h2:x.x5 with
  |none=>grind
  |some c=>
   have:=AV.LM h2;subst this;cases h;cases hx with
   |rp _ b o vs hv hc=>refine⟨rfl,_,run _,?_⟩;rw[jj];refine .rp _ b (o+f.offset) (vs.drop f.offset) (λj v hj=>?_) (hc.drop _);grind
theorem MT{c:List AV}(hv:∀(j:Nat) v,vs[j]? = So v->E.cell b (o+j)=So v)(hc:aH E c vs)(k:Nat):Conc E (.rp (c.drop k)) (.pointer (So ⟨b,o+k,No⟩)):=by refine .rp _ b (o+k) (vs.drop k) (λj v hj=>?_) (hc.drop _);grind
theorem GE(h:uH P t=So (n,z)):∃e,P.underlying t=So (.array n e)/\aN P e=Tt/\aq P e=z:=by grind[uH,dH]
theorem nH{e:TypeId}(h:dO P t=So e):P.underlying t=So (.slice e):=by grind[dO]
theorem Oi(h:indexAddr P t x ix=So v)(hx:Conc E x u)(hi:Conc E ix i):
  ∃z,(Instr.indexAt t u i).run P w=.ok z w/\Conc E v z:=by
 unfold indexAddr at h;cases hn:gO ix with
 |none=>grind
 |some k=>
  rw[hn]at h;obtain⟨kd,rfl⟩:=tx hn hi;cases hx<;>first|cases h|skip
  ·rename_i r o B hB;simp only at h;cases ha:uH P t with
   |none=>grind
   |some nz=>have⟨n,z⟩:=nz;rw[ha]at h;have⟨hb,h'⟩:=dH h;rw[Q7]at hb;obtain⟨e,hu,hie,rfl⟩:=GE ha;subst h';refine⟨_,?_,.p r (o+k*aq P e) B hB⟩;have e1:(0:Int)<=Int.ofNat k/\Int.ofNat k<(n:Int):=⟨by simp,by grind⟩;simp[Instr.indexAt,asIntOf,bA hu,Instr.sureAddr,pure_bind,e1,fR hie,jj];grind
  ·rename_i c b o vs hv hc;simp only at h;cases ha:uH P t with
   |none=>grind
   |some nz=>have⟨n,z⟩:=nz;rw[ha]at h;have⟨hb,h'⟩:=dH h;rw[Q7]at hb;obtain⟨e,hu,hie,rfl⟩:=GE ha;subst h';refine⟨_,?_,MT hv hc (k*aq P e)⟩;have e1:(0:Int)<=Int.ofNat k/\Int.ofNat k<(n:Int):=⟨by simp,by grind⟩;simp[Instr.indexAt,asIntOf,bA hu,Instr.sureAddr,pure_bind,e1,fR hie,jj];grind
  ·rename_i r o n z c a hle hh;simp only at h;cases ha:dO P t with
   |none=>grind
   |some e=>
    rw[ha]at h;have⟨hb,h'⟩:=dH h;simp[bh]at hb;obtain⟨⟨hk,hie⟩,rfl⟩:=hb;have hu:=nH ha;subst h';rcases hh with rfl|⟨B,hB,rfl⟩
    ·omega
    ·refine⟨_,?_,.p r (o+k*aq P e) B hB⟩;have e1:(0:Int)<=Int.ofNat k/\Int.ofNat k<(n:Int):=⟨by simp,by grind⟩;simp[Instr.indexAt,asIntOf,bA hu,e1,fR hie,jj];grind
  ·rename_i r o n z c a hle hh;simp only at h;cases ha:dO P t with
   |none=>grind
   |some e=>
    rw[ha]at h;have⟨hb,h'⟩:=dH h;simp[bh]at hb;obtain⟨⟨hk,hie⟩,rfl⟩:=hb;have hu:=nH ha;subst h';obtain⟨B,hB,hcc,-⟩:=hh;rcases hcc with rfl|rfl
    ·omega
    ·refine⟨_,?_,.p r (o+k*aq P e) B hB⟩;have e1:(0:Int)<=Int.ofNat k/\Int.ofNat k<(n:Int):=⟨by simp,by grind⟩;simp only[Instr.indexAt,asIntOf,Q0,Q3,Q1,bA hu,Z9,e1,and_self,if_true,fR hie,jj];grind
  ·rename_i c n z kk b o vs hle hv hc;simp only at h;cases ha:dO P t with
   |none=>grind
   |some e=>rw[ha]at h;have⟨hb,h'⟩:=dH h;simp[bh]at hb;obtain⟨⟨hk,hie⟩,rfl⟩:=hb;have hu:=nH ha;subst h';refine⟨_,?_,MT hv hc (k*aq P e)⟩;have e1:(0:Int)<=Int.ofNat k/\Int.ofNat k<(n:Int):=⟨by simp,by grind⟩;simp only[Instr.indexAt,asIntOf,Q0,Q3,Q1,bA hu,Z9,e1,and_self,if_true,fR hie,jj];grind
  ·simp only at h;cases ha:dO P t with
   |none=>grind
   |some e=>
    rw[ha]at h;have hk:Nat.blt k 0=false:=by cases k<;>rfl
    simp_all
theorem OC(h:isStr P t=Tt):P.underlying t=So .string:=by grind[isStr]
theorem Ol(h:index P t x ix=So v)(hx:Conc E x u)(hi:Conc E ix i):
  ∃z,(Instr.index t u i).run P w=.ok z w/\Conc E v z:=by
 unfold index at h;cases hn:gO ix with
 |none=>grind
 |some k=>
  rw[hn]at h;obtain⟨kd,rfl⟩:=tx hn hi;cases h1:x.nw with
  |some l=>
   have:=AV.zX h1;subst this;obtain⟨hs,h⟩:=dm h;have hu:=OC hs;simp[CR]at h;cases hx with
   |s bs=>
    rw[<-K8]at h;cases hd:bs.data.toList.drop k with
    |nil=>grind
    |cons c rest=>
     rw[hd]at h;simp at h;subst h;have hk:k<bs.data.toList.length:=by grind[List.drop_eq_nil_of_le]
     rw[Z6 hk]at hd;injection hd with hd1 hd2
     refine⟨.int .u8 (Int.ofNat c.toNat),?_,.i _ _⟩;have hk':k<bs.size:=by simpa using hk
     have hget:bs[k]? = So c:=by rw[getElem?_pos bs k hk'];congr 1
     simp_all[Instr.index,asIntOf,bA]
  |none=>
   rw[h1]at h;cases hx<;>first|cases h|skip
   simp[partAt]at h;split at h
   ·rename_i n e hu;obtain⟨hb,h'⟩:=dm h;have hie:aN P e=true:=by
     grind[part,dm]
    obtain⟨z,hz1,hz2⟩:=I0 (w:=w) h' (by omega);simp_all[Instr.index,asIntOf,bA,fR]
   grind
theorem sV{y:Nat}{k:IntKind}{code:BoundsCode}(h:n<=y):(Instr.sliceBound (.int k (Int.ofNat n)) y code).run P w=.ok n w:=by grind[Instr.sliceBound,asIntOf,Q3]
inductive lS (E:Env):Option AV->Option Value->Prop
 |none:lS E No No
 |some (v:AV) (u:Value) (h:Conc E v u):lS E (So v) (So u)
theorem ny{l x:Option Value}(hb:fM len cap lo hi mx=So (a,b,m))(h1:lS E lo l)(h2:lS E hi h)(h3:lS E mx x)(isS:Bool):
  a<=b/\b<=m/\m<=cap/\(Instr.sliceBounds isS len cap l h x).run P w=.ok (a,b,m) w:=by
 unfold fM at hb;cases e1:dj 0 lo with
 |none=>grind
 |some a'=>
  cases e2:dj len hi with
  |none=>grind
  |some b'=>
   cases e3:dj cap mx with
   |none=>grind
   |some m'=>
    rw[e1,e2,e3]at hb;have⟨hc,hb'⟩:=dH hb;cases hb';simp only[Q5]at hc;have⟨⟨⟨c1,c2⟩,c3⟩,c4⟩:=hc;have c1:=Q2 c1;have c2:=Q2 c2;have c3:=Q2 c3;refine⟨c1,c2,c3,?_⟩;cases h1 with
    |none=>
     simp[dj]at e1;subst e1;cases h2 with
     |none=>
      cases h3 with
      |none=>simp_all[dj,Instr.sliceBounds]
      |some v u hv=>grind
     |some v u hv=>
      obtain⟨k,rfl⟩:=tx e2 hv;cases h3 with
      |none=>grind[dj,Instr.sliceBounds,Q0,sV,Q1,Q3]
      |some v' u' hv'=>obtain⟨k',rfl⟩:=tx e3 hv';simp only[Instr.sliceBounds,pure_bind,Q0,sV c2,sV c3,Q1,Q3]
    |some v0 u0 hv0=>
     obtain⟨k0,rfl⟩:=tx e1 hv0;cases h2 with
     |none=>
      cases h3 with
      |none=>grind[dj,Instr.sliceBounds,Q0,sV,Q1,Q3]
      |some v u hv=>grind
     |some v u hv=>
      obtain⟨k,rfl⟩:=tx e2 hv;cases h3 with
      |none=>simp[dj]at e3;subst e3;simp only[Instr.sliceBounds,pure_bind,Q0,sV c2,sV c1,Q1,Q3]
      |some v' u' hv'=>obtain⟨k',rfl⟩:=tx e3 hv';simp only[Instr.sliceBounds,Q0,sV c2,sV c3,sV c1,Q1,Q3]
def mH(mx:Option AV)(c m:Nat):Nat:=match mx with|none=>c|some _=>m
theorem UJ{c0:Nat}(hb:fM n c0 lo hi mx=So (a,b,m))(hc:c0<=c):fM n c lo hi mx=So (a,b,mH mx c m):=by
 unfold fM at hb|-;cases e1:dj 0 lo with
 |none=>grind
 |some a'=>
  cases e2:dj n hi with
  |none=>grind
  |some b'=>
   cases mx with
   |none=>rw[e1,e2]at hb;simp only[dj]at hb|-;have⟨h1,h2⟩:=dH hb;cases h2;simp only[Q5]at h1;have h3:=Q2 h1.1.1.1;have h4:=Q2 h1.1.1.2;have e3:Nat.ble a c=Tt/\Nat.ble b c=true:=⟨Q6 (by omega),Q6 (by omega)⟩;simp_all[Q6,mH]
   |some v=>grind[dj,dH,Q2,Q6,mH]
theorem GM(hb:fM n n lo hi mx=So (a,b,m))(hc:n<=c):fM n c lo hi mx=So (a,b,mH mx c m):=by
 unfold fM at hb|-;cases e1:dj 0 lo with
 |none=>grind
 |some a'=>
  cases e2:dj n hi with
  |none=>grind
  |some b'=>
   cases mx with
   |none=>rw[e1,e2]at hb;simp only[dj]at hb|-;have⟨hk,hb'⟩:=dH hb;cases hb';simp only[Q5]at hk;obtain⟨⟨⟨k1,k2⟩,k3⟩,-⟩:=hk;have k2:=Q2 k2;have q1:Nat.ble b c=true:=Q6 (by omega);simp_all[Q6,mH]
   |some v0=>grind[dj,dH,Q2,Q6,mH]
theorem BN{t:Nat}(h:oY P t z=Tt):∃e,P.underlying t=So (.slice e)/\aN P e=Tt/\aq P e=z:=by grind[oY,bh,nH]
theorem extract_toList(s:ByteArray)(a b:Nat):(s.extract a b).data.toList=(s.data.toList.drop a).take (b-a):=by simp_all
theorem tS{t:Nat}{a0:Addr}{l y:Option Value}(hu:P.underlying t=So (.slice e))(hie:aN P e=Tt)
  (hr:(Instr.sliceBounds Tt len cap l h y).run P w=.ok (a,b,m) w):
  (Instr.sliceAt t (.slice (So a0) len cap) l h y).run P w=.ok (.slice (So (if m=a then a0 else a0.add (a*aq P e))) (b-a) (m-a)) w:=by
 simp[Instr.sliceAt,Instr.slice,bA hu,hr,fR hie];grind
theorem acq{l y:Option Value}(hs:slice P t x lo hi mx=So v)(hx:Conc E x u)(h1:lS E lo l)(h2:lS E hi h)(h3:lS E mx y):
  ∃z,(Instr.sliceAt t u l h y).run P w=.ok z w/\Conc E v z:=by
 cases hx<;>first|(simp only[slice]at hs;cases hs;done)|skip
 ·rename_i bs;simp only[slice]at hs;cases h3 with
  |some _ _ _=>grind
  |none=>
   cases hb:fM (bs.data.toList.map UInt8.toNat).length (bs.data.toList.map UInt8.toNat).length lo hi No with
   |none=>grind
   |some abm=>
    obtain⟨a,b,m⟩:=abm;rw[hb]at hs;obtain⟨ht,hs'⟩:=dH hs;subst hs';have hu:=OC ht;have hlen:(bs.data.toList.map UInt8.toNat).length=bs.size:=by simp
    rw[hlen]at hb;obtain⟨c1,c2,c3,hr⟩:=ny (P:=P) (w:=w) hb h1 h2 .none Ff;refine⟨.string (bs.extract a b),?_,?_⟩
    ·simp_all[Instr.sliceAt,Instr.slice,bA]
    ·rw[<-K8,<-V0,<-extract_toList];exact .s _
 ·rename_i r o B hB;simp[slice]at hs;cases ha:uH P t with
  |none=>grind
  |some nz=>
   obtain⟨n,z⟩:=nz;rw[ha]at hs;simp only at hs;cases hb:fM n n lo hi mx with
   |none=>grind
   |some abm=>
    obtain⟨a,b,m⟩:=abm;rw[hb]at hs;cases hs;obtain⟨e,hu,hie,rfl⟩:=GE ha;obtain⟨c1,c2,c3,hr⟩:=ny (P:=P) (w:=w) hb h1 h2 h3 Ff;refine⟨.slice (So (if m=a then⟨B.b,o+B.d,No⟩ else Addr.add ⟨B.b,o+B.d,No⟩ (a*aq P e))) (b-a) (m-a),?_,?_⟩
    ·simp_all[Instr.sliceAt,bA,Instr.sureAddr,fR]
    ·refine .slk r _ _ _ _ _ (by omega) ?_;grind[jj]
 ·rename_i r o n z c a0 hle hh;simp[slice]at hs;cases hb:fM n c lo hi mx with
  |none=>grind
  |some abm=>obtain⟨a,b,m⟩:=abm;rw[hb]at hs;obtain⟨ht,hs'⟩:=dH hs;subst hs';obtain⟨e,hu,hie,rfl⟩:=BN ht;obtain⟨c1,c2,c3,hr⟩:=ny hb h1 h2 h3 Tt;refine⟨_,tS hu hie hr,.slk r _ _ _ _ _ (by omega) ?_⟩;grind[jj]
 ·rename_i r o n z c a0 hle hh;simp[slice]at hs;cases hb:fM n n lo hi mx with
  |none=>grind
  |some abm=>
   obtain⟨a,b,m⟩:=abm;rw[hb]at hs;obtain⟨ht,hs'⟩:=dH hs;obtain⟨e,hu,hie,rfl⟩:=BN ht;have hb':=GM hb hle;cases h3 with
   |none=>
    simp at hs';subst hs';obtain⟨c1,c2,c3,hr⟩:=ny hb' h1 h2 .none Tt;simp[mH]at c1 c2 c3 hr;refine⟨_,tS hu hie hr,.slu r _ _ _ _ _ (by omega) ?_⟩;obtain⟨B,hB,hcc,hroom⟩:=hh;refine⟨B,hB,?_,?_⟩
    ·grind[jj]
    ·have e3:(c-a)*aq P e=c*aq P e-a*aq P e:=V1 c a _;have e4:a*aq P e<=c*aq P e:=J3 _ (by omega);omega
   |some v0 u0 hv0=>simp at hs';subst hs';obtain⟨c1,c2,c3,hr⟩:=ny hb' h1 h2 (.some v0 u0 hv0) Tt;simp[mH]at c1 c2 c3 hr;refine⟨_,tS hu hie hr,.slk r _ _ _ _ _ (by omega) ?_⟩;grind[jj]
 ·simp[slice]at hs;cases he:dO P t with
  |none=>grind
  |some e=>
   rw[he]at hs;cases hb:fM 0 0 lo hi mx with
   |none=>grind
   |some abm=>
    obtain⟨a,b,m⟩:=abm;rw[hb]at hs;obtain⟨hie,hs'⟩:=dH hs;subst hs';have hu:=nH he;obtain⟨c1,c2,c3,hr⟩:=ny (P:=P) (w:=w) hb h1 h2 h3 Tt;have ea:a=0:=by omega
    have eb:b=0:=by omega
    have em:m=0:=by omega
    subst ea;subst eb;subst em;refine⟨.slice No 0 0,?_,.sn⟩;simp only[Instr.sliceAt,Instr.slice,Q0,bA hu,Q1,hr,fR hie,Q3];simp
 ·rename_i c n z kk b0 o0 vs hle hv hc;simp[slice]at hs;cases hb:fM n n lo hi mx with
  |none=>rw[hb]at hs;cases hs
  |some abm=>
   obtain⟨a,b,m⟩:=abm;rw[hb]at hs;obtain⟨ht,hs'⟩:=dm hs;obtain⟨e,hu,hie,rfl⟩:=BN ht;have hb':=GM hb hle;cases h3 with
   |none=>
    simp at hs';subst hs';obtain⟨c1,c2,c3,hr⟩:=ny hb' h1 h2 .none Tt;simp[mH]at c1 c2 c3 hr;refine⟨_,tS hu hie hr,?_⟩;by_cases hm:kk=a
    ·have e1:b-a=0:=by omega
     have e2:kk-a=0:=by omega
     rw[e1,e2];exact .rs0 _ _ _ _
    ·rw[if_neg hm,jj];refine .rs _ _ _ _ b0 (o0+a*aq P e) (vs.drop (a*aq P e)) (by omega) (λj v hj=>?_) (hc.drop _);rw[List.getElem?_drop]at hj;rw[show o0+a*aq P e+j=o0+(a*aq P e+j) by omega];exact hv _ v hj
   |some v0 u0 hv0=>
    simp at hs';obtain⟨hma,hs''⟩:=dH hs';rw[bh,decide_eq_true_eq]at hma;subst hs'';subst hma;obtain⟨c1,c2,c3,hr⟩:=ny hb' h1 h2 (.some v0 u0 hv0) Tt;simp[mH]at c1 c2 c3 hr;refine⟨_,tS hu hie hr,?_⟩;have e1:b-m=0:=by omega
    rw[e1,V2];exact .slk 0 0 0 _ 0 _ (Q4 _) (.inl rfl)
 ·rename_i c z a0 kk;simp[slice]at hs;cases hb:fM 0 0 lo hi mx with
  |none=>rw[hb]at hs;cases hs
  |some abm=>
   obtain⟨a,b,m⟩:=abm;rw[hb]at hs;obtain⟨ht,hs'⟩:=dm hs;obtain⟨e,hu,hie,rfl⟩:=BN ht;have hb':=GM hb (Nat.zero_le kk);cases h3 with
   |none=>
    simp at hs';subst hs';obtain⟨c1,c2,c3,hr⟩:=ny hb' h1 h2 .none Tt;simp[mH]at c1 c2 c3 hr;refine⟨_,tS hu hie hr,?_⟩;have e1:b-a=0:=by obtain⟨c4,c5,c6,-⟩:=ny (P:=P) (w:=w) hb h1 h2 .none Tt;omega
    rw[e1];exact .rs0 _ _ _ _
   |some v0 u0 hv0=>
    simp at hs';obtain⟨hma,hs''⟩:=dH hs';rw[bh,decide_eq_true_eq]at hma;subst hs'';subst hma;obtain⟨c1,c2,c3,hr⟩:=ny hb' h1 h2 (.some v0 u0 hv0) Tt;simp[mH]at c1 c2 c3 hr;refine⟨_,tS hu hie hr,?_⟩;have e1:b-m=0:=by omega
    rw[e1,V2];exact .slk 0 0 0 _ 0 _ (Q4 _) (.inl rfl)
theorem Ri(h:Rel E w.heap st){a:Addr}(hx:Conc E (.sl r o n z No) (.slice (So a) n c)):qe st r o z<=c:=by
 cases hx with
 |slu _ _ _ _ _ _ hle hh=>
  obtain⟨B,hB,-,hroom⟩:=hh;unfold qe;cases hce:st.ce r with
  |none=>grind
  |some lga=>
   have⟨l,g,al⟩:=lga;have⟨B',cs,t,fz,hB',hH,hfz,hn,hdl,hC⟩:=h.cells hce;rcases Nat.eq_zero_or_pos z with rfl|hz
   ·simp
   ·have h1:=Nat.div_mul_le_self (l.length-o) z;have h2:(l.length-o) / z*z<=c*z:=by
     grind
    exact Nat.le_of_mul_le_mul_right h2 hz
theorem acp(h:Rel E w.heap st){l y:Option Value}(hs:Fy P st t lo hi mx x=So v)(hx:Conc E x u)(h1:lS E lo l)(h2:lS E hi hv)(h3:lS E mx y):
  ∃z,(Instr.sliceAt t u l hv y).run P w=.ok z w/\Conc E v z:=by
 unfold Fy at hs;split at hs
 ·rename_i r o n z;cases hx with
  |slu _ _ _ _ c a0 hle hh=>
   have hrs:=Ri h (.slu r o n z c a0 hle hh);unfold qe at hrs;cases hce:st.ce r with
   |none=>grind
   |some lga=>
   obtain⟨l0,g0,al0⟩:=lga;rw[hce]at hs hrs;simp only at hs hrs;cases hb:fM n ((l0.length-o) / z) lo hi mx with
   |none=>grind
   |some abm=>
    obtain⟨a,b,m⟩:=abm;rw[hb]at hs;obtain⟨ht,hs'⟩:=dH hs;obtain⟨e,hu,hie,rfl⟩:=BN ht;have hb':=UJ hb hrs;cases h3 with
    |none=>
     subst hs';obtain⟨c1,c2,c3,hr⟩:=ny hb' h1 h2 .none Tt;simp[mH]at c1 c2 c3 hr;refine⟨_,tS hu hie hr,.slu r _ _ _ _ _ (by omega) ?_⟩;obtain⟨B,hB,hcc,hroom⟩:=hh;refine⟨B,hB,?_,?_⟩
     ·grind[jj]
     ·have e3:(c-a)*aq P e=c*aq P e-a*aq P e:=V1 c a _;have e4:a*aq P e<=c*aq P e:=J3 _ (by omega);omega
    |some v0 u0 hv0=>subst hs';obtain⟨c1,c2,c3,hr⟩:=ny hb' h1 h2 (.some v0 u0 hv0) Tt;simp[mH]at c1 c2 c3 hr;refine⟨_,tS hu hie hr,.slk r _ _ _ _ _ (by omega) ?_⟩;grind[jj]
 grind
theorem RO(h:Rel E w.heap st){l y:Option Value}(hs:gR P st t x lo hi mx=So v)(hx:Conc E x u)(h1:lS E lo l)(h2:lS E hi hv)(h3:lS E mx y):
  ∃z,(Instr.sliceAt t u l hv y).run P w=.ok z w/\Conc E v z:=by
 unfold gR at hs;split at hs
 ·rename_i v' hv';cases hs;exact acq hv' hx h1 h2 h3
 ·exact acp h hs hx h1 h2 h3
theorem Ec(a:Addr):(loadCells a 0).run P w=.ok #[] w:=rfl
theorem yj(h:Rel E w.heap st)(hf:firstCells st z n x=So l)(hx:Conc E x u)(hm:lenOf x=So m)(hn:n<=m):
  ∃us:List Value,(Builtin.firstCells z n u).run P w=.ok us.toArray w/\aH E l us:=by
 cases hx<;>first|(cases hf)|skip
 ·rename_i bs;obtain⟨-,hf⟩:=dH hf;subst hf;refine⟨((bs.extract 0 n).data.toList.map λb=>.int .u8 b.toNat),?_,?_⟩
  ·simp[Builtin.firstCells];grind
  ·have:((bs.extract 0 n).data.toList)=bs.data.toList.take n:=by simp_all
   rw[this,<-V0];generalize bs.data.toList.take n=l;induction l with
   |nil=>exact .nil
   |cons b l ih=>exact .cons _ _ _ _ (.i _ _) ih
 ·rename_i r o k z' c a hle hh;simp[firstCells]at hf;by_cases h0:n=0
  ·subst h0;cases hf;exact⟨[],by simp[Builtin.firstCells,Ec],.nil⟩
  ·rw[bh,decide_eq_false h0]at hf;cases hm;rcases hh with rfl|⟨B,hB,rfl⟩
   ·omega
   ·obtain⟨us,h1,h2,-⟩:=EY h hf hB;exact⟨us,h1,h2⟩
 ·rename_i r o k z' c a hle hh;simp[firstCells]at hf;by_cases h0:n=0
  ·subst h0;cases hf;exact⟨[],by simp[Builtin.firstCells,Ec],.nil⟩
  ·rw[bh,decide_eq_false h0]at hf;cases hm;obtain⟨B,hB,hcc,-⟩:=hh;rcases hcc with rfl|rfl
   ·omega
   ·obtain⟨us,h1,h2,-⟩:=EY h hf hB;exact⟨us,h1,h2⟩
 ·simp[firstCells]at hf;by_cases h0:n=0
  ·subst h0;cases hf;exact⟨[],by simp[Builtin.firstCells],.nil⟩
  simp_all[bh]
 ·rename_i c k z' kk b o vs hle hv hc;obtain⟨rfl,hk⟩:=pQ hf;have hlen:=hc.length;refine⟨vs.take (n*z),?_,by simpa using hc.take (n*z)⟩;grind[Builtin.firstCells,Rm]
 ·cases hm;have h0:n=0:=by omega
  subst h0;have hl:=lW hf;rw[J5]at hl;have:=V3 hl;subst this;exact⟨[],by simp[Builtin.firstCells,Ec],.nil⟩
theorem OT(h:lenOf x=So n)(hx:Conc E x u):(Builtin.lenOf u).run P w=.ok n w:=by
 cases hx<;>first|(cases h;done)|skip
 ·cases h;simp_all[Builtin.lenOf]
 all_goals (cases h;rfl)
theorem Qm{x:TypeId}{r:List TypeId}(h:tI P (t::x::r)=Tt):∃d,P.underlying x=So d/\∀k,d≠.int k:=by grind[tI]
theorem Ql{x e:TypeId}{r:List TypeId}{az:Array Value}(hu:P.underlying t=So (.slice e))(hd:P.underlying x=So d)(hdf:∀k,d≠.int k):
  (Builtin.append_ (t::x::r).toArray ty az).run P w=(Builtin.append_ [t].toArray ty az).run P w:=by
 unfold Builtin.append_;simp only[List.getElem?_toArray,List.getElem?_cons_zero,List.getElem?_cons_succ,List.getElem?_nil];cases az[0]? with
 |none=>rfl
 |some s=>
  cases az[1]? with
  |none=>rfl
  |some y=>
   simp only[Q0,bA hu,Q1];cases s<;>try rfl
   simp only[Q0];simp only[bA hd,Q1,Q3]
theorem uE{t:Nat}{us:List Value}(ht:ts.head? = So t)(hu:P.underlying t=So (.slice e))(hi:aN P e=Tt)(hz:aq P e=z)
  (hp:tI P ts=Tt) (hl:∀w,(Builtin.lenOf ux).run P w=.ok n w) (hroom:sLen+n<=sCap) (hf:(Builtin.firstCells z n ux).run P w=.ok us.toArray w)
  (hs:∀a,base=So a->(storeCells (a.add (sLen*z)) us).run P w=.ok () w') (hn:base=No->w'=w) (ty:TypeId):
  (Builtin.append_ ts.toArray ty #[.slice base sLen sCap,ux]).run P w=.ok (.slice base (sLen+n) sCap) w':=by
 obtain⟨ts',rfl⟩:∃r,ts=t::r:=by cases ts with|nil=>grind|cons a r=>grind
 have fin:(match base with
   |some a=>(do storeCells (a.add (sLen*z)) us;pure (Value.slice base (sLen+n) sCap):Sem Value)
   |none=>pure (Value.slice base (sLen+n) sCap)).run P w=.ok (.slice base (sLen+n) sCap) w':=by
  cases base with
  |none=>simp_all
  |some a=>simp_all
 cases ts' with
 |nil=>
  simp[Builtin.append_,bA hu,fR hi,hz,hl,hroom,hf];cases base with
  |none=>grind
  |some a=>simp_all
 |cons x r=>
  have⟨d,hd,hdf⟩:=Qm hp;have key:(Builtin.append_ (t::x::r).toArray ty #[.slice base sLen sCap,ux]).run P w=(Builtin.append_ [t].toArray ty #[.slice base sLen sCap,ux]).run P w:=Ql hu hd hdf;rw[key];simp[Builtin.append_,bA hu,fR hi,hz,hl,hroom,hf];cases base with
  |none=>grind
  |some a=>simp_all
theorem MS(w:World)(o:Obj):(w.drew.alloc o).heap[w.heap.size]? = So o:=by
 show(w.heap.push o)[w.heap.size]? = So o
 simp
theorem Ui{t:Nat}{zero:Value}{us os:List Value}(ht:ts.head? = So t)(hu:P.underlying t=So (.slice e))(hi:aN P e=Tt)(hz:aq P e=z)
  (hp:tI P ts=Tt) (hl:∀w,(Builtin.lenOf ux).run P w=.ok n w) (hroom:¬sLen+n<=sCap) (hf:(Builtin.firstCells z n ux).run P w.drew=.ok us.toArray w.drew)
  (ho:(Builtin.firstCells z sLen (.slice base sLen sCap)).run P w.drew=.ok os.toArray w.drew) (hb:1<=jZ P e) (hbig:(2*(sLen+n)+2000)*jZ P e<=281474976710656)
  (hzero:∀w,(zeroValue e).run P w=.ok zero w) (ty:TypeId):
  ∃newCap,sLen+n<=newCap/\(Builtin.append_ ts.toArray ty #[.slice base sLen sCap,ux]).run P w=.ok (.slice (So ⟨w.heap.size,0,No⟩) (sLen+n) newCap)
   (w.drew.alloc (.cells (os.toArray++(us.toArray++Builtin.zeroCells zero.cells (newCap-(sLen+n)))) e)):=by
 obtain⟨ts',rfl⟩:∃r,ts=t::r:=by cases ts with|nil=>grind|cons a r=>grind
 have⟨i,dd,hinf,hdd⟩:=wJ hi;have hby:jZ P e=i.bytes:=by simp[jZ,hinf]
 rw[hby]at hb hbig;have hgrow:∀(k c:Nat),c<sLen+n+0->Builtin.growBy (sLen+n) k c<=2*(sLen+n)+1000:=by
  intro k;induction k with
  |zero=>grind[Builtin.growBy]
  |succ k ih=>
   intro c hc;simp[Builtin.growBy];rw[if_neg (by omega)];by_cases h2:c+(c+768) / 4<sLen+n+0
   ·grind
   ·cases k with
    |zero=>simp[Builtin.growBy];omega
    |succ k=>grind[Builtin.growBy]
 have hcap:Builtin.nextslicecap (sLen+n) sCap<=2*(sLen+n)+1000:=by grind[Builtin.nextslicecap]
 have hbytes:¬Builtin.nextslicecap (sLen+n) sCap*i.bytes > 2 ^ 48:=by have:Builtin.nextslicecap (sLen+n) sCap*i.bytes<=(2*(sLen+n)+2000)*i.bytes:=J3 _ (by omega);omega
 have hq:(Question.appendCap (sLen+n) sCap e).forced=false:=rfl;have hb0:¬i.bytes=0:=by omega
 refine⟨sLen+n+w.tape w.drawn (.appendCap (sLen+n) sCap e) % (2 ^ 63-(sLen+n)),by omega,?_⟩;cases ts' with
 |nil=>simp[Builtin.append_,bA hu,fR hi,hz,hl,hroom,hf,ho,vI hinf,hbytes,hq,Question.cut,hzero,newRow,hb0]
 |cons x r=>have⟨d,hd,hdf⟩:=Qm hp;rw[Ql hu hd hdf];simp[Builtin.append_,bA hu,fR hi,hz,hl,hroom,hf,ho,vI hinf,hbytes,hq,Question.cut,hzero,newRow,hb0]
theorem Nx(h:fits P e need=Tt):∃z,(∀w,(zeroValue e).run P w=.ok z w)/\z.cells.size=aq P e/\1<=jZ P e/\(2*need+2000)*jZ P e<=281474976710656:=by
 unfold fits at h;simp only[Q5]at h;have⟨⟨h1,h2⟩,h3⟩:=h;cases hz:bt P e with
 |none=>grind
 |some l=>have⟨z,g1,g2,g3,g4⟩:=pg (E:=⟨λ_=>No,λ_=>No,0⟩) hz;refine⟨z,g1,?_,Q2 h2,Q2 h3⟩;have:=g2.length;grind
theorem Tb(z:Array Value)(n:Nat):(Builtin.zeroCells z n).size=n*z.size:=by simp[Builtin.zeroCells]
theorem Ia(h:Rel E w.heap st)(hn:st.next<E.top){newCap:Nat}{cs:List AV}{us:List Value}{zc:Array Value}(e:TypeId)(hc:aH E cs us)(hl:us.length=need*z)(hz:zc.size=(newCap-need)*z)(hle:need<=newCap):
  ∃E',Step E E' w.heap (w.drew.alloc (.cells (us.toArray++zc) e)).heap st (st.aj cs)/\Conc E' (.sl st.next 0 need z No) (.slice (So ⟨w.heap.size,0,No⟩) need newCap)/\nj E' (w.drew.alloc (.cells (us.toArray++zc) e)).heap e st.next true:=by
 have hcl:=hc.length;have hs:=Step.aj h hn cs (us++zc.toList) e (0,0) (.inl rfl) (by grind) (by grind);have e1:(us++zc.toList).toArray=us.toArray++zc:=by grind
 rw[e1]at hs;refine⟨_,hs,.slu _ _ _ _ _ _ hle ⟨_,Env.df,.inr (by simp),?_⟩,⟨_,Env.df,λ_=>rfl,us.toArray++zc,(0,0),MS w _⟩⟩;simp[hl,hz];have:need*z+(newCap-need)*z=newCap*z:=by rw[<-Q8];grind
 omega
def Cp(E:Env)(H:Array Obj)(e:Nat):AV->Prop
 |.sn=>True
 |.sl r o _ _ _=>o=0/\nj E H e r Tt
 |_=>False
def Co(E:Env)(H:Array Obj)(e:Nat):AV->Prop
 |.sl r _ _ _ _=>nj E H e r Tt
 |_=>True
theorem LH(h:Rel E w.heap st){us:Value}(ha:append P st ts s x=So (v,st'))(hs:Conc E s us)(hx:Conc E x ux)(hn:st'.next<=E.top)(ty:TypeId):
  ∃E' w' cv,(Builtin.append_ ts.toArray ty #[us,ux]).run P w=.ok cv w'/\aR E E' w w' st st'/\Conc E' v cv/\(∀t r e,ts=t::r->dO P t=So e->Cp E w.heap e s->Co E' w'.heap e v):=by
 unfold append at ha;split at ha
 ·grind
 ·rename_i t r;cases he:dO P t with
  |none=>grind
  |some e=>
   cases hl:lenOf x with
   |none=>grind
   |some n=>
    rw[he,hl]at ha;simp only at ha;cases hf:firstCells st (aq P e) n x with
    |none=>grind
    |some new=>
     rw[hf]at ha;simp only at ha;obtain⟨hb,ha⟩:=dm ha;simp at hb;obtain⟨⟨hp,hi⟩,hsc⟩:=hb;have hu:=nH he;have hlen:∀w:World,(Builtin.lenOf ux).run P w=.ok n w:=λw=>OT hl hx
     obtain⟨nu,hnu,hnc⟩:=yj h hf hx hl (Q4 _);obtain⟨nu',hnu',hnc'⟩:=yj (w:=w.drew) h hf hx hl (Q4 _);have hn0:n=0->nu=[]:=by
      rintro rfl;have hq:=hnc.length;cases hx<;>first|(simp[firstCells]at hf;cases hf;done)|skip
      all_goals first
       |(simp[firstCells]at hf;obtain⟨-,hf⟩:=dH hf;grind)
       |(simp[firstCells]at hf;subst hf;grind)
       |grind[firstCells,lW]
     have hone:=Gr hnc hsc;have tyk:∀{E':Env}{H':Array Obj}{s v:AV},(Cp E w.heap e s->Co E' H' e v)->∀t' r' e',t::r=t'::r'->dO P t'=So e'->Cp E w.heap e' s->Co E' H' e' v:=by grind
     have anew:∀(base:Option Addr) (sLen sCap:Nat) (old:List AV) (os:List Value),¬sLen+n<=sCap->fits P e (sLen+n)=Tt->
       (Builtin.firstCells (aq P e) sLen (.slice base sLen sCap)).run P w.drew=.ok os.toArray w.drew->aH E old os->os.length=sLen*aq P e->nu'.length=n*aq P e->
       ∃newCap zc,sLen+n<=newCap/\zc.size=(newCap-(sLen+n))*aq P e/\(Builtin.append_ (t::r).toArray ty #[.slice base sLen sCap,ux]).run P w =
        .ok (.slice (So ⟨w.heap.size,0,No⟩) (sLen+n) newCap) (w.drew.alloc (.cells ((os++nu').toArray++zc) e)):=by
      intro base sLen sCap old os hroom hfit ho hco hol hnl;obtain⟨z,g1,g2,g3,g4⟩:=Nx hfit;obtain⟨newCap,k1,k2⟩:=Ui rfl hu hi rfl hp hlen hroom hnu' ho g3 g4 g1 ty;grind[Tb]
     have nlen:n≠0->nu'.length=n*aq P e:=by
      intro h0;have hq:=hnc'.length;cases hx<;>first|(simp only[firstCells]at hf;cases hf;done)|skip
      ·simp[firstCells,bh]at hf;obtain⟨hz1,hf⟩:=dH hf;rw[decide_eq_true_eq]at hz1;subst hf;cases hl;rw[<-hq,hz1];simp
      ·simp[firstCells,bh,decide_eq_false h0]at hf;unfold rd at hf;split at hf
       ·rw[lW hf]at hq;exact hq.symm
       ·cases hf
      ·simp[firstCells,bh,decide_eq_false h0]at hf;unfold rd at hf;split at hf
       ·rw[lW hf]at hq;exact hq.symm
       ·cases hf
      ·simp only[firstCells,bh,decide_eq_false h0]at hf;cases hf
      ·simp[firstCells]at hf;rw[lW hf]at hq;exact hq.symm
      ·simp[firstCells]at hf;rw[lW hf]at hq;exact hq.symm
     cases hs with
     |sn=>
      simp only at ha;by_cases h0:n=0
      ·rw[bh,decide_eq_true h0]at ha;cases ha;have hr:=uE (base:=No) (sLen:=0) (sCap:=0) rfl hu hi rfl hp hlen (by omega) hnu (λa e=>by cases e) (λ_=>rfl) ty;rw[h0]at hr;exact⟨E,w,_,hr,.refl h,.sn,tyk λ_=>trivial⟩
      ·rw[bh,decide_eq_false h0]at ha;simp only at ha;obtain⟨hfit,ha⟩:=dH ha;cases ha;obtain⟨newCap,zc,k1,k2,k3⟩:=anew No 0 0 [] [] (by omega) (by simpa using hfit) (by simp[Builtin.firstCells]) .nil (by simp) (nlen h0);obtain⟨E',q1,q2,q3⟩:=Ia h (show st.next+1<=E.top from hn) e (aH.append .nil hnc') (by simpa using nlen h0) k2 k1;exact⟨E',_,_,k3,⟨by simpa using q1,rfl,rfl⟩,by simpa[grow]using q2,tyk λ_=>by simpa[grow,Co]using q3⟩
     |rs c len z k b o vs hle hv hc=>simp only at ha;obtain⟨h0,ha⟩:=dH ha;rw[bh,decide_eq_true_eq]at h0;cases ha;have hr:=uE (w:=w) (w':=w) (ts:=t::r) (base:=So ⟨b,o,No⟩) (sLen:=len) (sCap:=k) (us:=nu) rfl hu hi rfl hp hlen (by omega) hnu (λa e=>by rw[hn0 h0];rfl) (λ_=>rfl) ty;rw[h0,J6]at hr;exact⟨E,w,_,hr,.refl h,.rs c len z k b o vs hle hv hc,tyk λ_=>trivial⟩
     |rs0 c z a0 k0=>simp only at ha;obtain⟨h0,ha⟩:=dH ha;rw[bh,decide_eq_true_eq]at h0;cases ha;have hr:=uE (w:=w) (w':=w) (ts:=t::r) (base:=So a0) (sLen:=0) (sCap:=k0) (us:=nu) rfl hu hi rfl hp hlen (by omega) hnu (λa e=>by rw[hn0 h0];rfl) (λ_=>rfl) ty;rw[h0]at hr;exact⟨E,w,_,hr,.refl h,.rs0 c z a0 k0,tyk λ_=>trivial⟩
     |slk r0 o len z c a0 hle hh=>
      simp only at ha;obtain⟨hzz,ha⟩:=dm ha;rw[bh,decide_eq_true_eq]at hzz;subst hzz;by_cases h0:n=0
      ·rw[bh,decide_eq_true h0]at ha;cases ha;have hr:=uE (w:=w) (w':=w) (ts:=t::r) (base:=So a0) (sLen:=len) (sCap:=c) (us:=nu) rfl hu hi rfl hp hlen (by omega) hnu (λa e=>by rw[hn0 h0];rfl) (λ_=>rfl) ty;rw[h0,J6]at hr;exact⟨E,w,_,hr,.refl h,.slk _ _ _ _ _ _ hle hh,tyk λht=>ht.2⟩
      ·rw[bh,decide_eq_false h0]at ha;simp only at ha;cases hroom:Nat.ble (len+n) c with
       |true=>
        rw[hroom]at ha;simp only at ha;have hroom:=Q2 hroom;cases hw:wt st r0 (o+len*aq P e) new with
        |none=>rw[hw]at ha;cases ha
        |some st1=>
         rw[hw]at ha;cases ha;obtain⟨B,cs,tt,fz,g1,g2,g3,g4,g5,g6⟩:=Step.wt h hw hnc;rcases hh with rfl|⟨B',hB',rfl⟩
         ·omega
         ·rw[g1]at hB';cases hB';have hrun:=xg P B.b (o+len*aq P e+B.d) tt fz nu 0 cs w g2 g3.not (by omega) g5;have hr:=uE (w:=w) (ts:=t::r) (base:=So ⟨B.b,o+B.d,No⟩) (sLen:=len) (sCap:=c) (us:=nu) rfl hu hi rfl hp hlen hroom hnu
           (λa ea=>by cases ea;rw[jj,show o+B.d+len*aq P e=o+len*aq P e+B.d by omega];exact hrun) (λe=>by cases e) ty
          exact⟨E,_,_,hr,.of (by simpa using g6),.slk _ _ _ _ _ _ hroom (.inr ⟨B,g1,rfl⟩),tyk λht=>ht.2.mono (.refl E) (dZ.set g2)⟩
       |false=>
        rw[hroom]at ha;simp only at ha;have hroom:¬len+n<=c:=by intro hc;rw[Q6 hc]at hroom;cases hroom
        obtain⟨hfit,ha⟩:=dm ha;cases hfo:firstCells st (aq P e) len (.sl r0 o len (aq P e) (So c))with
        |none=>rw[hfo]at ha;cases ha
        |some old=>
         rw[hfo]at ha;cases ha;obtain⟨os,q1,q2⟩:=yj (P:=P) (w:=w.drew) h hfo (.slk r0 o len _ c a0 hle hh) rfl (Q4 _);have hol:os.length=len*aq P e:=by
          have hq:=q2.length;simp[firstCells,bh]at hfo;by_cases hl0:len=0
          ·rw[decide_eq_true hl0]at hfo;cases hfo;rw[hl0,J5];exact hq.symm
          ·rw[decide_eq_false hl0]at hfo;simp[rd]at hfo;split at hfo
           ·rw[lW hfo]at hq;exact hq.symm
           ·cases hfo
         obtain⟨newCap,zc,k1,k2,k3⟩:=anew (So a0) len c old os hroom hfit q1 q2 hol (nlen h0);obtain⟨E',p1,p2,p3⟩:=Ia (w:=w) h (show st.next+1<=E.top from hn) (z:=aq P e) (need:=len+n) (newCap:=newCap) e (aH.append q2 hnc') (by rw[List.length_append,hol,nlen h0,Q8]) k2 k1;exact⟨E',_,_,k3,⟨p1,rfl,rfl⟩,p2,tyk λ_=>p3⟩
     |slu r0 o len z c a0 hle hh=>
      simp only at ha;obtain⟨hzz,ha⟩:=dm ha;rw[bh,decide_eq_true_eq]at hzz;subst hzz;by_cases h0:n=0
      ·rw[bh,decide_eq_true h0]at ha;cases ha;have hr:=uE (w:=w) (w':=w) (ts:=t::r) (base:=So a0) (sLen:=len) (sCap:=c) (us:=nu) rfl hu hi rfl hp hlen (by omega) hnu (λa e=>by rw[hn0 h0];rfl) (λ_=>rfl) ty;rw[h0,J6]at hr;exact⟨E,w,_,hr,.refl h,.slu _ _ _ _ _ _ hle hh,tyk λht=>ht.2⟩
      ·rw[bh,decide_eq_false h0]at ha;simp only at ha;unfold vn at ha;cases hrm:Nat.ble (len+n) (qe st r0 o (aq P e))with
       |true=>
        rw[hrm]at ha;simp only at ha;have hroom:len+n<=c:=Nat.le_trans (Q2 hrm) (Ri (w:=w) h (.slu r0 o len _ c a0 hle hh));cases hw:wt st r0 (o+len*aq P e) new with
        |none=>rw[hw]at ha;cases ha
        |some st1=>
         rw[hw]at ha;cases ha;obtain⟨B,cs,tt,fz,g1,g2,g3,g4,g5,g6⟩:=Step.wt h hw hnc;obtain⟨B',hB',hcc,hbound⟩:=hh;rcases hcc with rfl|rfl
         ·omega
         ·rw[g1]at hB';cases hB';have hrun:=xg P B.b (o+len*aq P e+B.d) tt fz nu 0 cs w g2 g3.not (by omega) g5;have hr:=uE (w:=w) (ts:=t::r) (base:=So ⟨B.b,o+B.d,No⟩) (sLen:=len) (sCap:=c) (us:=nu) rfl hu hi rfl hp hlen hroom hnu
           (λa ea=>by cases ea;rw[jj,show o+B.d+len*aq P e=o+len*aq P e+B.d by omega];exact hrun) (λe=>by cases e) ty
          exact⟨E,_,_,hr,.of (by simpa using g6),.slu _ _ _ _ _ _ hroom ⟨B,g1,.inr rfl,hbound⟩,tyk λht=>ht.2.mono (.refl E) (dZ.set g2)⟩
       |false=>
       rw[hrm]at ha;obtain⟨hfit,ha⟩:=dm ha;unfold yr at ha;cases hce:st.ce r0 with
       |none=>rw[hce]at ha;cases ha
       |some lga=>
        obtain⟨l,g,al⟩:=lga;rw[hce]at ha;simp only at ha;cases hcut:cut l o (len*aq P e)with
        |none=>rw[hcut]at ha;cases ha
        |some old=>
         rw[hcut]at ha;simp[bh]at ha;obtain⟨rfl,rfl⟩:=ha;have hnt:st.next<E.top:=hn;generalize hal:(@Bool.rec (λ_=>List Nat) [st.next] (st.next::from_ r0 al) (decide (o+len*aq P e=l.length)))=al';have hal':(al'=st.next::from_ r0 al/\o+len*aq P e=l.length)\/al'=[st.next]:=by
          by_cases hq:o+len*aq P e=l.length
          ·left;rw[decide_eq_true hq]at hal;exact⟨hal.symm,hq⟩
          ·right;rw[decide_eq_false hq]at hal;exact hal.symm
         by_cases hroom:len+n<=c
         ·obtain⟨B,hB,hcc,hbound⟩:=hh;rcases hcc with rfl|rfl
          ·omega
          ·have hmul:(len+n)*aq P e<=c*aq P e:=J3 _ hroom;rw[Q8]at hmul;have hq:=hnc.length;have hq':=hnc'.length;have hnl:=nlen h0;obtain⟨cs,tt,fz,g1,g2,g3,g4⟩:=Step.Ig h hnt hce hcut hal' hnc hB (by omega);have hrun:=xg P B.b (o+B.d+len*aq P e) tt fz nu 0 cs w g1 g2.not (by omega) hone;have hr:=uE (w:=w) (ts:=t::r) (base:=So ⟨B.b,o+B.d,No⟩) (sLen:=len) (sCap:=c) (us:=nu) rfl hu hi rfl hp hlen hroom hnu
            (λa ea=>by cases ea;rw[jj];exact hrun) (λe=>by cases e) ty
           refine⟨_,_,_,hr,.of g4,.slu _ _ _ _ _ _ hroom ⟨_,Env.df,.inr (by simp),?_⟩,tyk λht=>?_⟩
           case refine_2=>
            obtain⟨ho,B2,hB2,hd2,cs2,fz2,hc2⟩:=ht;rw[hB]at hB2;cases hB2;have hlt:=(Z4.1 g1).1;have htt:tt=e:=by rw[g1]at hc2;simp at hc2;exact hc2.2.1
            subst htt;exact⟨_,Env.df,λ_=>by show o+B.d=0;rw[ho,hd2 rfl],_,_,Array.getElem?_setIfInBounds_self_of_lt hlt⟩
           simp only;omega
         ·have hfo:firstCells st (aq P e) len (.sl r0 o len (aq P e) No)=So old\/len=0:=by
           by_cases hl0:len=0
           ·exact .inr hl0
           ·left;simp[firstCells,bh,decide_eq_false hl0,rd,hce,hcut]
          have hold:∃os:List Value,(Builtin.firstCells (aq P e) len (.slice (So a0) len c)).run P w.drew=.ok os.toArray w.drew/\aH E old os:=by
           rcases hfo with hfo|rfl
           ·exact yj (P:=P) (w:=w.drew) h hfo (.slu r0 o len _ c a0 hle hh) rfl (Q4 _)
           ·have:=lW hcut;rw[J5]at this;have:=V3 this;subst this;exact⟨[],by simp[Builtin.firstCells,Ec],.nil⟩
          obtain⟨os,q1,q2⟩:=hold;have hol:os.length=len*aq P e:=by rw[<-q2.length];exact lW hcut
          obtain⟨newCap,zc,k1,k2,k3⟩:=anew (So a0) len c old os hroom hfit q1 q2 hol (nlen h0);have hcc:=aH.append q2 hnc';have hcl:=hcc.length;have hs':=Step.Ih h hnt hce hcut hal' (vs:=(os++nu')++zc.toList) e (by rw[hcl];simp) (by rw[hcl,List.take_append_of_le_length (Q4 _),List.take_of_length_le (Q4 _)];exact hcc);have e1:((os++nu')++zc.toList).toArray=(os++nu').toArray++zc:=by apply Array.ext';simp
          rw[e1]at hs';refine⟨_,_,_,k3,⟨hs',rfl,rfl⟩,.slu _ _ _ _ _ _ k1 ⟨_,Env.df,.inr (by simp),?_⟩,tyk λ_=>⟨_,Env.df,λ_=>rfl,_,(0,0),MS w _⟩⟩;simp[hol,nlen h0,k2];have:len*aq P e+n*aq P e+(newCap-(len+n))*aq P e=newCap*aq P e:=by rw[<-Q8,<-Q8];congr 1;omega
          omega
     |_=>cases ha
theorem GB(h:Rel E w.heap st){us:Value}(ha:append P st ts s x=So (v,st'))(hs:Conc E s us)(hx:Conc E x ux)(hn:st'.next<=E.top)(ty:TypeId):
  ∃E' w' cv,(Builtin.append_ ts.toArray ty #[us,ux]).run P w=.ok cv w'/\aR E E' w w' st st'/\Conc E' v cv:=by
 obtain⟨E',w',cv,h1,h2,h3,-⟩:=LH h ha hs hx hn ty;grind
theorem aaa(h:Rel E w.heap st)(ho:ED st e s=Tt):Cp E w.heap e s:=by
 unfold ED at ho;split at ho
 ·trivial
 ·simp only[Q5]at ho;exact⟨J4 ho.2,Kq h ho.1⟩
 ·cases ho
theorem Ue(h:Rel E w.heap st){us:Value}(ha:pH P st ts s (append P st ts s x)=So (v,st'))(hs:Conc E s us)(hx:Conc E x ux)(hn:st'.next<=E.top)(ty:TypeId):
  ∃E' w' cv,(Builtin.append_ ts.toArray ty #[us,ux]).run P w=.ok cv w'/\aR E E' w w' st st'/\Conc E' v cv:=by
 unfold pH at ha;cases hy:FI P ts with
 |none=>rw[hy]at ha;exact GB h ha hs hx hn ty
 |some e=>
  rw[hy]at ha;simp only at ha;cases hap:append P st ts s x with
  |none=>rw[hap]at ha;cases ha
  |some p=>
   have⟨v1,st1⟩:=p;rw[hap]at ha;unfold Gp at ha;split at ha
   ·rename_i r o n z c st2 heq;cases heq;cases hk:(ED st e s&&Nat.beq (r+1) st1.next)with
    |false=>rw[hk]at ha;cases ha;exact GB h hap hs hx hn ty
    |true=>
     rw[hk]at ha;cases ha;simp only[Q5]at hk;have hn1:st1.next+1<=E.top:=hn;have⟨E',w',cv,h1,h2,h3,h4⟩:=LH h hap hs hx (by omega) ty;have hte:∃t r',ts=t::r'/\dO P t=So e:=by
      unfold FI at hy;split at hy
      ·rename_i t r';split at hy
       ·rename_i e' he;unfold Su at hy;obtain⟨-,hy⟩:=dH hy;subst hy;exact⟨t,r',rfl,he⟩
       ·cases hy
      ·cases hy
     have⟨t,r',ht,he⟩:=hte;have hty:=h4 t r' e ht he (aaa h hk.1);have s2:=Step.Ej h2.rel (show nj E' w'.heap e r Tt from hty);exact⟨E',w',cv,h1,⟨h2.toStep.trans s2,h2.os,h2.out⟩,h3⟩
   ·rename_i hne;rw[<-hap]at ha;exact GB h ha hs hx hn ty
theorem bytes_beq(a c:ByteArray):(a==c)=decide (a=c):=by rw[beq_toListBytes,<-xw,wL,J1];simp;exact⟨λh=>by have:=IF h;cases a;simp_all,λh=>by rw[h]⟩
theorem HE{v:Value}{b:Bool}(h:iu x y=So b)(hx:Conc E x u)(hy:Conc E y v):
  (∃k a c,u=.int k a/\v=.int k c/\b=decide (a=c))\/(∃a c,u=.string a/\v=.string c/\b=decide (a=c)):=by
 unfold iu at h;split at h
 ·have⟨hk,h'⟩:=dH h;rw[Iq,decide_eq_true_eq]at hk;subst hk;cases hx;cases hy;grind[rh]
 ·cases hx;cases hy;cases h;rename_i a c;exact .inr ⟨a,c,rfl,rfl,by rw[xw,<-beq_toListBytes,bytes_beq]⟩
 grind
def AL(kd:TypeDesc)(u:Value):Prop:=(∃k k' n,kd=.int k/\u=.int k' n)\/(∃s,kd=.string/\u=.string s)
theorem find_spec{kd:TypeDesc}{k:AV}{ku:Value}(hk:Conc E k ku)(hkd:AL kd ku):∀{es:List (AV×AV×Nat)}{ms:List MapEntry}{i:Nat}{r:Option (Nat×AV)},find k es i=So r->fA E es ms->
  ∃r',Instr.findNow kd ku ms i=So r'/\(match r,r' with
   |none,No=>True
   |some (j,v),So (j',u)=>j=j'/\Conc E v u/\i<=j/\∃m,ms[j-i]? = So m/\m.val=u/\m.key=ku
   |_,_=>False)
 |[],[],i,r,h,_=>by simp[find]at h;subst h;exact⟨No,rfl,trivial⟩
 |(x,v,b)::es,m::ms,i,r,h,⟨⟨h1,h2,h3⟩,ht⟩=>by
  simp[find]at h;cases he:iu k x with
  |none=>grind
  |some q=>
   rw[he]at h;have key:Instr.sameNow kd ku m.key=So q/\(q=Tt->m.key=ku):=by
    rcases HE he hk h1 with ⟨kk,a,c,rfl,hm,rfl⟩|⟨a,c,rfl,hm,rfl⟩
    ·rw[hm];rcases hkd with ⟨k1,k2,n,rfl,hh⟩|⟨s,-,hh⟩
     ·refine⟨?_,λe=>?_⟩
      ·simp[Instr.sameNow];rfl
      ·rw[decide_eq_true_eq]at e;rw[e]
     ·cases hh
    ·rw[hm];rcases hkd with ⟨k1,k2,n,rfl,hh⟩|⟨s,rfl,hh⟩
     ·cases hh
     ·refine⟨by simp [Instr.sameNow]; rw[bytes_beq],λe=>?_⟩;rw[decide_eq_true_eq]at e;rw[e]
   cases q with
   |true=>cases h;exact⟨So (i,m.val),by simp[Instr.findNow,key.1],rfl,h2,Q4 _,m,by simp,rfl,key.2 rfl⟩
   |false=>
    have⟨r',g1,g2⟩:=find_spec hk hkd h ht;refine⟨r',by simp[Instr.findNow,key.1];exact g1,?_⟩;cases r with
    |none=>cases r' with
     |none=>trivial
     |some p=>exact g2
    |some p=>
     have⟨j,v'⟩:=p;cases r' with
     |none=>exact g2
     |some p'=>have⟨q1,q2,q3,m',q4,q5,q6⟩:=g2;refine⟨q1,q2,by omega,m',?_,q5,q6⟩;rw[show j-i=(j-(i+1))+1 by omega];simpa using q4
theorem qS{kt:TypeId}(hk:P.underlying kt=So kd)(hkd:(∃k,kd=.int k)\/kd=.string)(b:Bool)(u:Value):(Instr.checkKey b 10000 kt u).run P w=.ok () w:=by
 have key:∀n,(Instr.checkKey b (n+1) kt u).run P w=.ok () w:=by
  rcases hkd with ⟨k,rfl⟩|rfl
  ·simp[Instr.checkKey,bA hk]
  ·simp[Instr.checkKey,bA hk]
 grind
theorem D5(h:ko P t k=Tt)(hk:Conc E k u):∃kt e kd,P.underlying t=So (.map kt e)/\P.underlying kt=So kd/\((∃k,kd=.int k)\/kd=.string)/\AL kd u:=by
 unfold ko at h;split at h
 ·rename_i kt e hu;split at h
  ·rename_i kk k' n hkk;cases hk;exact⟨kt,e,_,hu,hkk,.inl ⟨_,rfl⟩,.inl ⟨_,_,_,rfl,rfl⟩⟩
  ·rename_i l hkk;cases hk;exact⟨kt,e,_,hu,hkk,.inr rfl,.inr ⟨_,rfl,rfl⟩⟩
  grind
 grind
theorem Rel.mp(h:Rel E w.heap st){r:Nat}{es:List (AV×AV×Nat)}{clock:Nat}(hr:st.get r=So (.mp es clock)):
  ∃B ents,E.phi r=So B/\w.heap[B.b]? = So (.map ents clock)/\fA E es ents.toList/\st.alive r=So (.mp es clock):=by
 have ha:st.alive r=So (.mp es clock):=by simp[St.alive,hr]
 have⟨B,hB,ents,h1,h2⟩:=h.rows r _ ha;grind
theorem nL{o:Obj}(h:w.heap[b]? = So o)(hc:∀c e f,o≠.cells c e f):(getObj b).run P w=.ok o w:=by unfold getObj;simp[Sem.run,h]
theorem xj{o o':Obj}(h:w.heap[b]? = So o)(hc:∀c e f,o≠.cells c e f):(setObj b o').run P w=.ok () {w with heap:=w.heap.setIfInBounds b o'}:=by unfold setObj;simp[Sem.run,h]
theorem HS{kd:TypeDesc}{k:AV}{ku:Value}(hk:Conc E k ku)(hkd:AL kd ku):∀{es:List (AV×AV)}{ms:List MapEntry}{r:Option AV},lE k es=So r->sI E es ms->
  (∀m∈ms,(Instr.sameNow kd ku m.key=So Tt/\∃v,r=So v/\Conc E v m.val)\/Instr.sameNow kd ku m.key=So Ff)/\(∀v,r=So v->∃m∈ms,Instr.sameNow kd ku m.key=So Tt)
 |[],[],r,h,_=>by cases h;grind
 |(x,v)::es,m::ms,r,h,⟨⟨h1,h2⟩,ht⟩=>by
  have key:∀{q:Bool},iu k x=So q->Instr.sameNow kd ku m.key=So q:=by
   intro q he;rcases HE he hk h1 with ⟨kk,a,c,rfl,hm,rfl⟩|⟨a,c,rfl,hm,rfl⟩
   ·rw[hm];rcases hkd with ⟨k1,k2,n,rfl,hh⟩|⟨s,-,hh⟩
    ·simp[Instr.sameNow];rfl
    ·cases hh
   ·rw[hm];rcases hkd with ⟨k1,k2,n,rfl,hh⟩|⟨s,rfl,hh⟩
    ·cases hh
    ·simp[Instr.sameNow];rw[bytes_beq]
  unfold lE at h;cases he:iu k x with
  |none=>rw[he]at h;cases h
  |some q=>
   rw[he]at h;have hq:=key he;cases q with
   |false=>
    have⟨g1,g2⟩:=HS hk hkd h ht;refine⟨λm' hm'=>?_,λv' hv'=>?_⟩
    ·rcases J8.1 hm' with rfl|hm'
     ·exact .inr hq
     ·exact g1 m' hm'
    ·have⟨m',a,b⟩:=g2 v' hv';exact⟨m',J9 _ a,b⟩
   |true=>
    cases hf:lE k es with
    |none=>rw[hf]at h;cases h
    |some r'=>
     rw[hf]at h;cases r' with
     |some _=>cases h
     |none=>
      cases h;have⟨g1,_⟩:=HS hk hkd hf ht;refine⟨λm' hm'=>?_,λv' hv'=>⟨m,Z0 ..,hq⟩⟩;rcases J8.1 hm' with rfl|hm'
      ·exact .inl ⟨hq,v,rfl,h2⟩
      ·rcases g1 m' hm' with ⟨_,v',hv',_⟩|hh
       ·cases hv'
       ·exact .inr hh
theorem HQ{kd:TypeDesc}{ku:Value}:∀{ms:List MapEntry}(i:Nat),(∀m∈ms,Instr.sameNow kd ku m.key=So Tt\/Instr.sameNow kd ku m.key=So Ff)->
  (Instr.findNow kd ku ms i=So No/\∀m∈ms,Instr.sameNow kd ku m.key=So Ff)\/∃j m,m∈ms/\Instr.findNow kd ku ms i=So (So (j,m.val))/\Instr.sameNow kd ku m.key=So Tt
 |[],i,_=>.inl ⟨rfl,λm hm=>by grind⟩
 |m::ms,i,h=>by
  rcases h m (Z0 ..)with h1|h1
  ·exact .inr ⟨i,m,Z0 ..,by simp[Instr.findNow,h1],h1⟩
  ·rcases HQ (i+1) λm' hm'=>h m' (J9 _ hm')with ⟨g1,g2⟩|⟨j,m',g1,g2,g3⟩
   ·refine .inl ⟨by simp [Instr.findNow,h1]; exact g1,λm' hm'=>?_⟩;rcases J8.1 hm' with rfl|hm'
    ·exact h1
    ·exact g2 m' hm'
   ·exact .inr ⟨j,m',J9 _ g1,by simp[Instr.findNow,h1];exact g2,g3⟩
theorem Rel.mu(h:Rel E w.heap st){r:Nat}{es:List (AV×AV)}(hr:st.get r=So (.mu es)):
  ∃B ents clock ms,E.phi r=So B/\w.heap[B.b]? = So (.map ents clock)/\sI E es ms/\ents.toList.Perm ms:=by
 have:st.alive r=So (.mu es):=by unfold St.alive;grind
 have⟨B,hB,ents,c,ms,h1,h2,h3⟩:=h.rows _ _ this;grind
theorem Pg(h:Rel E w.heap st){ok:Bool}(hl:lookup P t st x k ok=So v)(hx:Conc E x ux)(hk:Conc E k uk):
  ∃z,(Instr.lookup t ux uk ok).run P w=.ok z w/\Conc E v z:=by
 unfold lookup at hl;split at hl
 ·rename_i kt e hu;cases hz:zeroOf P e with
  |none=>grind
  |some zv=>
   rw[hz]at hl;have⟨hkf,hl⟩:=dm hl;obtain⟨z,rfl,hzr⟩:=KJ hz;have⟨kt',e',kd,hu',hkd,hkk,hdesc⟩:=D5 hkf hk;rw[hu]at hu';cases hu';have back:∀(v:AV) (u:Value) (b:Bool),Conc E v u->Conc E (bif ok then .tu [v,.b b] else v) (if ok then .tuple #[u,.bool b] else u):=by
    intro v u b hv;cases ok with
    |true=>exact .tu _ [u,.bool b] (.cons _ _ _ _ hv (.cons _ _ _ _ (.b b) .nil))
    |false=>grind
   cases hx with
   |m r B hB=>
    cases hg:st.get r with
    |none=>grind
    |some row=>
     cases row with
     |mp es clock=>
      simp[hg]at hl;obtain⟨B',ents,hB',h1,h2,-⟩:=h.mp hg;rw[hB]at hB';cases hB';cases hf:find k es 0 with
      |none=>grind
      |some rr=>
       have⟨r',g1,g2⟩:=find_spec hk hdesc hf h2;rw[hf]at hl;have hgo:=nL (P:=P) h1 (by grind);cases rr with
       |none=>
        cases r' with
        |some p=>exact g2.elim
        |none=>simp at hl;subst hl;refine⟨if ok then .tuple #[z,.bool Ff] else z,?_,back _ _ _ (vB z)⟩;simp[Instr.lookup,bA hu,hgo,qS hkd hkk,Instr.findKey,bA hkd,g1,hzr]
       |some p=>
        cases r' with
        |none=>exact g2.elim
        |some p'=>have⟨j',u⟩:=p';simp at hl;subst hl;refine⟨if ok then .tuple #[u,.bool Tt] else u,?_,back _ _ _ g2.2.1⟩;simp[Instr.lookup,bA hu,hgo,qS hkd hkk,Instr.findKey,bA hkd,g1]
     |mu es=>
      simp[hg]at hl;have⟨B',ents,clock,ms,hB',h1,h2,h3⟩:=h.mu hg;rw[hB]at hB';cases hB';have hgo:=nL (P:=P) h1 (by intros;exact Obj.noConfusion);cases hf:lE k es with
      |none=>rw[hf]at hl;cases hl
      |some rr=>
       rw[hf]at hl;have⟨g1,g2⟩:=HS hk hdesc hf h2;have g1':∀m∈ents.toList,_:=λm hm=>g1 m (h3.mem_iff.1 hm)
       rcases HQ 0 (λm hm=>(g1' m hm).imp (·.1) id)with ⟨q1,q2⟩|⟨j,m,q0,q1,q2⟩
       ·cases rr with
        |none=>simp at hl;subst hl;refine⟨if ok then .tuple #[z,.bool Ff] else z,?_,back _ _ _ (vB z)⟩;simp[Instr.lookup,bA hu,hgo,qS hkd hkk,Instr.findKey,bA hkd,q1,hzr]
        |some vv=>have⟨m,hm,hs⟩:=g2 vv rfl;have:=q2 m (h3.mem_iff.2 hm);rw[this]at hs;cases hs
       ·rcases g1' m q0 with ⟨_,vv,rfl,hc⟩|hh
        ·simp at hl;subst hl;refine⟨if ok then .tuple #[m.val,.bool Tt] else m.val,?_,back _ _ _ hc⟩;simp[Instr.lookup,bA hu,hgo,qS hkd hkk,Instr.findKey,bA hkd,q1]
        ·rw[q2]at hh;cases hh
     |_=>simp only[hg]at hl;cases hl
   |mn=>simp at hl;subst hl;refine⟨if ok then .tuple #[z,.bool Ff] else z,?_,back _ _ _ (vB z)⟩;have g1:Instr.findNow kd uk ([]:List MapEntry) 0=So none:=rfl;simp[Instr.lookup,bA hu,qS hkd hkk,Instr.findKey,bA hkd,g1,hzr]
   |_=>cases hl
 grind
theorem fA.mo{v:AV}{u:Value}(hv:Conc E v u):∀{es:List (AV×AV×Nat)}{ms:List MapEntry} (i:Nat),fA E es ms->fA E (mo es i v) (ms.modify i λe=>{e with val:=u})
 |[],[],i,_=>by cases i<;>exact trivial
 |(k,x,b)::es,m::ms,0,⟨⟨h1,h2,h3⟩,ht⟩=>⟨⟨h1,hv,h3⟩,ht⟩
 |e::es,m::ms,i+1,⟨h1,ht⟩=>⟨h1,fA.mo hv i ht⟩
theorem fA.snoc{k v:AV}{ku vu:Value}{c:Nat}(hk:Conc E k ku)(hv:Conc E v vu):∀{es:List (AV×AV×Nat)}{ms:List MapEntry},fA E es ms->fA E (es++[(k,v,c)]) (ms++[{key:=ku,val:=vu,born:=c}])
 |[],[],_=>⟨⟨hk,hv,rfl⟩,trivial⟩
 |_::_,_::_,⟨h1,ht⟩=>⟨h1,fA.snoc hk hv ht⟩
theorem sameBits_self(h:AL kd u)(n:Nat):Instr.sameBits n u u=true:=by
 rcases h with ⟨k,k',m,-,rfl⟩|⟨s,-,rfl⟩
 ·cases n<;>simp[Instr.sameBits]
 ·cases n<;>(simp[Instr.sameBits];rw[bytes_beq];simp)
theorem Pk(h:Rel E w.heap st)(hl:mapUpdate P t st x k v=So st')(hx:Conc E x ux)(hk:Conc E k uk)(hv:Conc E v uv):
  ∃w',(Instr.mapUpdate t ux uk uv).run P w=.ok () w'/\aR E E w w' st st':=by
 have⟨hkf,hl⟩:=dm hl;have⟨kt,e,kd,hu,hkd,hkk,hdesc⟩:=D5 hkf hk;cases hx with
 |m r B hB=>
  cases hg:st.get r with
  |none=>grind
  |some row=>
   cases row with
   |mp es clock=>
    simp[hg]at hl;have⟨B',ents,hB',h1,h2,halive⟩:=h.mp hg;rw[hB]at hB';cases hB';cases hf:find k es 0 with
    |none=>grind
    |some rr=>
     have⟨r',g1,g2⟩:=find_spec hk hdesc hf h2;rw[hf]at hl;have hgo:=nL (P:=P) h1 (by grind);cases rr with
     |none=>
      cases r' with
      |some p=>grind
      |none=>
       cases hl;refine⟨{w with heap:=w.heap.setIfInBounds B.b (.map (ents.push {key:=uk,val:=uv,born:=clock}) (clock+1))},?_,?_⟩
       ·simp_all[Instr.mapUpdate,bA,qS,Instr.findKey,xj]
       ·exact aR.of <| Step.putRow h halive hB (by grind) (by grind) _ (λH' hH'=>⟨_,hH',by simpa using h2.snoc hk hv⟩)
     |some p=>
      have⟨j,vv⟩:=p;cases r' with
      |none=>grind
      |some p'=>
       have⟨j',u⟩:=p';obtain⟨rfl,hcv,-,m,hm,rfl,hmk⟩:=g2;cases hl;have hm':ents[j]? = So m:=by grind
       refine⟨{w with heap:=w.heap.setIfInBounds B.b (.map (ents.modify j λe=>{e with key:=uk,val:=uv}) clock)},?_,?_⟩
       ·simp[Instr.mapUpdate,bA hu,hgo,qS hkd hkk,Instr.findKey,bA hkd,g1,hm',hmk,Instr.keyThatStays,sameBits_self hdesc];grind[xj]
       ·refine aR.of <| Step.putRow h halive hB (by grind) (by grind) _ (λH' hH'=>⟨_,hH',?_⟩)
        have e1:(ents.modify j λe=>{e with key:=uk,val:=uv}).toList=ents.toList.modify j λe=>{e with val:=uv}:=by apply Z3;grind
        rw[e1];exact h2.mo hv j
   |_=>grind
 |_=>grind
theorem Me:∀{es:List (AV×AV×Nat)}{ms:List MapEntry}(i:Nat) (m:MapEntry),fA E es ms->ms[i]? = So m->CP es i=m.born
 |[],[],i,m,_,h=>by grind
 |(k,x,b)::es,m'::ms,0,m,⟨⟨_,_,h3⟩,_⟩,h=>by simp at h;subst h;exact h3.symm
 |e::es,m'::ms,i+1,m,⟨_,ht⟩,h=>Me i m ht (by grind)
theorem Ns{b:Nat}:∀{es:List (AV×AV×Nat)}{ms:List MapEntry} (n:Nat),fA E es ms->An b es n=(ms.findIdx? λe=>(e.born:Int)==(b:Int)).map (· + n)
 |[],[],n,_=>rfl
 |(k,x,c)::es,m::ms,n,⟨⟨_,_,h3⟩,ht⟩=>by
  have e:An b ((k,x,c)::es) n=@Bool.rec (λ_=>Option Nat) (An b es (n+1)) (So n) (Nat.beq c b):=rfl;rw[e,Ns (n+1) ht,List.findIdx?_cons];have h3':m.born=c:=h3;rw[h3',bh];by_cases hc:c=b
  ·simp_all
  ·have:((c:Int)==(b:Int))=false:=by grind
   rw[decide_eq_false hc,this];simp;congr 1;grind
theorem Zs(h:Rel E w.heap st)(hl:mapEntry P t st x k=So (v,st'))(hx:Conc E x ux)(hk:Conc E k uk):
  ∃w' z,(Instr.mapEntry t ux uk).run P w=.ok z w'/\aR E E w w' st st'/\Conc E v z:=by
 have⟨hkf,hl⟩:=dm hl;have⟨kt,e',kd,hu,hkd,hkk,hdesc⟩:=D5 hkf hk;split at hl
 case h_2=>grind
 cases hx with
 |m r B hB=>
  unfold Hx at hl;split at hl
  case h_2=>grind
  rename_i es clock hg;have⟨B',ents,hB',h1,h2,halive⟩:=h.mp hg;rw[hB]at hB';cases hB';have hgo:=nL (P:=P) h1 (by grind);cases hf:find k es 0 with
  |none=>grind
  |some rr=>
   have⟨r',g1,g2⟩:=find_spec hk hdesc hf h2;rw[hf]at hl;cases rr with
   |none=>
    cases r' with
    |some p=>grind
    |none=>
     simp only at hl;unfold Hy at hl;split at hl
     case h_2=>grind
     rename_i zv hz;obtain⟨z,rfl,hzr⟩:=KJ hz;cases hl;refine⟨{w with heap:=w.heap.setIfInBounds B.b (.map (ents.push {key:=uk,val:=z,born:=clock}) (clock+1))},.tuple #[z,goInt clock],?_,?_,?_⟩
     ·simp_all[Instr.mapEntry,bA,qS,Instr.findKey,xj]
     ·exact aR.of <| Step.putRow h halive hB (by grind) (by grind) _ (λH' hH'=>⟨_,hH',by simpa using h2.snoc hk (vB z)⟩)
     ·exact .tu _ [z,.int .i64 (Int.ofNat clock)] (.cons _ _ _ _ (vB z) (.cons _ _ _ _ (.i _ _) .nil))
   |some p=>
    have⟨j,vv⟩:=p;cases r' with
    |none=>grind
    |some p'=>
     have⟨j',u⟩:=p';obtain⟨rfl,hcv,-,m,hm,rfl,hmk⟩:=g2;cases hl;have hm':ents[j]? = So m:=by grind
     have hb:CP es j=m.born:=Me j m h2 hm;refine⟨{w with heap:=w.heap.setIfInBounds B.b (.map (ents.modify j λe=>{e with key:=uk}) clock)},.tuple #[m.val,goInt m.born],?_,?_,?_⟩
     ·simp[Instr.mapEntry,bA hu,hgo,qS hkd hkk,Instr.findKey,bA hkd,g1,hm',hmk,Instr.keyThatStays,sameBits_self hdesc];simp_all[xj]
     ·refine aR.of <| Step.putRow h halive hB (by grind) (by grind) _ (λH' hH'=>⟨_,hH',?_⟩)
      have e1:(ents.modify j λe=>{e with key:=uk}).toList=ents.toList:=by
       apply Z3;intro q;by_cases hq:j=q
       ·cases m;grind
       grind
      grind
     ·rw[hb];exact .tu _ [m.val,.int .i64 (Int.ofNat m.born)] (.cons _ _ _ _ hcv (.cons _ _ _ _ (.i _ _) .nil))
theorem Wn(h:Rel E w.heap st){us:Value}(hl:entryStore st v x (gO s)=So st')(hx:Conc E x ux)(hs:Conc E s us)(hv:Conc E v uv):
  ∃w',(Instr.entryStore t ux us uv).run P w=.ok () w'/\aR E E w w' st st':=by
 cases hn:gO s with
 |none=>rw[hn]at hl;cases x<;>cases hl
 |some b=>
  obtain⟨kk,rfl⟩:=IE hn;cases hs;rw[hn]at hl;cases hx with
  |m r B hB=>
   simp[entryStore]at hl;split at hl
   case h_2=>grind
   rename_i es clock hg;have⟨B',ents,hB',h1,h2,halive⟩:=h.mp hg;have hgo:=nL (P:=P) h1 (by grind);rw[Ns 0 h2]at hl;cases hf:ents.toList.findIdx? (λe=>(e.born:Int)==(b:Int))with
   |none=>rw[hf]at hl;cases hl
   |some i=>
    rw[hf]at hl;cases hl;have hf':ents.findIdx? (λe=>(e.born:Int)==Int.ofNat b)=So i:=by
     have e:ents.findIdx? (λe=>(e.born:Int)==Int.ofNat b)=ents.toList.findIdx? (λe=>(e.born:Int)==Int.ofNat b):=by
      conv=>lhs;rw[show ents=ents.toList.toArray from rfl]
      grind
     grind
    refine⟨{w with heap:=w.heap.setIfInBounds B.b (.map (ents.modify i λe=>{e with val:=uv}) clock)},?_,?_⟩
    ·simp_all[Instr.entryStore,asInt,asIntOf,xj]
    ·refine aR.of <| Step.putRow h halive hB (by grind) (by grind) _ (λH' hH'=>⟨_,hH',?_⟩)
     rw[Array.toList_modify];exact h2.mo hv i
  |_=>simp only[entryStore]at hl;grind
def om(E:Env)(w:World)(st st':St)(v:AV)(r:Result Next):Prop :=
 ∃E' w' cv,(r=.ok (.value cv) w'\/(r=.ok .skip w'/\cv=undef))/\aR E E' w w' st st'/\Conc E' v cv
theorem oI{s:Sem Value}{z:Value}(h:Rel E w.heap st)(hr:s.run P w=.ok z w)(hc:Conc E v z):om E w st st v ((do pure (.value (<-s)):Sem Next).run P w):=
 ⟨E,w,z,.inl (by simp_all),.refl h,hc⟩
theorem oH{s:Sem Value}{z:Value}(hr:s.run P w=.ok z w')(hs:aR E E' w w' st st')(hc:Conc E' v z):om E w st st' v ((do pure (.value (<-s)):Sem Next).run P w):=
 ⟨E',w',z,.inl (by simp_all),hs,hc⟩
theorem DI{s:Sem Unit}(hr:s.run P w=.ok () w')(hs:aR E E w w' st st'):om E w st st' .un ((do s;pure .skip:Sem Next).run P w):=
 ⟨E,w',undef,.inr ⟨by simp_all,rfl⟩,hs,.un⟩
theorem ke{o:Option AV}(h:cX st o=So (v,st')):o=So v/\st'=st:=by
 cases o with
 |none=>cases h
 |some x=>cases h;grind
theorem Dd{o:Option St}(h:done o=So (v,st')):o=So st'/\v=.un:=by
 cases o with
 |none=>cases h
 |some x=>cases h;grind
theorem LL{b:Bool}(h:x.gH=So b)(hx:Conc E x u):(asBool u).run P w=.ok b w:=by have:=AV.xZ h;subst this;cases hx;rfl
theorem LA(h:Rel E w.heap st){l:Option (List AV)}(ha:lh st l=So (v,st'))(hn:st'.next<=E.top)(t:TypeId)(hc:∀l',l=So l'->aH E l' us.toList):
  ∃E' w' z,(newRow t us).run P w=.ok z w'/\aR E E' w w' st st'/\Conc E' v (.pointer (So z)):=by
 cases l with
 |none=>cases ha
 |some l=>cases ha;obtain⟨E',w',h1,h2,h3⟩:=Gs h (show st.next+1<=E.top from hn) t (hc l rfl);refine⟨E',w',_,h1,h2,?_⟩;have:=Conc.p st.next 0 _ h3;grind
theorem Nm{t:Tr AV}(hρ:∀x,Conc E (ah t x) (ρ x)){parts:List (Nat×Operand)}{z:Option (List AV)}
  (h:jc st place (eB t parts) z=So (v,st')) (hz:∀l,z=So l->aH E l us.toList):
  st'=st/\∃us':Array Value,Instr.fill place us (parts.map λ(i,x)=>(i,ρ x))=So us'/\Conc E v (.agg us'):=by
 cases z with
 |none=>cases h
 |some l=>
  simp[jc]at h;cases hf:fill place l (eB t parts)with
  |none=>rw[hf]at h;cases h
  |some l'=>rw[hf]at h;cases h;have⟨us',h1,h2⟩:=Dw hρ parts l l' us hf (hz l rfl);exact⟨rfl,us',h1,by simpa using Conc.ag l' us'.toList h2⟩
theorem Rn:∀(l:List Field),(∀f∈l,aN P f.type=Tt)->(l.mapM λf=>(do pure (f.offset,<- sizeOf f.type):Sem (Nat×Nat))).run P w=.ok (l.map λf=>(f.offset,aq P f.type)) w
 |[],_=>by simp
 |f::l,h=>by simp only[List.mapM_cons,Q0,fR (h f (by simp)),Q1,Q3,Rn l (λg hg=>h g (by simp[hg])),List.map_cons]
theorem Mh{t:Tr AV}(hρ:∀x,Conc E (ah t x) (ρ x))(hb:P5 ty parts P S t st=So (v,st')):
  st'=st/\∃z,(Instr.build ty (parts.map λ(i,x)=>(i,ρ x))).run P w=.ok z w/\Conc E v z:=by
 have⟨hwf,hb⟩:=dm hb;unfold cI at hb;split at hb
 ·rename_i fs hu;have hfs:∀f∈fs.toList,aN P f.type=true:=by
   grind[eC]
  cases hz:bt P ty with
  |none=>rw[hz]at hb;cases hb
  |some l=>
   have⟨z,g1,g2,g3,g4⟩:=pg (E:=E) hz;obtain⟨rfl,us',k1,k2⟩:=Nm hρ hb (us:=z.cells) (λl' e=>by grind);have hp:=Rn (w:=w) fs.toList hfs;have hm:(fs.mapM λf=>(do pure (f.offset,<-sizeOf f.type):Sem (Nat×Nat))).run P w=.ok (fs.map λf=>(f.offset,aq P f.type)) w:=by rw[Array.mapM_eq_mapM_toList,Sem.run_map,hp];rw[<-Array.toList_map];simp only[Q1,Array.toArray_toList]
   have hpl:(λi=>(fs.map λf=>(f.offset,aq P f.type))[i]?)=gP P fs:=by grind[gP]
   simp_all[Instr.build,bA]
 ·rename_i n e hu;have hel:aN P e=true:=by simpa only[eC,hu]using hwf
  cases hz:bt P ty with
  |none=>rw[hz]at hb;cases hb
  |some l=>
   have⟨z,g1,g2,g3,g4⟩:=pg (E:=E) hz;obtain⟨rfl,us',k1,k2⟩:=Nm hρ hb (us:=z.cells) (λl' e=>by grind);simp[Instr.build,g1,bA hu,fR hel];have k1':Instr.fill (λi=>So (i*aq P e,aq P e)) z.cells (parts.map λ(i,x)=>(i,ρ x)).toList=So us':=by have:(λi=>So (i*aq P e,aq P e))=nV (aq P e):=rfl;simp_all
   simp_all
 grind
theorem JD{α:Type}(l:List α):∀(n j:Nat),j<n*l.length->(rep n l)[j]? = l[j % l.length]?
 |0,j,h=>by grind
 |n+1,j,h=>by
  unfold rep;rw[List.getElem?_append];split
  ·rename_i hj;rw[Nat.mod_eq_of_lt hj]
  ·have h':j<n*l.length+l.length:=by grind
   have hm:j % l.length=(j-l.length) % l.length:=Nat.mod_eq_sub_mod (by omega);rw[JD l n (j-l.length) (by omega),hm]
theorem QM(z:Array Value)(n m:Nat)(h:z.size=m):((Array.range (n*m)).map (z[· % z.size]!)).toList=rep n z.toList:=by
 apply Z3;intro j;by_cases hj:j<n*z.size
 ·rw[JD z.toList n j (by grind)];grind[Nat.mod_lt]
 grind[yS]
theorem QZ{α:Type}:∀n:Nat,rep n ([]:List α)=[]
 |0=>rfl
 |n+1=>by simp[rep,QZ n]
theorem Td{e:TypeId}{z:List AV}(hz:bt P e=So z)(n:Nat):∃(zero:Array Value),(∀(K:Array Value->Sem Value) w,
   (if n*aq P e=0 then(do let zero <-pure #[];K zero) else(do let v <-zeroValue e;let zero <-pure v.cells;K zero):Sem Value).run P w=(K zero).run P w)/\
  aH E (rep n z) ((Array.range (n*aq P e)).map (zero[· % zero.size]!)).toList:=by
 have⟨v,g1,g2,g3,g4⟩:=pg (E:=E) hz;have hsz:v.cells.size=aq P e:=by have:=g2.length;grind
 by_cases h0:n*aq P e=0
 ·refine⟨#[],λK w=>by grind,?_⟩;rw[h0];have:rep n z=[]:=by
   rcases Nat.mul_eq_zero.1 h0 with hh|hh
   ·subst hh;rfl
   grind[QZ]
  rw[this];simpa using aH.nil
 ·refine⟨v.cells,λK w=>by simp_all,?_⟩;grind[QM,BC]
theorem ZJ(h:Rel E w.heap st)(hs:yC st len z (So l)=So (v,st'))(hn:st'.next<=E.top)(t:TypeId)(hc:aH E l us.toList):
  ∃E' w' a,(newRow t us).run P w=.ok a w'/\aR E E' w w' st st'/\Conc E' v (.slice (So a) len len):=by
 cases hs;obtain⟨E',w',h1,h2,h3⟩:=Gs h (show st.next+1<=E.top from hn) t hc;exact⟨E',w',_,h1,h2,.slk st.next 0 len z len _ (Q4 _) (.inr ⟨_,h3,by simp⟩)⟩
theorem UZ(h:Rel E w.heap st){t:Tr AV}(hρ:∀x,Conc E (ah t x) (ρ x))
  (hb:oT ty len parts P S t st=So (v,st')) (hn:st'.next<=E.top):
  ∃E' w' z,(Instr.buildSlice ty len (parts.map λ(i,x)=>(i,ρ x))).run P w=.ok z w'/\aR E E' w w' st st'/\Conc E' v z:=by
 unfold oT at hb;split at hb
 ·grind
 ·rename_i e he;have hu:=nH he;cases hz:bt P e with
  |none=>grind
  |some z=>
   rw[hz]at hb;obtain⟨hle,hb⟩:=dm hb;obtain⟨zero,g1,g2⟩:=Td hz len;have hi:aN P e=true:=by obtain⟨_,_,_,g3,_⟩:=pg (E:=E) hz;grind
   cases hf:fill (nV (aq P e)) (rep len z) (eB t parts.toList)with
   |none=>rw[hf]at hb;cases hb
   |some l'=>
    rw[hf]at hb;obtain⟨us',h1,h2⟩:=Dw hρ parts.toList _ l' _ hf g2;obtain⟨E',w',a,k1,k2,k3⟩:=ZJ (P:=P) h hb hn e h2;refine⟨E',w',_,?_,k2,k3⟩;have hle':¬len*aq P e > 2 ^ 24:=by simp_all
    have h1':Instr.fill (λi=>So (i*aq P e,aq P e)) ((Array.range (len*aq P e)).map (zero[· % zero.size]!)) (parts.map λ(i,x)=>(i,ρ x)).toList=So us':=by have:(λi=>So (i*aq P e,aq P e))=nV (aq P e):=rfl;simp_all
    simp only[Instr.buildSlice,Q0,bA hu,Q1,fR hi,if_neg hle'];refine(g1 (λzero=>_) w).trans ?_;simp_all
theorem aep{e:TypeId}(hz:bt P e=So l):∃i z,P.info? e=So i/\i.zero=So z/\aH E l z.cells.toList/\i.size=l.length/\aN P e=true:=by
 have⟨z,g1,g2,g3,g4⟩:=pg (E:=E) hz;have⟨i,d,hi,hd⟩:=wJ g3;have hs:aq P e=i.size:=by simp[aq,hi]
 refine⟨i,z,hi,?_,g2,by omega,g3⟩;have:=g1 default;simp only[zeroValue,Q0,vI hi,Q1]at this;cases hzz:i.zero with
 |none=>rw[hzz]at this;cases this
 |some v=>rw[hzz]at this;cases this;rfl
theorem Zm{z:List AV}{v:Array Value}(h:aH E z v.toList)(n:Nat):aH E (rep n z) (madeCells v (n*z.length)).toList:=by have hl:=h.length;simp at hl;unfold madeCells;rw[QM v n _ hl.symm];exact BC h n
theorem Zp(h:Rel E w.heap st){t:Tr AV}(hρ:∀x,Conc E (ah t x) (ρ x)){lx cx:Operand}
  (hb:rH ty lx cx P S t st=So (v,st')) (hn:st'.next<=E.top):
  ∃E' w' z,(Instr.makeSlice ty (ρ lx) (ρ cx)).run P w=.ok z w'/\aR E E' w w' st st'/\Conc E' v z:=by
 unfold rH at hb;split at hb
 ·rename_i e l c he hl hc;have hu:=nH he;cases hz:bt P e with
  |none=>rw[hz]at hb;cases hb
  |some z=>
   rw[hz]at hb;have⟨hle,hb⟩:=dm hb;simp only[Q5,V4]at hle;have⟨hlc,hc1,hsz⟩:=hle;cases hb;have⟨i,zv,hi1,hi2,g2,hs,hi⟩:=aep (E:=E) hz;have⟨k,hk⟩:=tx hl (hρ lx);have⟨k',hk'⟩:=tx hc (hρ cx);have⟨E',w',h1,h2,h3⟩:=Gs (P:=P) h (show st.next+1<=E.top from hn) e (Zm g2 c);refine⟨E',w',.slice (So ⟨w.heap.size,0,No⟩) l c,?_,h2,.slk st.next 0 l _ c _ hlc (.inr ⟨_,h3,by simp⟩)⟩;have hbc:(i.bytes:Int)*(c:Int)<=281474976710656:=by
    have hb:jZ P e=i.bytes:=by simp[jZ,hi1]
    rw[hb]at hsz;have h1:i.bytes*c<=281474976710656:=by rw[Nat.mul_comm];omega
    have h2:((i.bytes*c:Nat):Int)<=281474976710656:=by omega
    rwa [Int.natCast_mul]at h2
   rw[hk,hk'];have:=run_make (P:=P) w ty e i zv hu hi1 hi2 k k' (Int.ofNat l) (Int.ofNat c) (Int.natCast_nonneg l) (Int.ofNat_le.2 hlc) hbc (by simp only[Int.ofNat_eq_natCast];omega);rw[this,hs];simp only[newRow,Q0,run_newObj,Q1,Q3]at h1;cases h1;rfl
 ·cases hb
theorem Rel.row(h:Rel E w.heap st){r:Nat}{row:Row}(hr:st.get r=So row)(hce:∀l g,row≠.ce l g)(hty:∀t r0 x,row≠.ty t r0 x:=by(intro _ _ _ h;cases h)):∃B,E.phi r=So B/\gE E w.heap B row/\st.alive r=So row:=by
 have ha:st.alive r=So row:=by unfold St.alive;grind
 have⟨B,hB,hR⟩:=h.rows r row ha;grind
theorem IG(h:Rel E w.heap st)(hn:st.next+1<=E.top)(o:Obj)(row:Row)(hce:∀l g,row≠.ce l g)
  (hrow:∀F,E.le F->gE F (w.heap.push o) ⟨w.heap.size,0,0⟩ row):
  aR E (E.bind st.next ⟨w.heap.size,0,0⟩) w {w with heap:=w.heap.push o} st (st.new row):=.of (Step.newRow h hn o row hce hrow)
theorem aby(h:Rel E w.heap st)(hr:rP P ty st x=So (v,st'))(hx:Conc E x u)(hn:st'.next<=E.top):
  ∃E' w' z,(Instr.range ty u).run P w=.ok z w'/\aR E E' w w' st st'/\Conc E' v z:=by
 unfold rP at hr;split at hr
 ·rename_i k e r hu;split at hr
  ·rename_i es clock hg;cases hr;cases hx;rename_i B hB;have hn':st.next+1<=E.top:=hn;have⟨B',ents,hB',hw,hc,_⟩:=Rel.mp h hg;refine⟨_,{w with heap:=w.heap.push (.mapIter (So B.b) clock #[] clock)},.pointer (So ⟨w.heap.size,0,No⟩),?_,IG h hn' _ (.mi (So r) clock [] clock) (λ_ _ e=>by grind) ?_,?_⟩
   ·simp_all[Instr.range,bA,nL]
   ·intro F hF;exact⟨rfl,So B.b,by simp,B,hF.phi _ _ hB,rfl⟩
   ·have:=Conc.p (E:=E.bind st.next ⟨w.heap.size,0,0⟩) st.next 0 _ Env.df;grind
  grind
 grind
theorem HP{seen:List Nat}:∀{es:List (AV×AV×Nat)}{ms:List MapEntry},fA E es ms->fA E (left seen es) (ms.filter λe=>!seen.contains e.born)
 |[],[],_=>trivial
 |e::es,m::ms,⟨h,t⟩=>by
  have hm:mem e.2.2 seen=seen.contains m.born:=by rw[h.2.2,J1,mem_iff];simp
  have ih:=HP (seen:=seen) t;unfold left at ih|-;simp only[List.filter_cons,hm];split
  ·exact⟨h,ih⟩
  grind
theorem Lz{last:Nat}:∀{es:List (AV×AV×Nat)}{ms:List MapEntry},fA E es ms->(es.all λe=>Nat.ble last e.2.2)=ms.all λe=>decide (e.born ≥ last)
 |[],[],_=>rfl
 |e::es,m::ms,⟨h,t⟩=>by simp[Lz t,h.2.2];grind[V4]
theorem empty_eq:∀{es:List (AV×AV×Nat)}{ms:List MapEntry},fA E es ms->es.isEmpty=ms.isEmpty
 |[],[],_=>rfl
 |_::_,_::_,_=>rfl
theorem afe{q:Question}(h:q.forced=Tt):(choose q).run P w=.ok 0 w:=by simp_all
theorem ZK(h:Rel E w.heap st){isS:Bool}(hr:wQ st isS x=So (v,st'))(hx:Conc E x u)(ty:TypeId):
  ∃w' z,(Instr.next u isS ty).run P w=.ok z w'/\aR E E w w' st st'/\Conc E v z:=by
 unfold wQ at hr;split at hr
 ·cases hx;rename_i B hB;split at hr
  ·rename_i m since seen last hg;split at hr
   ·rename_i es clock hgm;have⟨B',hB',hR,ha⟩:=Rel.row h hg (λ_ _ e=>by grind);rw[hB]at hB';cases hB';obtain⟨hd,mm,hw,Bm,hBm,rfl⟩:=hR;have⟨Bm',ents,hBm',hwm,hc,_⟩:=Rel.mp h hgm;rw[hBm]at hBm';cases hBm';have he:(Instr.next (.pointer (So ⟨B.b,0+B.d,No⟩)) Ff ty).run P w=(Instr.next (.pointer (So ⟨B.b,0,No⟩)) Ff ty).run P w:=by grind
    rw[he];unfold IH at hr;have hguard:(!seen.toArray.isEmpty&&!ents.isEmpty&&ents.all λe=>decide (e.born ≥ last))=(!seen.isEmpty&&!es.isEmpty&&es.all λe=>Nat.ble last e.2.2):=by rw[Lz hc,empty_eq hc];simp
    cases hgd:(!seen.isEmpty&&!es.isEmpty&&es.all λe=>Nat.ble last e.2.2)with
    |true=>simp_all
    |false=>
     rw[hgd]at hr hguard;have hfl:=HP (seen:=seen) hc;have hfa:(ents.filter λe=>!seen.toArray.contains e.born).toList=ents.toList.filter λe=>!seen.contains e.born:=by simp
     split at hr
     ·cases hr;have hz:ents.toList.filter (λe=>!seen.contains e.born)=[]:=by
       grind[fA]
      have hze:(ents.filter λe=>!seen.toArray.contains e.born) = #[]:=V6.1 (by grind);refine⟨w,_,?_,.refl h,.tu _ [.bool Ff] (.cons _ _ _ _ (.b Ff) .nil)⟩;unfold Instr.next;simp only[Q0,nL hw (λ_ _ _ e=>by grind),nL hwm (λ_ _ _ e=>by grind),Q1,hguard,V7,if_false,hze];rw[show((if ((#[]:Array MapEntry).filter λx=>decide (x.born<since)).isEmpty=Tt then #[No] else #[])++((#[]:Array MapEntry).filter (λx=>decide (x.born<since))++(#[]:Array MapEntry).filter (λx=>decide (x.born ≥ since))).map So) = #[(No:Option MapEntry)] by simp];rfl
     ·rename_i k v0 b hl;have⟨hb,hr⟩:=dm hr;cases hr;rw[hl]at hfl;obtain⟨me,hz,hk,hv,hbo⟩:∃me,ents.toList.filter (λe=>!seen.contains e.born)=[me]/\Conc E k me.key/\Conc E v0 me.val/\me.born=b:=by
       cases hf:ents.toList.filter (λe=>!seen.contains e.born)with
       |nil=>grind[fA]
       |cons a t=>
        rw[hf]at hfl;cases t with
        |nil=>exact⟨a,rfl,hfl.1.1,hfl.1.2.1,hfl.1.2.2⟩
        |cons _ _=>exact absurd hfl.2 (by simp[fA])
      have hze:(ents.filter λe=>!seen.toArray.contains e.born) = #[me]:=V6.1 (by grind);have hlt:me.born<since:=by simp_all
      refine⟨{w with heap:=w.heap.setIfInBounds B.b (.mapIter (So Bm.b) since (seen.toArray.push me.born) clock)},.tuple #[.bool Tt,me.key,me.val],?_,?_,?_⟩
      ·unfold Instr.next;simp only[Q0,nL hw (λ_ _ _ e=>by cases e),nL hwm (λ_ _ _ e=>by cases e),Q1,hguard,V7,if_false,hze];rw[show((if ((#[me]:Array MapEntry).filter λx=>decide (x.born<since)).isEmpty=Tt then #[No] else #[])++((#[me]:Array MapEntry).filter (λx=>decide (x.born<since))++(#[me]:Array MapEntry).filter (λx=>decide (x.born ≥ since))).map So) = #[So me] by
        have:¬since<=me.born:=by omega
        simp[hlt,this]]
       show(Sem.run P (setObj B.b _ >>= λ_=>_) w)=_
       rw[Q0,xj hw (λ_ _ _ e=>by cases e)];rfl
      ·exact aR.of <| Step.putRow h ha hB (λ_ _ e=>by cases e) (λ_ _ e=>by cases e) _ (λH' hH=>⟨hd,So Bm.b,by rw[hH];simp[hbo],Bm,hBm,rfl⟩)
      ·exact .tu _ [.bool Tt,me.key,me.val] (.cons _ _ _ _ (.b Tt) (.cons _ _ _ _ hk (.cons _ _ _ _ hv .nil)))
     grind
   grind
  grind
 grind
theorem OL:∀l:List Nat,AO l=l.getLast?
 |[]=>rfl
 |[_]=>rfl
 |_::y::l=>by exact OL (y::l)
theorem Nr{b:Nat}{v:AV}{st':St}:∀{es:List (AV×AV×Nat)}{ms:List MapEntry},fA E es ms->vd b st es=So (v,st')->st'=st/\∃m,ms.find? (λe=>e.born==b)=So m/\Conc E v (.tuple #[m.key,m.val])
 |[],_,_,h=>by cases h
 |(k,x,n)::es,[],hc,_=>hc.elim
 |(k,x,n)::es,m::ms,⟨hm,ht⟩,h=>by
  have hborn:m.born=n:=hm.2.2;unfold vd at h;cases hb:Nat.beq n b with
  |true=>
   rw[hb]at h;cases h;have:(m.born==b)=true:=by simp_all
   exact⟨rfl,m,by grind,.tu _ [m.key,m.val] (.cons _ _ _ _ hm.1 (.cons _ _ _ _ hm.2.1 .nil))⟩
  |false=>
   rw[hb]at h;have:(m.born==b)=false:=by rw[hborn,beq_eq_false_iff_ne];rintro rfl;simp_all
   have⟨h1,m',h2,h3⟩:=Nr ht h;grind
theorem Wm(h:Rel E w.heap st)(hr:td st x=So (v,st'))(hx:Conc E x u):
  st'=st/\∃z,(Instr.entry u).run P w=.ok z w/\Conc E v z:=by
 unfold td at hr;split at hr
 ·cases hx;rename_i B hB;split at hr
  ·rename_i m since seen last hg;split at hr
   ·rename_i es clock hgm;have⟨B',hB',hR,ha⟩:=Rel.row h hg (λ_ _ e=>by grind);rw[hB]at hB';cases hB';obtain⟨hd,mm,hw,Bm,hBm,rfl⟩:=hR;have⟨Bm',ents,hBm',hwm,hc,_⟩:=Rel.mp h hgm;rw[hBm]at hBm';cases hBm';have he:(Instr.entry (.pointer (So ⟨B.b,0+B.d,No⟩))).run P w=(Instr.entry (.pointer (So ⟨B.b,0,No⟩))).run P w:=by grind
    unfold Di at hr;split at hr
    ·rename_i b hb;have⟨hcl,hr'⟩:=dm hr;rw[bh,decide_eq_true_eq]at hcl;subst hcl;have⟨h1,me,h2,h3⟩:=Nr hc hr';refine⟨h1,_,?_,h3⟩;rw[he];have hbk:seen.toArray.back? = So b:=by
      rw[List.back?_toArray,<-OL];grind
     have hfd:ents.find? (λe=>e.born==b)=So me:=by grind
     unfold Instr.entry;simp[nL hw (λ_ _ _ e=>by grind),hbk,nL hwm (λ_ _ _ e=>by grind),hfd]
    grind
   grind
  grind
 grind
