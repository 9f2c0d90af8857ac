/- A part of the proof. -/
import Derived.Test.YtnmofhngblebiaaGreatDoorS07
import Derived.Test.YtnmofhngblebiaaGreatDoorS08
set_option maxRecDepth 100000
open Option renaming some->So,none->No
open Bool renaming true->Tt,false->Ff
open Nat renaming le_of_ble_eq_true->Q0,lt_succ_self->Q1,le_refl->Q2,zero_add->Q6,lt_of_lt_of_le->Q9,zero_le->J9,le_zero->Z8,lt_or_ge->Z9,le_antisymm->K8,add_assoc->V0
open List renaming getElem_mem->Q3,length_append->Q5,drop_append->Q7,drop_eq_nil_of_le->Q8,mem_cons->J1,length_map->J3,all_eq_true->J4,take_append_getElem->J5,map_append->J8,contains_iff_mem->Z3,not_mem_nil->Z4,all_cons->Z5,eq_nil_of_length_eq_zero->Z6,nil_append->Z7,append_nil->V1,append_assoc->V3,map_map->V4,map_congr_left->V6,pairwise_mergeSort->V7,mem_map->V8,take_of_length_le->X5,all_nil->X6
open Bool renaming and_eq_true->Q4,and_false->J6,or_eq_false_iff->Z0,eq_false_iff->V2,false_or->X0,true_and->X4,and_true->X7
open Go.Steps renaming one->V9
open Option.some renaming inj->X8
open Go.Proofs.Tryz
open Go.Proofs.Tryz renaming prog->π
noncomputable section
open Go.Ev
namespace Go.Proofs.YtnmofhngblebiaaGreatDoor
variable {C:ae->Option AV}{N cr i k m mr n r rI rm:Nat}{P:Program}{S T:Self}{a b:aa}{c:Option Self}{cells xs ys:List AV}{e ty:TypeId}{es:List eO}{f:FuncId}{l:List ae}{nm:List Nat}{num w:Int}{ps v v1:AV}{s s2 st st':St}{t:Tr AV}{x:Ex}
set_option maxHeartbeats 8000000
theorem Vd{a b:ae}(ha:∀c∈a,c<256)(hb:∀c∈b,c<256)(h:uO a=uO b):a=b:=by
 have key:∀s:ae,(∀c∈s,c<256)->(uO s).map UInt8.toNat=s:=λs hs=>by
  unfold uO;rw[V4]
  conv=>rhs;rw[<-List.map_id s]
  refine V6 λc hc=>?_
  simp_all
 grind
theorem OR(a b c:ae)(h1:pX a b=Tt)(h2:pX b c=Tt):pX a c=true:=by grind[pX]
theorem OQ(a b:ae):(pX a b||pX b a)=true:=by grind[pX]
theorem RT{l':List ae}(h:l.Perm l')(hv:∀s∈l,∀c∈s,c<256):jz l=jz l':=by refine List.Perm.eq_of_pairwise ?_ (V7 OR OQ l) (V7 OR OQ l') (((BP l).trans h).trans (BP l').symm);grind[BP,pX,Vd]
end Go.Proofs.YtnmofhngblebiaaGreatDoor
namespace Go.Proofs.YtnmofhngblebiaaGreatDoor.Fre
variable {C:ae->Option AV}{N cr i k m mr n r rI rm:Nat}{P:Program}{S T:Self}{a b:aa}{c:Option Self}{cells xs ys:List AV}{e ty:TypeId}{es:List eO}{f:FuncId}{l:List ae}{nm:List Nat}{num w:Int}{ps v v1:AV}{s s2 st st':St}{t:Tr AV}{x:Ex}
theorem mP:aN π 9=true:=by kernel_rfl
theorem rZ:aq π 9=1:=by kernel_rfl
theorem cM:aN π 47=true:=by kernel_rfl
theorem gT:cw π 47=true:=by kernel_rfl
theorem aX:aq π 47=7:=by kernel_rfl
theorem eL:iq π 43 9 1:=⟨underlying43,mP,rZ⟩
theorem kg:gz π 43 9 1:=⟨eL,by decide,⟨_,(by kernel_rfl:bt π 9=So [.s []]),rfl⟩,by decide,by kernel_rfl,by kernel_rfl,Q0 (by kernel_rfl),Q0 (by kernel_rfl)⟩
noncomputable def hd:Code->Code
 |.seq a _=>a
 |x=>x
noncomputable def tl:Code->Code
 |.seq _ b=>b
 |x=>x
noncomputable def B:Code:=f143.body.getD .skip
end Go.Proofs.YtnmofhngblebiaaGreatDoor.Fre
namespace Go.Proofs.YtnmofhngblebiaaGreatDoor
variable {C:ae->Option AV}{N cr i k m mr n r rI rm:Nat}{P:Program}{S T:Self}{a b:aa}{c:Option Self}{cells xs ys:List AV}{e ty:TypeId}{es:List eO}{f:FuncId}{l:List ae}{nm:List Nat}{num w:Int}{ps v v1:AV}{s s2 st st':St}{t:Tr AV}{x:Ex}
noncomputable def eE(es:List eO):List ae:=es.map λe=>fo e.1
def Ie(es:List eO)(k:Nat):Prop:=strKeys es/\(∀e∈es,e.2.2<k)/\(es.map (·.2.2)).Nodup/\es.length<=1000000
noncomputable def RI:List ae->AV
 |[]=>.sn
 |s::l=>.rs ((s::l).map .s) (l.length+1) 1
theorem ahm:∀l:List ae,aE (RI l)=Tt
 |[]=>rfl
 |s::l=>by simp[RI,aE,aA,kR]
noncomputable def sA(cells:List AV):St:=(ay.aj cells).shut 0
open Classical in
def tg(T:Self)(cells:List AV):Option (List ae):=
 match T.call 198 [.ag cells] (sA cells)with
 |some (.b Ff,_)=>So []
 |some (.b Tt,s2)=>match T.call 199 [.rp cells,.pn,.m s2.next] (s2.new (.mp [] 0))with
  |some (.tu [],s3)=>match s3.get s2.next with
   |some (.mp es k)=>if s2.next<s3.next/\Ie es k then So (jz (eE es)) else No
   |_=>No
  |_=>No
 |_=>No
noncomputable def yU(l:List ae)(st:St):AV×St:=match l with
 |[]=>(.sn,st)
 |s::l=>(.sl st.next 0 (l.length+1) 1 No,st.aj ((s::l).map .s))
noncomputable def vi(T:Self)(f:FuncId)(xs:List AV)(st:St):Option (AV×St):=
 if f=143 then match xs with
  |[.ag cells]=>if aA cells=Tt/\cells.length=7 then(tg T cells).map λl=>yU l st else No
  |_=>No
 else No
theorem NH(h:f≠143):vi T f xs st=none:=by unfold vi;grind
theorem XD(h1:aA cells=Tt)(h2:cells.length=7)(h3:tg T cells=So l):vi T 143 [.ag cells] st=So (yU l st):=by unfold vi;grind
theorem XE(h:tg T cells=So l):
  (∃s2,T.call 198 [.ag cells] (sA cells)=So (.b Ff,s2)/\l=[])\/
  ∃s2 s3 es k,T.call 198 [.ag cells] (sA cells)=So (.b Tt,s2)/\T.call 199 [.rp cells,.pn,.m s2.next] (s2.new (.mp [] 0))=So (.tu [],s3)/\s3.get s2.next=So (.mp es k)/\s2.next<s3.next/\Ie es k/\l=jz (eE es):=by
 unfold tg at h;grind
def GS(l:List ae)(v:AV)(s:St):Prop:=(l=[]/\v=.sn)\/∃r g al,l≠[]/\v=.sl r 0 l.length 1 No/\s.ce r=So (l.map .s,g,al)
@[simp] theorem agN{it:Operand}:cO (.entry it) P S t st=td st (ah t it):=rfl
@[simp] theorem ag4{x:Operand}:cO (.range ty x) P S t st=rP P ty st (ah t x):=rfl
end Go.Proofs.YtnmofhngblebiaaGreatDoor
namespace Go.Proofs.YtnmofhngblebiaaGreatDoor.Fre
variable {C:ae->Option AV}{N cr i k m mr n r rI rm:Nat}{P:Program}{S T:Self}{a b:aa}{c:Option Self}{cells xs ys:List AV}{e ty:TypeId}{es:List eO}{f:FuncId}{l:List ae}{nm:List Nat}{num w:Int}{ps v v1:AV}{s s2 st st':St}{t:Tr AV}{x:Ex}
noncomputable abbrev X(T : Self)(n : Nat) : Ctx := ⟨π,T,Ff,f143.ntmps,n⟩
theorem r0(_:cells.length=7):∃t1,ao (hd B) (X T n) (tmpsOf [.ag cells] 0 .lf) ay=.nx t1 (ay.aj cells)/\ab t1 1=.p 0 0:=by simp[B,hd,f143];exact rfl
theorem rF(h7:cells.length=7)(h1:ab t 1=.rp cells)(h:T.call 198 [.ag cells] s=So (.b Ff,s2)):∃t2,ao (tl B) (X T n) t s=.rt t2 s2/\ab t2 2=.sn:=by
 have ld:loadAt π 47 s (.rp cells)=So (.ag cells):=by have:=ei cM gT aX (st:=s) (r:=[]) h7;grind
 simp[B,tl,f143,h1,ld,uP func198 rfl,h]
theorem r1(h7:cells.length=7)(h1:ab t 1=.rp cells)(h:T.call 198 [.ag cells] s=So (.b Tt,s2)):∃t2,ao (hd (tl B)) (X T n) t s=.nx t2 s2/\ab t2 1=.rp cells:=by
 have ld:loadAt π 47 s (.rp cells)=So (.ag cells):=by have:=ei cM gT aX (st:=s) (r:=[]) h7;grind
 simp[B,tl,hd,f143,h1,ld,uP func198 rfl,h]
theorem r3(h1:ab t 1=.rp cells):∃t2,ao (hd (tl (tl B))) (X T n) t s=.nx t2 (s.new (.mp [] 0))/\ab t2 1=.rp cells/\ab t2 3=.m s.next:=by simp[B,tl,hd,f143,h1]
theorem r4{s3:St}(h1:ab t 1=.rp cells)(h3:ab t 3=.m rm)(h:T.call 199 [.rp cells,.pn,.m rm] s=So (.tu [],s3)):∃t2,ao (hd (tl (tl (tl B)))) (X T n) t s=.nx t2 s3/\ab t2 3=.m rm:=by simp[B,tl,hd,f143,h1,h3,uP func199 rfl,h]
theorem r5(h3:ab t 3=.m rm):∃t2,ao (hd (tl (tl (tl (tl B))))) (X T n) t s=.nx t2 s/\ab t2 3=.m rm/\ab t2 4=.sn:=by simp[B,tl,hd,f143,h3]
theorem r6(h3:ab t 3=.m rm)(h4:ab t 4=.sn)(hm:s.get rm=So (.mp es k)):∃t2,ao (hd (hd (tl (tl (tl (tl (tl B))))))) (X T n) t s=.nx t2 (s.new (.mi (So rm) k [] k))/\ab t2 13=.p s.next 0/\ab t2 4=.sn:=by
 have hr:rP π 58 s (.m rm)=So (.p s.next 0,s.new (.mi (So rm) k [] k)):=by unfold rP;simp_all
 simp[B,tl,hd,f143,h3,h4,hr]
noncomputable def LW:Code->Code
 |.block _ (.loop c)=>c
 |x=>x
noncomputable def aaG:Code->Array Oper
 |.region _ o _=>o
 |_=>#[]
noncomputable def LC:Code:=LW (tl (hd (tl (tl (tl (tl (tl B)))))))
noncomputable def wT:Array Oper:=aaG (hd LC)
noncomputable def vU:Code:=tl (tl LC)
theorem UG:tl (hd (tl (tl (tl (tl (tl B))))))=.block 0 (.loop (.seq (.region 7 wT Ff) (.seq (.cond (.tmp 15) .skip (.exit 0)) vU))):=rfl
noncomputable def o1:Oper:={dst:=So 14,op:=.next (.tmp 13) Ff,type:=0,pos := "core.go:345",after:=#[],guard:=No}
noncomputable def o2:Oper:={dst:=So 15,op:=.extract (.tmp 14) 0,type:=4,pos := "core.go:345",after:=#[{on:=0,ground:=.data}],guard:=No}
theorem aaF:wT.toList=[o1,o2]:=rfl
structure JJ(rI rm k top:Nat)(es done:List eO)(t:Tr AV)(s:St):Prop where
 i13:ab t 13=.p rI 0
 gI:s.get rI=So (.mi (So rm) k (done.map (·.2.2)) k)
 gm:s.get rm=So (.mp es k)
 ow:∃g,bD s (rI+1) 1 (ab t 4) done.length (done.map (·.1)) g
 nil:done=[]->ab t 4=.sn
 nx:s.next<=rI+1+2*done.length
 lt:rI<s.next
 le:done.length<=es.length
 tp:rI+1+2*es.length<=top
theorem JJ.top{rI rm k top:Nat}{es done:List eO}{t:Tr AV}{s:St}(h:JJ rI rm k top es done t s):s.next<=top:=by have:=h.nx;have:=h.le;have:=h.tp;omega
theorem OM:∀(l:List Nat) (b:Nat),AO (l++[b])=So b
 |[],b=>rfl
 |[x],b=>rfl
 |x::y::l,b=>OM (y::l) b
theorem Nq{e:eO}{st:St}:∀{es:List eO},(es.map (·.2.2)).Nodup->e∈es->vd e.2.2 st es=So (.tu [e.1,e.2.1],st)
 |(k,v,n)::l,hn,h=>by
  have hn':n∉l.map (·.2.2)/\(l.map (·.2.2)).Nodup:=List.nodup_cons.1 hn;show @Bool.rec (λ_=>aD) (vd e.2.2 st l) (So (.tu [k,v],st)) (Nat.beq n e.2.2)=_
  rcases J1.1 h with rfl|h
  ·simp_all
  ·rw[show Nat.beq n e.2.2=Ff by rw[bh];grind];exact Nq hn'.2 h
theorem FB:∀{es:List eO},strKeys es->∀e∈es,e.1=.s (fo e.1)
 |(k,v,n)::l,h,e,he=>by
  rcases J1.1 he with rfl|he
  ·obtain⟨⟨s,rfl⟩,-⟩:=h;rfl
  ·exact FB h.2 e he
theorem F3{top:Nat}{done L:List eO}{e:eO}(hg:Ie es k)(hm:rm<rI)(J:JJ rI rm k top es done t s)(hp:(done++e::L).Perm es):
  ∃t2 s2,qa (X T n) wT o2 15 0 vU (t.set 14 (So (.tu [.b Tt,e.1,e.2.1]))) (s.put rI (.mi (So rm) k (done.map (·.2.2)++[e.2.2]) k))=.nx t2 s2/\JJ rI rm k top es (done++[e]) t2 s2/\s2.next<=top:=by
 have⟨j13,jI,jm,⟨g,jO⟩,jn,jx,jl,je,jt⟩:=J;have⟨g1,g2,g3,g4⟩:=hg;have hmem:e∈es:=hp.mem_iff.1 (by simp);have hlen:=hp.length_eq;simp only[Q5,List.length_cons]at hlen;have hk:=FB g1 e hmem;obtain⟨key,hkey⟩:∃key,fo e.1=key:=⟨_,rfl⟩;rw[hkey]at hk;obtain⟨s1,hs1⟩:∃s1,s.put rI (.mi (So rm) k (done.map (·.2.2)++[e.2.2]) k)=s1:=⟨_,rfl⟩;have k1:Kp [rI] [] s s1:=by rw[<-hs1];exact .put (by simp)
 have n1:s1.next=s.next:=by rw[<-hs1];rfl
 have gI1:s1.get rI=So (.mi (So rm) k (done.map (·.2.2)++[e.2.2]) k):=by rw[<-hs1];exact yO _ _
 have gm1:s1.get rm=So (.mp es k):=by rw[k1.get rm (by omega) (by simp;omega)];exact jm
 have hen:td s1 (.p rI 0)=So (.tu [e.1,e.2.1],s1):=by
  show(match s1.get rI with
   |some (.mi (So m) _ seen stepped)=>match s1.get m with
    |some (.mp es clock)=>Di s1 es clock stepped (AO seen)
    |_=>No
   |_=>No)=_
  rw[gI1];simp only[gm1,OM];show @Bool.rec (λ_=>aD) No (vd e.2.2 s1 es) (Nat.beq k k)=_
  rw[show Nat.beq k k=Tt by rw[bh];simp];exact Nq g3 hmem
 have O1:bD s1 (rI+1) 1 (ab t 4) done.length (done.map (·.1)) g:=jO.keep k1 (by simp) (by simp);have bo:=λ(t:Tr AV) (h:ah t (.tmp 19)=.s key)=>ef (S:=T) (st:=s1) kg (cs:=[.s key]) (by rw[h];simp) rfl
 obtain⟨v',g',s4,w1,w2,w3,w4,w5,-⟩:=O1.Gy kg (new:=[.s key]) rfl rfl (by omega) (by omega);rw[hs1,hk];have run:∃t2,qa (X T n) wT o2 15 0 vU (t.set 14 (So (.tu [.b Tt,.s key,e.2.1]))) s1=.nx t2 s4/\ab t2 13=.p rI 0/\ab t2 4=v':=by rw[hk]at hen;simp[qa,o2,vU,LC,LW,B,tl,hd,f143,j13,hen,bo,w1]
 have⟨t2,h1,h2,h3⟩:=run;have gl:=O1.jd;have N4:s4.next<=rI+1+2*(done++[e]).length:=by simp;omega
 have J2:JJ rI rm k top es (done++[e]) t2 s4:=by
  refine⟨h2,?_,?_,⟨g',?_⟩,by simp,N4,?_,by simp;omega,jt⟩
  ·rw[w3.get rI (by omega) (by simp),gI1,J8];rfl
  ·rw[w3.get rm (by omega) (by simp),gm1]
  ·rw[h3];have:(done++[e]).map (·.1)=done.map (·.1)++[.s key]:=by rw[J8,<-hk];rfl
   rw[this,Q5];exact w2
  ·have:=w3.next;omega
 exact⟨t2,s4,h1,J2,J2.top⟩
theorem fin{top:Nat}{done:List eO}(J:JJ rI rm k top es done t s):∃t2,qa (X T n) wT o2 15 0 vU (t.set 14 (So (.tu [.b Ff]))) s=.ex 0 t2 s/\JJ rI rm k top es done t2 s:=by
 have⟨j13,jI,jm,jO,jn,jx,jl,je,jt⟩:=J;have run:∃t2,qa (X T n) wT o2 15 0 vU (t.set 14 (So (.tu [.b Ff]))) s=.ex 0 t2 s/\ab t2 13=.p rI 0/\ab t2 4=ab t 4:=by simp_all[qa,o2]
 have⟨t2,h1,h2,h3⟩:=run;exact⟨t2,h1,h2,jI,jm,by grind,by grind,jx,jl,je,jt⟩
theorem tail_nil(h4:ab t 4=.sn)(hn:T.call 200 [.sn] s=So (.tu [],s)):∃t2,ao (tl (tl (tl (tl (tl (tl B)))))) (X T n) t s=.rt t2 s/\ab t2 2=.sn:=by simp[B,tl,f143,h4,uP func200 rfl,hn]
theorem adi{s5:St}(h4:ab t 4=v)(hn:T.call 200 [v] s=So (.tu [],s5)):∃t2,ao (tl (tl (tl (tl (tl (tl B)))))) (X T n) t s=.rt t2 s5/\ab t2 2=v:=by simp[B,tl,f143,h4,uP func200 rfl,hn]
theorem Ru:∀l:List ae,bH (l.map .s)=Tt
 |[]=>rfl
 |s::l=>by simp[Ru l]
theorem keys_map(h:strKeys es){done:List eO}(hd:∀e∈done,e∈es):done.map (·.1)=(eE done).map .s:=by unfold eE;rw[V4];exact V6 λe he=>FB h e (hd e he)
theorem YG{E:Env}{ms:List MapEntry}(h:fA E es ms)(hk:strKeys es):∀s∈eE es,∀c∈s,c<256:=by
 intro s hs c hc;obtain⟨e,he,rfl⟩:=V8.1 hs;obtain⟨m,-,h1,-⟩:=VH h e he;rw[FB hk e he]at h1;generalize fo e.1=y at h1 hc;generalize m.key=u at h1;cases h1 with
 |s bs=>obtain⟨b,-,rfl⟩:=V8.1 hc;exact b.toNat_lt
open Classical in
theorem ok(T:Self)(hT:bK π T)(hn:∀st,T.call 200 [.sn] st=So (.tu [],st))
  (hs:∀{r m z:Nat}{q:Option Nat}{ss:List ae}{st st':St},0<m->m<4611686018427387904->rd st r 0 m=So (ss.map .s)->wt st r 0 ((jz ss).map .s)=So st'->T.call 200 [.sl r 0 m z q] st=So (.tu [],st')):um π (vi T):=by
 refine⟨λf xs st=>?_,λ{ks E w st st' f xs us v} hr hc h hn'=>?_⟩
 ·unfold vi;split
  ·split
   ·split
    ·cases tg T _ with
     |none=>exact bu
     |some l=>
      cases l with
      |nil=>exact fp
      |cons s l=>exact zr
    ·exact bu
   ·exact bu
  ·exact bu
 ·unfold vi at h;split at h
  case isFalse=>grind
  rename_i hf;subst hf;split at h
  case h_2=>grind
  rename_i cells;split at h
  case isFalse=>grind
  rename_i hcl;have⟨hp,h7⟩:=hcl;cases hv:tg T cells with
  |none=>grind
  |some l=>
  rw[hv]at h;have hro:yU l st=(v,st'):=X8 h;have main:∀(top:Nat),1<=top->(∀(b:Frame),b.roundOf=No->∀{n0:Nat}{E1:Env}{w1:World}{t1:Tr AV}{a1:Act},E1.top=top->Rel E1 w1.heap (sA cells)->bX E1 f143.ntmps t1 a1.tmps->Marks n0 b.defers E1 w1.heap (sA cells) a1.defers->n0<=w1.heap.size->ab t1 1=.rp cells->
    fX π ks n0 E1 f143.ntmps b w1 (sA cells) (lone (b.atR a1 [.code (tl B)]) ks w1) (λt s=>GS l (ab t 2) s))->∃E2 w2 cv2,jD π ks 143 us.toArray w w2 cv2/\aR E E2 w w2 st st'/\Conc E2 v cv2:=by
   intro top htop H;have hr0:=QI hr top;have hc0:aH ⟨E.imm,λ_=>No,top⟩ [.ag cells] us:=rM (E:=E) (F:=⟨E.imm,λ_=>No,top⟩) (λ_ _ h=>h) hc (by simp[aA,aE,hp]);have ht0:=MX (nt:=f143.ntmps) hc0 (Q0 rfl);have⟨E',w',cv,v1,s1,hR,k1,k2,k3⟩:=abI (P:=π) (ks:=ks) (f:=143) (fn:=f143) (c:=B) (us:=us) (G:=λt s=>GS l (ab t 2) s) (R:=λv1 s=>GS l v1 s) func143 rfl hr0
    (by
     intro b hb hbd;have⟨t1,e1,e2⟩:=r0 (T:=T) (n:=0) h7;refine fX.seq (x:=X T 0) (c:=hd B) (c2:=tl B) rfl hT (by grind) hr0 ht0 (by rw[hbd];exact Marks.nil) (Q2 _) e1 htop ?_;intro E1 w1 a1 etop ele hr1 ht1 hm1 hn1;have sF:=Step.mN hr1 (Nat.ble 0);have hz:Fz 0 (ay.aj cells) (.p 0 0) (.rp cells):=Fz.ptr (bq _) (J9 _) (fV.pure hp);have⟨d,hz⟩:=hz;have c1:=ht1.2 1;rw[e2]at c1;have c2:=BA hr1 d _ _ _ c1 hz;have hq:=H b hb (n0:=w.heap.size) (E1:=re E1 w1.heap (ay.aj cells) (Nat.ble 0)) (w1:=w1) (t1:=t1.set 1 (So (.rp cells))) (a1:=a1) etop sF.rel ⟨ht1.1,λx=>by
      rw[adj];split
      ·grind
      ·exact(ht1.2 x).mono sF.le⟩ (hm1.step sF) hn1 (by simp)
     exact hq.pre ⟨sF,rfl,rfl⟩ (Steps.refl _ _))
    (λt s h1=>⟨ab t 2,by simp[f143,bf,aO],h1⟩)
   rcases hR with ⟨rfl,rfl⟩|⟨r,g,al,hne,rfl,hce⟩
   ·cases hro;exact abo hr k1 k2 k3 (.pure rfl) rfl
   ·cases l with
    |nil=>exact absurd rfl hne
    |cons s l=>cases hro;exact abZ hr k1 k2 k3 hce (kR _) hn'
  obtain⟨E2,w2,cv2,g1,g2,g3⟩:∃E2 w2 cv2,jD π ks 143 us.toArray w w2 cv2/\aR E E2 w w2 st st'/\Conc E2 v cv2:=by
   rcases XE hv with ⟨s2,h40,rfl⟩|⟨s2,s3,es,k,h40,h159,hget,hlt,hgood,rfl⟩
   ·refine main (s2.next+1) (by omega) ?_;intro b hb n0 E1 w1 t1 a1 etop hr1 ht1 hm1 hn1 e1;have⟨t2,q1,q2⟩:=rF (T:=T) (n:=0) h7 e1 h40;exact fX.code (x:=X T 0) rfl hT (by rw[hb];rfl) hr1 ht1 hm1 hn1 q1 (by omega) (.inl ⟨rfl,q2⟩)
   ·refine main (s3.next+2*es.length+5) (by omega) ?_;intro b hb n0 E1 w1 t1 a1 etop hr1 ht1 hm1 hn1 e1;have hi:(X T 0).inR=b.roundOf.isSome:=by rw[hb];rfl
    have⟨t2,q1,q2⟩:=r1 (T:=T) (n:=0) h7 e1 h40;refine fX.seq (x:=X T 0) (c:=hd (tl B)) (c2:=tl (tl B)) rfl hT hi hr1 ht1 hm1 hn1 q1 (by omega) ?_;clear hr1 ht1 hm1 hn1;intro E2 w2 a2 et2 _ hr2 ht2 hm2 hn2;have⟨t3,q3,q4,q5⟩:=r3 (T:=T) (n:=0) (s:=s2) q2;refine fX.seq (x:=X T 0) (c:=hd (tl (tl B))) (c2:=tl (tl (tl B))) rfl hT hi hr2 ht2 hm2 hn2 q3 (by show s2.next+1<=E2.top;omega) ?_;clear hr2 ht2 hm2 hn2;intro E3 w3 a3 et3 _ hr3 ht3 hm3 hn3;have⟨t4,q6,q7⟩:=r4 (T:=T) (n:=0) q4 q5 h159;refine fX.seq (x:=X T 0) (c:=hd (tl (tl (tl B)))) (c2:=tl (tl (tl (tl B)))) rfl hT hi hr3 ht3 hm3 hn3 q6 (by omega) ?_;clear hr3 ht3 hm3 hn3;intro E4 w4 a4 et4 _ hr4 ht4 hm4 hn4;obtain⟨-,ents,-,-,hce,-⟩:=Rel.mp hr4 hget;have hbytes:=YG hce hgood.1;have⟨t5,q8,q9,q10⟩:=r5 (T:=T) (n:=0) (s:=s3) q7;refine fX.seq (x:=X T 0) (c:=hd (tl (tl (tl (tl B))))) (c2:=tl (tl (tl (tl (tl B))))) rfl hT hi hr4 ht4 hm4 hn4 q8 (by omega) ?_;clear hr4 ht4 hm4 hn4;intro E5 w5 a5 et5 _ hr5 ht5 hm5 hn5;refine fX.assoc (c1:=hd (tl (tl (tl (tl (tl B)))))) (c2:=tl (tl (tl (tl (tl (tl B)))))) hr5 ?_;have⟨t6,q11,q12,q13⟩:=r6 (T:=T) (n:=0) (s:=s3) q9 q10 hget;refine fX.seq (x:=X T 0) (c:=hd (hd (tl (tl (tl (tl (tl B))))))) (c2:=tl (hd (tl (tl (tl (tl (tl B))))))) rfl hT hi hr5 ht5 hm5 hn5 q11 (by show s3.next+1<=E5.top;omega) ?_;clear hr5 ht5 hm5 hn5;intro E6 w6 a6 et6 _ hr6 ht6 hm6 hn6;rw[UG];have J0:JJ s3.next s2.next k (s3.next+2*es.length+5) es [] t6 (s3.new (.mi (So s2.next) k [] k)):=
     ⟨q12,by rw[St.oG,if_pos rfl];rfl,by rw[St.oG,if_neg (by omega)];exact hget,⟨No,by rw[q13];exact bD.nil _ _ _⟩,λ_=>q13,Q2 _,Q1 _,J9 _,by omega⟩
    have⟨done,t7,s7,g1,J7,hA⟩:=abz (x:=X T 0) (ks:=ks) (n0:=n0) (b:=b) (i7:=7) (ops:=wT) (o1:=o1) (o2:=o2) (d13:=13) (d14:=14) (d15:=15) (id:=0) (body:=vU) rfl hT aaF rfl rfl rfl (show 14<f143.ntmps from Q0 rfl) hgood.2.1 hgood.2.2.1
     (JJ s3.next s2.next k (s3.next+2*es.length+5) es) (JJ s3.next s2.next k (s3.next+2*es.length+5) es) (k:=[.code (tl (tl (tl (tl (tl (tl B))))))]) hi (s3.next+2*es.length+5)
     (λdone t s J=>⟨J.i13,J.gI,J.gm,J.top⟩)
     (λdone e L t s J hp=>F3 hgood hlt J hp)
     (λdone t s J hp=>fin J)
     _ [] rfl (by simp[YY]) (a:=a6) (by omega) hr6 ht6 hm6 hn6 J0
    have⟨E7,a7,w7,s67,ht7,hm7,hst⟩:=hA;refine fX.pre s67 ((V9 stepR_block).trans ((V9 stepR_loop).trans hst)) ?_;have hr7:=s67.rel;have hn7:=Nat.le_trans hn6 s67.fr.size;have et7:=s67.top;have jt:=J7.top;have hdm:∀e∈done,e∈es:=λe he=>g1.mem_iff.1 he
    have hks:=keys_map hgood.1 hdm;have hpk:(eE done).Perm (eE es):=g1.map _;have hsq:jz (eE es)=jz (eE done):=RT hpk.symm hbytes;rw[hsq];have hlk:(eE done).length=done.length:=by simp[eE]
    by_cases hd0:done=[]
    ·subst hd0;have⟨t8,q14,q15⟩:=tail_nil (T:=T) (n:=0) (s:=s7) (J7.nil rfl) (hn s7);exact fX.code (x:=X T 0) rfl hT hi hr7 ht7 hm7 hn7 q14 (by omega) (.inl ⟨by simp[eE,jz],q15⟩)
    ·have⟨g,hO⟩:=J7.ow;have hdl:0<done.length:=List.length_pos_iff.2 hd0;rcases hO with ⟨-,h0,-⟩|⟨r,-,h0,-⟩|⟨r,f,al,-,hv4,hce7,hl7,-,-,-,-,-⟩
     ·omega
     ·omega
     ·rw[hks]at hce7;have hle:=J7.le;have hg4:=hgood.2.2.2;have hrd:rd s7 r 0 done.length=So ((eE done).map .s):=by
       have e:done.length=((eE done).map AV.s).length:=by rw[J3,hlk]
       rw[ai hce7,eV,e,gY]
      have hsl:((jz (eE done)).map AV.s).length=((eE done).map AV.s).length:=by rw[J3,J3,FA]
      have hw:=c9 hce7 0 ((jz (eE done)).map .s) (by rw[Q6,hsl];exact Q2 _) (Ru _);rw[pY,nU hsl]at hw;have⟨t8,q14,q15⟩:=adi (T:=T) (n:=0) hv4 (hs (z:=1) (q:=No) hdl (by omega) hrd hw);have hne:jz (eE done)≠[]:=λe=>by have:=congrArg List.length e;rw[FA,hlk]at this;simp at this;exact hd0 this
      refine fX.code (x:=X T 0) rfl hT hi hr7 ht7 hm7 hn7 q14 (by show s7.next<=E7.top;omega) (.inr ⟨r,f,_,hne,?_,dA _ _ _⟩);rw[q15,FA,hlk]
  grind
end Go.Proofs.YtnmofhngblebiaaGreatDoor.Fre
namespace Go.Proofs.YtnmofhngblebiaaGreatDoor
variable {C:ae->Option AV}{N cr i k m mr n r rI rm:Nat}{P:Program}{S T:Self}{a b:aa}{c:Option Self}{cells xs ys:List AV}{e ty:TypeId}{es:List eO}{f:FuncId}{l:List ae}{nm:List Nat}{num w:Int}{ps v v1:AV}{s s2 st st':St}{t:Tr AV}{x:Ex}
section
noncomputable def Oc(f:Nat):Bool:=match π.funcs[f]? with|some fn=>fn.body.isSome|none=>Ff
theorem Ye:((List.range 203).all λf=>Nat.ble f 1||Nat.beq f 127||Nat.beq f 138||Oc f)=true:=by kernel_rfl
@[simp] theorem Vk{f:Nat}(h:(1<f/\f<127)\/(127<f/\f<138)\/(138<f/\f<203)):pN π S f xs st=S.call f xs st:=by
 have h1:=J4.1 Ye f (List.mem_range.2 (by omega));have h2:Nat.ble f 1=false:=by cases hh:Nat.ble f 1<;>simp_all;omega
 have h3:Nat.beq f 127=false:=by rw[bh];simp;omega
 have h4:Nat.beq f 138=false:=by rw[bh];simp;omega
 rw[h2,h3,h4]at h1;simp only[X0,Oc]at h1;cases hf:π.funcs[f]? with
 |none=>rw[hf]at h1;cases h1
 |some fn=>
  rw[hf]at h1;cases hb:fn.body with
  |none=>simp[hb]at h1
  |some c=>exact uP hf hb
attribute [simp] ry wN cu Pa bf aO
@[simp] theorem afI:aN π 2=true:=by kernel_rfl
@[simp] theorem L0:cw π 2=false:=by kernel_rfl
@[simp] theorem dW:aN π 3=true:=by kernel_rfl
@[simp] theorem zR:cw π 3=false:=by kernel_rfl
theorem eY:aq π 3=1:=by kernel_rfl
@[simp] theorem On:aN π 4=true:=by kernel_rfl
theorem Sa:aq π 4=1:=by kernel_rfl
@[simp] theorem mP:aN π 9=true:=by kernel_rfl
@[simp] theorem mF:cw π 9=false:=by kernel_rfl
theorem rZ:aq π 9=1:=by kernel_rfl
@[simp] theorem Yl:aN π 22=true:=by kernel_rfl
@[simp] theorem aex:cw π 22=false:=by kernel_rfl
theorem ac2:aq π 22=1:=by kernel_rfl
@[simp] theorem yt:aN π 23=true:=by kernel_rfl
@[simp] theorem Lq:cw π 23=false:=by kernel_rfl
theorem FE:aq π 23=1:=by kernel_rfl
@[simp] theorem Ym:aN π 28=true:=by kernel_rfl
@[simp] theorem aey:cw π 28=false:=by kernel_rfl
theorem ac3:aq π 28=1:=by kernel_rfl
@[simp] theorem Yp:aN π 43=true:=by kernel_rfl
@[simp] theorem aeD:cw π 43=false:=by kernel_rfl
theorem ac6:aq π 43=1:=by kernel_rfl
@[simp] theorem AG:aN π 44=true:=by kernel_rfl
@[simp] theorem Lr:cw π 44=false:=by kernel_rfl
theorem Kj:aq π 44=1:=by kernel_rfl
@[simp] theorem DP:aN π 45=true:=by kernel_rfl
@[simp] theorem Ls:cw π 45=false:=by kernel_rfl
theorem Sb:aq π 45=1:=by kernel_rfl
@[simp] theorem afJ:aN π 58=true:=by kernel_rfl
@[simp] theorem aeF:cw π 58=false:=by kernel_rfl
@[simp] theorem afF:aN π 119=true:=by kernel_rfl
@[simp] theorem aes:cw π 119=false:=by kernel_rfl
@[simp] theorem afG:aN π 122=true:=by kernel_rfl
@[simp] theorem aet:cw π 122=false:=by kernel_rfl
@[simp] theorem nO:aN π 25=true:=by kernel_rfl
@[simp] theorem zQ:cw π 25=true:=by kernel_rfl
theorem gC:aq π 25=2:=by kernel_rfl
@[simp] theorem dD:aN π 63=true:=by kernel_rfl
@[simp] theorem xY:cw π 63=true:=by kernel_rfl
theorem dB:aq π 63=4:=by kernel_rfl
@[simp] theorem cM:aN π 47=true:=by kernel_rfl
@[simp] theorem gT:cw π 47=true:=by kernel_rfl
theorem aX:aq π 47=7:=by kernel_rfl
@[simp] theorem dc:aN π 49=true:=by kernel_rfl
@[simp] theorem np:cw π 49=true:=by kernel_rfl
theorem cK:aq π 49=8:=by kernel_rfl
@[simp] theorem bQ:aN π 133=true:=by kernel_rfl
@[simp] theorem xW:cw π 133=true:=by kernel_rfl
theorem bL:aq π 133=11:=by kernel_rfl
@[simp] theorem agq:bE π 25 0=So 0:=by kernel_rfl
@[simp] theorem ZV:bE π 25 1=So 1:=by kernel_rfl
@[simp] theorem agw:bE π 63 0=So 0/\bE π 63 1=So 1/\bE π 63 2=So 2/\bE π 63 3=So 3:=by and_intros<;>kernel_rfl
@[simp] theorem agt:bE π 47 0=So 0/\bE π 47 1=So 1/\bE π 47 2=So 2/\bE π 47 3=So 3/\bE π 47 4=So 4/\bE π 47 5=So 5/\bE π 47 6=So 6:=by and_intros<;>kernel_rfl
@[simp] theorem agu:bE π 49 0=So 0/\bE π 49 1=So 1:=by and_intros<;>kernel_rfl
@[simp] theorem agj:bE π 133 0=So 0/\bE π 133 1=So 1/\bE π 133 2=So 2/\bE π 133 3=So 3/\bE π 133 4=So 4:=by and_intros<;>kernel_rfl
@[simp] theorem agh:bE π 121 0=So 0/\bE π 121 1=So 1:=by and_intros<;>kernel_rfl
@[simp] theorem agi:bE π 124 0=So 0/\bE π 124 1=So 1:=by and_intros<;>kernel_rfl
@[simp] theorem agm:bE π 165 0=So 0/\bE π 165 1=So 1:=by and_intros<;>kernel_rfl
@[simp] theorem agv:bE π 60 0=So 0/\bE π 60 1=So 1:=by and_intros<;>kernel_rfl
theorem JP:iq π 22 63 4:=⟨underlying22,dD,dB⟩
theorem xm:iq π 23 49 8:=⟨underlying23,dc,cK⟩
theorem eL:iq π 43 9 1:=⟨underlying43,mP,rZ⟩
theorem rX:iq π 44 47 7:=⟨underlying44,cM,aX⟩
theorem xq:iq π 45 133 11:=⟨underlying45,bQ,bL⟩
def fU:List AV:=[.s [],.i .i64 0,.s [],.i .i64 0]
theorem ek:bt π 63=So fU:=by kernel_rfl
def oe:List AV:=[.s [],.i .i64 0,.s [],.i .i64 0,.sn,.sn,.sn,.sn]
theorem qp:bt π 49=So oe:=by kernel_rfl
def Tc:List AV:=[.s []]
theorem aeo:bt π 9=So Tc:=by kernel_rfl
def vT:List AV:=[.i .i64 0,.s [],.i .i64 0,.sn,.sn,.sn,.sn]
theorem FT:bt π 47=So vT:=by kernel_rfl
def xN:List AV:=[.i .i64 0,.s [],.i .i64 0,.sn,.i .i64 0,.s [],.i .i64 0,.sn,.sn,.sn,.sn]
theorem dv:bt π 133=So xN:=by kernel_rfl
theorem DK:gz π 22 63 4:=⟨JP,by decide,⟨_,(by kernel_rfl:bt π 63=So (fU)),rfl⟩,by decide,by kernel_rfl,by kernel_rfl,Q0 (by kernel_rfl),Q0 (by kernel_rfl)⟩
theorem wF:gz π 23 49 8:=⟨xm,by decide,⟨_,(by kernel_rfl:bt π 49=So (oe)),rfl⟩,by decide,by kernel_rfl,by kernel_rfl,Q0 (by kernel_rfl),Q0 (by kernel_rfl)⟩
theorem kg:gz π 43 9 1:=⟨eL,by decide,⟨_,(by kernel_rfl:bt π 9=So (Tc)),rfl⟩,by decide,by kernel_rfl,by kernel_rfl,Q0 (by kernel_rfl),Q0 (by kernel_rfl)⟩
theorem Ay:gz π 44 47 7:=⟨rX,by decide,⟨_,(by kernel_rfl:bt π 47=So (vT)),rfl⟩,by decide,by kernel_rfl,by kernel_rfl,Q0 (by kernel_rfl),Q0 (by kernel_rfl)⟩
theorem NW:gz π 45 133 11:=⟨xq,by decide,⟨_,(by kernel_rfl:bt π 133=So (xN)),rfl⟩,by decide,by kernel_rfl,by kernel_rfl,Q0 (by kernel_rfl),Q0 (by kernel_rfl)⟩
def G0(f:FuncId):Bool:=[83,91,94,135].contains f
def G1(f:FuncId):Bool:=[84,47,50,92,88,89,86,133,45,48,42,16,19,198,117,118,122,119,72,123,124,73,161,120,70,69,11].contains f
def G2(f:FuncId):Bool:=[46,56,71,32].contains f
def G4(f:FuncId):Bool:=f==85
def G3(f:FuncId):Bool:=[51,18,7,57,147,98,8,99].contains f
def ja(st:St):AV->List Nat
 |.sl r _ _ _ _=>match st.ce r with|some (_,g,_)=>[g]|none=>[]
 |_=>[]
def mL(st:St):AV->List Nat
 |.sl r _ _ _ _=>match st.ce r with|some (l,g,_)=>g::l.flatMap (ja st)|none=>[]
 |_=>[]
def Am(st:St):AV->List Nat
 |.ag l=>l.flatMap (mL st)
 |_=>[]
def pW(f:FuncId)(v:AV)(st:St)(g:Nat):Bool:=f != 99||(ja st v).contains g
theorem YE(h:f≠99)(v:AV)(st:St)(g:Nat):pW f v st g=true:=by unfold pW;simp[h]
def G5(f:FuncId):Bool:=f==146
def lJ(_:FuncId)(xs:List AV)(st:St)(g:Nat):Bool:=(xs.flatMap (Am st)).contains g
def fJ:Self:=yZ π (λS=>S) 200
def cF(f:FuncId):Bool:=f==143||(f==37||(f==93||(f==200||f==74)))
def uz(S:Self):Self:=mW vt (mW (qV 93) (mW (oZ 200) (mW (tT 74) S)))
def W1(S:Self):Self:=mW (vi (uz S)) (uz S)
theorem SS{f:Nat}(h:cF f=Ff):(uz S).call f xs st=S.call f xs st:=by unfold cF at h;simp only[Z0]at h;unfold uz;rw[lQ (AI (ne_of_beq_false h.2.1)),lQ (Hn (ne_of_beq_false h.2.2.1)),lQ (JS (ne_of_beq_false h.2.2.2.1)),lQ (RS (ne_of_beq_false h.2.2.2.2))]
theorem xG{f:Nat}(h:cF f=Ff):(W1 S).call f xs st=S.call f xs st:=by have h':=h;unfold cF at h;simp only[Z0]at h;unfold W1;rw[lQ (NH (ne_of_beq_false h.1)),SS h']
theorem SR(S:Self)(hS:bK π S):bK π (uz S):=
 Cb YB _ (Cb (VQ λb es c w h=>VE b es c w h) _ (Cb acJ _ (Cb acI _ hS)))
theorem SU{r:AV×St}(h:oZ 200 200 xs st=So r):(uz S).call 200 xs st=So r:=by unfold uz;rw[lQ (AI (by decide)),lQ (Hn (by decide))];exact Ca h
theorem SQ(S:Self)(hS:bK π S):bK π (W1 S):=
 Cb (Fre.ok _ (SR S hS) (λ_=>SU acy) λh1 h2 h3 h4=>SU (acx h1 h2 h3 rfl h4)) _ (SR S hS)
def W0(S:Self):Self:=eT G0 fJ (Mj G1 (qR G4 fJ (qR G2 (W1 S) (mN G3 pW (yk G5 lJ (W1 S))))))
def Wc(c:Option Self)(S:Self):Self:=match c with
 |none=>W0 S
 |some S7=>eT (λf=>f==16) S7 (W0 S)
def Tw(c:Option Self)(n:Nat):Self:=yZ π (Wc c) n
theorem Ro:bK π fJ:=vJ (IL IK) mixedOrders (λ_ h=>h) 200
theorem SP(S:Self)(hS:bK π S):bK π (W0 S):=GX _ _ Ro (Vf _ (Mm _ _ Ro (Mm _ _ (SQ _ hS) (XN _ (XK _ (SQ _ hS))))))
theorem Sq(hc:∀S,c=So S->bK π S)(n:Nat):bK π (Tw c n):=by
 refine vJ (IL IK) mixedOrders (λS hS=>?_) n;cases c with
 |none=>exact SP S hS
 |some S7=>exact GX _ _ (hc S7 rfl) (SP S hS)
section
variable {f:Nat}{fn:Func}{code:Code}
def aJ(c:Option Self)(n:Nat)(fn:Func)(code:Code)(xs:List AV)(st:St):Option (AV×St):=
 fN π fn.results.toList (ao code ⟨π,Tw c n,Ff,fn.ntmps,n⟩ (tmpsOf xs 0 .lf) st)
theorem pd(h7:c=No\/f≠16):(Tw c (n+1)).call f xs st=(W0 ⟨ib π (Tw c n) n,λnt c' t st=>ao c' ⟨π,Tw c n,Tt,nt,n⟩ t st,ib π (Tw c n) n⟩).call f xs st:=by
 show(Wc c _).call f xs st=_
 cases c with
 |none=>rfl
 |some S7=>exact iY (beq_false_of_ne (h7.resolve_left (by simp)))
theorem dV(h:(f==16||(cF f||(G0 f||(G1 f||(G4 f||(G2 f||(G3 f||G5 f)))))))=Ff)(hf:π.funcs[f]? = So fn)(hb:fn.body=So code)(hn:xs.length<=fn.ntmps)(hd:defers 4 code=false:=by rfl):
  (Tw c (n+1)).call f xs st=aJ c n fn code xs st:=by
 simp only[Z0]at h;rw[pd (.inr (ne_of_beq_false h.1))];show(eT G0 fJ (eT G1 _ _)).call f xs st=_
 rw[iY h.2.2.1,iY h.2.2.2.1,kL h.2.2.2.2.1,kL h.2.2.2.2.2.1,yn h.2.2.2.2.2.2.1,th h.2.2.2.2.2.2.2,xG h.2.1];exact mG hf hb hn hd
theorem XQ{f:FuncId}(h:G1 f=Tt):G2 f=Ff/\(G3 f=Ff/\G5 f=Ff)/\G4 f=Ff/\cF f=false:=by unfold G1 at h;rw[Z3]at h;simp only[J1,Z4,or_false]at h;rcases h with rfl|rfl|rfl|rfl|rfl|rfl|rfl|rfl|rfl|rfl|rfl|rfl|rfl|rfl|rfl|rfl|rfl|rfl|rfl|rfl|rfl|rfl|rfl|rfl|rfl|rfl|rfl<;>exact⟨rfl,⟨rfl,rfl⟩,rfl,rfl⟩
theorem XR{f:FuncId}(h:G2 f=Tt):cF f=false:=by unfold G2 at h;rw[Z3]at h;simp only[J1,Z4,or_false]at h;rcases h with rfl|rfl|rfl|rfl<;>rfl
theorem NQ{f:FuncId}(h:G3 f=Tt):cF f=Ff/\G5 f=false:=by unfold G3 at h;rw[Z3]at h;simp only[J1,Z4,or_false]at h;rcases h with rfl|rfl|rfl|rfl|rfl|rfl|rfl|rfl<;>exact⟨rfl,rfl⟩
theorem eS{X:List Nat}(h0:G0 f=Ff)(h1:G1 f=Tt)(h7:c=No\/f≠16)(hx:fY X st xs ys)(hf:π.funcs[f]? = So fn)(hb:fn.body=So code)(hn:ys.length<=fn.ntmps)(hv:tJ v=Tt)
  (he:sP (aJ c n fn code ys ay) v) (hd:defers 4 code=false:=by rfl):(Tw c (n+1)).call f xs st=So (v,st):=by
 have⟨s,he⟩:=he;rw[pd h7];show(eT G0 fJ (eT G1 _ _)).call f xs st=_
 rw[iY h0];refine CQ h1 hx (s1:=s) ?_ hv;have⟨g2,g3,g4,g5⟩:=XQ h1;rw[kL g4,kL g2,yn g3.1,th g3.2,xG g5];exact(mG hf hb hn hd).trans he
def TQ(o:Option (AV×St))(v:AV):Prop:=∃v1 s,o=So (v1,s)/\Fz 0 s v1 v
theorem CO(h0:G0 f=Ff)(h1:G1 f=Ff)(h4:G4 f=Ff)(h2:G2 f=Tt)(h7:f≠16)(hx:aA xs=Tt)(hf:π.funcs[f]? = So fn)(hb:fn.body=So code)(hn:xs.length<=fn.ntmps)(hv:aE v=Tt)
  (he:TQ (aJ c n fn code xs ay) v) (hd:defers 4 code=false:=by rfl):(Tw c (n+1)).call f xs st=So (v,st):=by
 have⟨v1,s,he,hz⟩:=he;rw[pd (.inr h7)];show(eT G0 fJ (eT G1 _ _)).call f xs st=_
 rw[iY h0,iY h1,kL h4];exact Ml h2 hx ((xG (XR h2)).trans ((mG hf hb hn hd).trans he)) hz hv
theorem wq(h0:G0 f=Ff)(h1:G1 f=Ff)(h4:G4 f=Ff)(h2:G2 f=Ff)(h3:G3 f=Tt)(h7:f≠16)(hf:π.funcs[f]? = So fn)(hb:fn.body=So code)(hn:xs.length<=fn.ntmps)
  (he:aJ c n fn code xs st=So (v1,s)) (hz:Fz st.next s v1 v) (hd:defers 4 code=false:=by rfl) (hw:f≠99:=by decide):(Tw c (n+1)).call f xs st=So (v,s.shut st.next):=by
 rw[pd (.inr h7)];show(eT G0 fJ (eT G1 _ _)).call f xs st=_
 rw[iY h0,iY h1,kL h4,kL h2];exact XL h3 (YE hw) ((th (NQ h3).2).trans ((xG (NQ h3).1).trans ((mG hf hb hn hd).trans he))) hz
def raw(c:Option Self)(n:Nat):Self:=uz ⟨ib π (Tw c n) n,λnt c' t st=>ao c' ⟨π,Tw c n,Tt,nt,n⟩ t st,ib π (Tw c n) n⟩
theorem abF(h:cF f=Ff)(hf:π.funcs[f]? = So fn)(hb:fn.body=So code)(hn:xs.length<=fn.ntmps)(hd:defers 4 code=false:=by rfl):(raw c n).call f xs st=aJ c n fn code xs st :=
 (SS h).trans (mG hf hb hn hd)
theorem BX(h7:f≠16)(h0:G0 f=Ff)(h1:G1 f=Ff)(h4:G4 f=Ff)(h2:G2 f=Ff)(h3:G3 f=Ff)(h5:f≠143)(h6:G5 f=false:=by rfl):(Tw c (n+1)).call f xs st=(raw c n).call f xs st:=by
 rw[pd (.inr h7)];show(eT G0 fJ (eT G1 _ _)).call f xs st=_
 rw[iY h0,iY h1,kL h4,kL h2,yn h3,th h6];show(mW _ _).call f _ st=_
 rw[lQ (NH h5)];rfl
theorem XG(h1:aA cells=Tt)(h2:cells.length=7)(h3:tg (raw c n) cells=So l):(Tw c (n+1)).call 143 [.ag cells] st=So (yU l st):=by
 rw[pd (.inr (by decide))];show(eT G0 fJ (eT G1 _ _)).call 143 _ st=_
 rw[iY rfl,iY rfl,kL rfl,kL rfl,yn rfl,th rfl];exact Ca (XD h1 h2 h3)
theorem UL(hx:da (lJ 146 xs st) st xs ys)(hf:π.funcs[146]? = So fn)(hb:fn.body=So code)(hn:ys.length<=fn.ntmps)(hd:defers 4 code=false:=by rfl):
  (Tw c (n+1)).call 146 xs st=aJ c n fn code ys (st.fT (lJ 146 xs st)):=by
 rw[pd (.inr (by decide))];show(eT G0 fJ (eT G1 _ _)).call 146 xs st=_
 rw[iY rfl,iY rfl,kL rfl,kL rfl,yn rfl,Ib rfl hx,xG rfl];exact mG hf hb hn hd
theorem UN(hf:π.funcs[99]? = So fn)(hb:fn.body=So code)(hn:xs.length<=fn.ntmps)(he:aJ c n fn code xs st=So (v1,s))(hz:di (mO pW 99 st.next v1 s) s v1 v)(hd:defers 4 code=false:=by rfl):
  (Tw c (n+1)).call 99 xs st=So (v,s.fT (mO pW 99 st.next v1 s)):=by
 rw[pd (.inr (by decide))];show(eT G0 fJ (eT G1 _ _)).call 99 xs st=_
 rw[iY rfl,iY rfl,kL rfl,kL rfl];exact NM rfl ((th rfl).trans ((xG rfl).trans ((mG hf hb hn hd).trans he))) hz
theorem YC(h:pD st)(h2:m<9223372036854775808):(Tw c (n+1)).call 37 [.i .i64 (m:Int)] st=So (.s (nQ m),st):=by rw[BX (by decide) rfl rfl rfl rfl rfl (by decide)];exact Ca (YA h h2)
theorem VR{es:List (AV×AV×Nat)}(h:st.get r=So (.mp es k)):(Tw c (n+1)).call 93 [.m r] st=So (.m st.next,st.new (.mp es k)):=by
 rw[BX (by decide) rfl rfl rfl rfl rfl (by decide)];show(mW _ _).call 93 _ st=_
 rw[lQ (AI (by decide))];exact Ca (VO h)
theorem VS(hf:π.funcs[93]? = So fn)(hb:fn.body=So code)(hn:xs.length<=fn.ntmps)(hx:xs=[.mn])(hd:defers 4 code=false:=by rfl):(Tw c (n+1)).call 93 xs st=aJ c n fn code xs st:=by
 rw[BX (by decide) rfl rfl rfl rfl rfl (by decide)];show(mW _ _).call 93 _ st=_
 subst hx;rw[lQ (AI (by decide)),lQ VP,lQ (JS (by decide)),lQ (RS (by decide))];exact mG hf hb hn hd
theorem acH{o z:Nat}{q:Option Nat}{ss:List Int}(h1:0<m)(h2:m<4611686018427387904)(h3:rd st r o m=So (ss.map iI))(h5:wt st r o ((xv ss).map iI)=So st'):(Tw c (n+1)).call 74 [.sl r o m z q] st=So (.tu [],st'):=by
 rw[BX (by decide) rfl rfl rfl rfl rfl (by decide)];show(mW _ _).call 74 _ st=_
 rw[lQ (AI (by decide)),lQ (Hn (by decide)),lQ (JS (by decide))];exact Ca (acA h1 h2 h3 rfl h5)
theorem Sp:(Tw c (n+1)).dcall f xs st=ib π (Tw c n) n f xs st:=by cases c<;>rfl
end
end
theorem acS:isStr π 9=true:=by kernel_rfl
def Gg(s:ae)(i:Nat):Prop:=∀j (h:j<s.length),j<i->33<=s[j]/\s[j]<=126
theorem ZD{s:ae}(h1:1<=s.length)(h2:s.length<=65536)(h:Gg s s.length):named s=true:=by unfold named;simp only[h1,h2,decide_true,X4,J4];intro b hb;obtain⟨j,hj,rfl⟩:=List.getElem_of_mem hb;have:=h j hj hj;grind
theorem ZC{s:ae}(hi:i<s.length)(h:¬(33<=s[i]/\s[i]<=126)):named s=false:=by grind[named,Q3]
theorem PJ{s:ae}(h:s.length<1\/65536<s.length):named s=false:=by grind[named]
theorem yB(s:ae)(hN:10000000000000000000<=N):(Tw c N).call 84 [.s s] st=So (.b (named s),st):=by
 cases N
 ·omega
 rename_i N;refine eS (X:=[]) rfl rfl (.inr (by decide)) (.pure rfl) func84 rfl (Q0 rfl) rfl ?_;unfold aJ;have ln:=λst:St=>Zc (st:=st) underlying9 s
 by_cases h1:s.length<1
 ·simp_all[PJ]
 ·have e1:¬(s.length:Int)<1:=by omega
  by_cases h2:65536<s.length
  ·have e2:(65536:Int)<(s.length:Int):=by omega
   rw[PJ (.inr h2)];simp[f84,ln,e1,e2]
  ·have e2:¬(65536:Int)<(s.length:Int):=by omega
   simp[f84,ln,e1,e2,ba];generalize hL:aQ _ _ _ _=L;have lr:=gV hL 0 s.length (λi t _=>ab t 0=.s s/\ab t 13=.i .i64 (s.length:Int)/\ab t 14=.i .i64 (i:Int)/\Gg s i) (λ_ _=>Gg s s.length) (λt _=>ab t 2=.b Ff/\named s=Ff) (by omega)
    ⟨by simp,by simp,by simp,λj hj h=>by omega⟩
    (by
     rintro i t st hi ⟨i0,i13,i14,iN⟩;have e3:(i:Int)<(s.length:Int):=by omega
     have e4:wr .i64 ((i:Int)+1)=((i+1:Nat):Int):=by rw[aP (by omega) (by omega)];rfl
     have ix:=Yj acS hi;by_cases hb:(33<=s[i]/\s[i]<=126)
     ·left;have e5:¬(s[i]:Int)<33:=by omega
      have e6:¬(126:Int)<(s[i]:Int):=by omega
      simp[i0,i13,i14,e3,ix,e5,e6,e4];intro j hj hji;by_cases hje:j=i
      ·subst hje;exact hb
      ·exact iN j hj (by omega)
     ·right;have hn:=ZC hi hb;by_cases h5:(s[i]:Int)<33
      ·simp[i0,i13,i14,e3,ix,h5];exact hn
      ·have h6:(126:Int)<(s[i]:Int):=by omega
       simp[i0,i13,i14,e3,ix,h5,h6];exact hn)
    (by rintro t st ⟨i0,i13,i14,iN⟩;simp[i13,i14];exact iN)
   clear hL;rcases lr with ⟨t1,s1,rfl,hT⟩|⟨t1,s1,rfl,hT,hF⟩
   ·rw[ZD (by omega) (by omega) hT];simp[bf,aO]
   simp_all[bf,aO]
theorem Yi(s:ae)(hv:cz v (l.map .s))(hl:l.length<=9223372036854775807)(hN:10000000000000000000<=N):
  ∃n:Int,(Tw c N).call 92 [v,.s s] st=So (.i .i64 n,st)/\(0<=n↔s∈l):=by
 cases N
 ·omega
 rename_i N;have hp:aA [v,.s s]=true:=by simp[aA,aE,hv.pure (kR l)]
 suffices h:∃n:Int,sP (aJ c N f92 (f92.body.getD .skip) [v,.s s] ay) (.i .i64 n)/\(0<=n↔s∈l) by have⟨n,h1,h2⟩:=h;exact⟨n,eS (X:=[]) rfl rfl (.inr (by decide)) (.pure hp) func92 rfl (Q0 rfl) rfl h1,h2⟩
 unfold aJ;have ln:=λst:St=>hv.sLen (st:=st) eL
 simp[f92,ln,ba];generalize hL:aQ _ _ _ _=L;have lr:=gV hL 0 l.length (λi t _=>ab t 0=v/\ab t 1=.s s/\ab t 7=.i .i64 (l.length:Int)/\ab t 8=.i .i64 (i:Int)/\s∉l.take i) (λ_ _=>s∉l) (λt _=>∃n:Nat,ab t 4=.i .i64 (n:Int)/\s∈l) (by omega)
  ⟨by simp,by simp,by simp,by simp,by simp⟩
  (by
   rintro i t st hi ⟨i0,i1,i7,i8,iN⟩;have e3:(i:Int)<(l.length:Int):=by omega
   have e4:wr .i64 ((i:Int)+1)=((i+1:Nat):Int):=by rw[aP (by omega) (by omega)];rfl
   have⟨a,ix,ld⟩:=hv.sat eL mF hi;by_cases hb:s=l[i]
   ·simp[i0,i1,i7,i8,e3,ix,ld,cV,hb];grind
   ·simp[i0,i1,i7,i8,e3,ix,ld,cV,hb,e4];rw[<-J5 hi,List.mem_append,not_or];exact⟨iN,by simpa using hb⟩)
  (by rintro t st ⟨i0,i1,i7,i8,iN⟩;simp[i7,i8];simpa using iN)
 rcases lr with ⟨t1,s1,rfl,hT⟩|⟨t1,s1,rfl,n,hT,hF⟩
 ·exact⟨-1,by simp[bf,aO],by simp[hT]⟩
 ·exact⟨n,by simp[hT],by simp[hF]⟩
theorem MJ(s:ae)(hv:cz v (l.map .s))(hl:l.length<=9223372036854775807)(hN:10000000000000000001<=N):
  (Tw c N).call 50 [v,.s s] st=So (.b (decide (s∈l)),st):=by
 cases N
 ·omega
 rename_i N;have hp:aA [v,.s s]=true:=by simp[aA,aE,hv.pure (kR l)]
 refine eS (X:=[]) rfl rfl (.inr (by decide)) (.pure hp) func50 rfl (Q0 rfl) rfl ?_;unfold aJ;have⟨n,h1,h2⟩:=Yi (c:=c) (st:=ay) s hv hl (N:=N) (by omega);simp[f50,h1,bf,aO,h2]
theorem mb:qH π 58 4 (.b Ff):=⟨⟨9,underlying58,underlying9⟩,by kernel_rfl⟩
def ig(l:List ae):ae->Option AV:=λx=>if x∈l then So (.b Tt) else No
theorem xh(l:List ae)(s:ae):upd (ig l) s (.b Tt)=ig (l++[s]):=by grind[upd,ig]
theorem yX(l:List ae)(s:ae):(ig l s).getD (.b Ff)=.b (decide (s∈l)):=by grind[ig]
theorem ZG(hi:i<l.length)(h:ez (l.take i)=Tt)(h1:named l[i]=Tt)(h2:l[i]∉l.take i):ez (l.take (i+1))=true:=by grind[J5,ez]
theorem ZE(hi:i<l.length)(h1:named l[i]=Ff):ez l=false:=by grind[ez]
theorem ZF(hi:i<l.length)(h1:l[i]∈l.take i):ez l=false:=by grind[ez,List.take_append_drop]
theorem Eh(hv:cz v (l.map .s))(hl:l.length<=9223372036854775807)(hN:10000000000000000001<=N):
  (Tw c N).call 47 [v] st=So (.b (ez l),st):=by
 cases N
 ·omega
 rename_i N;have hp:aA [v]=true:=by simp[aA,hv.pure (kR l)]
 refine eS (X:=[]) rfl rfl (.inr (by decide)) (.pure hp) func47 rfl (Q0 rfl) rfl ?_;unfold aJ;have ln:=λst:St=>hv.sLen (st:=st) eL
 simp[f47,ln,ba];have hm:=bZ.new ay;obtain⟨r,hr⟩:∃r,ay.next=r:=⟨_,rfl⟩;obtain⟨s0,hs0⟩:∃s,ay.new (.mp [] 0)=s:=⟨_,rfl⟩;rw[hr,hs0]at hm;rw[hr,hs0];generalize hL:aQ _ _ _ _=L;have lr:=gV hL 0 l.length (λi t s=>ab t 3=.m r/\ab t 7=v/\ab t 8=.i .i64 (l.length:Int)/\ab t 9=.i .i64 (i:Int)/\bZ s r (ig (l.take i))/\ez (l.take i)=Tt)
  (λ_ _=>ez l=Tt) (λt _=>ab t 2=.b Ff/\ez l=Ff) (by omega)
  ⟨by simp,by simp,by simp,by simp,hm,by simp[ez]⟩
  (by
   rintro i t s hi ⟨i3,i7,i8,i9,iM,iN⟩;have e3:(i:Int)<(l.length:Int):=by omega
   have e4:wr .i64 ((i:Int)+1)=((i+1:Nat):Int):=by rw[aP (by omega) (by omega)];rfl
   have⟨a,ix,ld⟩:=hv.sat eL mF hi;have nm:=λst:St=>yB (c:=c) (st:=st) l[i] (N:=N) (by omega)
   have lk:=iM.get mb l[i];rw[yX]at lk;obtain⟨s',u1,u2,-,-⟩:=iM.set mb l[i] (.b Tt);cases hn:named l[i] with
   |false=>right;simp[i7,i8,i9,e3,ix,ld,nm,hn];exact ZE hi hn
   |true=>
    by_cases hs:l[i]∈l.take i
    ·right;simp[i3,i7,i8,i9,e3,ix,ld,nm,hn,lk,hs];exact ZF hi hs
    ·left;simp[i3,i7,i8,i9,e3,e4,ix,ld,nm,hn,lk,hs,u1];rw[xh,J5 hi]at u2;exact⟨_,_,⟨rfl,rfl⟩,by simp[i3],by simp[i7],by simp[i8],by simp,u2,ZG hi iN hn hs⟩)
  (by rintro t s ⟨i3,i7,i8,i9,iM,iN⟩;simp[i8,i9];simpa using iN)
 clear hL;rcases lr with ⟨t1,s1,rfl,hT⟩|⟨t1,s1,rfl,hT,hF⟩
 ·rw[hT];simp[bf,aO]
 ·rw[hF];simp[hT]
def uy:Self:=yZ π (λS=>S) 199
def Kl:Option (AV×St):=(uy).call 139 [] ay
def D6:List (AV×AV)->Bool
 |[]=>Tt
 |(.s x,_)::es=>es.all (λe=>match e.1 with|.s y=>!leq x y|_=>Ff)&&D6 es
 |_=>Ff
def MY:AV->Bool
 |.ag [s,f]=>(lenOf s).isSome&&(!kO s&&(bR s&&bR f))
 |_=>Ff
def Sd:Option Row->Bool
 |some (.mu es)=>D6 es&&es.all (λe=>MY e.2)
 |_=>Ff
def Sc:Option (AV×St)->Bool
 |some (.m r,s)=>Sd (s.get r)
 |_=>Ff
theorem adf:Sc Kl=true:=by kernel_rfl
def Rp(s:St):St:=(s.aj [.sn,.fn0]).aG s.next [.sn,.fn0] s.next
def Qa:Option (AV×St):=match Kl with|some (_,s)=>(uy).call 140 [] (Rp s)|none=>No
def AM:List (AV×AV×Nat)->Bool
 |[]=>Tt
 |(.s _,.i .i64 _,_)::es=>AM es
 |_=>Ff
def EI:Option Row->Bool
 |some (.mp es _)=>AM es
 |_=>Ff
def Bi:Option (AV×St)->Bool
 |some (.m r,s)=>EI (s.get r)
 |_=>Ff
theorem aaJ:Bi Qa=true:=by kernel_rfl
theorem Iw:∀{a b:List Nat},leq a b=Tt↔a=b
 |[],[]=>by simp[leq]
 |[],_::_=>by simp[leq]
 |_::_,[]=>by simp[leq]
 |a::x,b::y=>by
  have ih:=Iw (a:=x) (b:=y);simp only[leq,bh];by_cases h:a=b
  ·simp[h,ih]
  ·simp[h]
theorem Nu{l:List Nat}:∀{es:List (AV×AV)},D6 es=Tt->(∃v,lE (.s l) es=So (So v)/\∃k,(k,v)∈es)\/(lE (.s l) es=So No)
 |[],_=>.inr rfl
 |(.s x,v)::es,h=>by
  simp only[D6,Q4]at h;have ih:=Nu (l:=l) h.2;have he:iu (.s l) (.s x)=So (leq l x):=rfl;by_cases hx:leq l x=Tt
  ·have hx':=Iw.1 hx;subst hx';have hnone:∀{fs:List (AV×AV)},fs.all (λe=>match e.1 with|.s y=>!leq l y|_=>Ff)=Tt->lE (.s l) fs=So none:=by
    intro fs;induction fs with
    |nil=>intro _;rfl
    |cons f fs ihf=>
     intro hall;rw[Z5,Q4]at hall;have⟨kf,vf⟩:=f;cases kf<;>first|(simp at hall;done)|skip
     rename_i y;have h1:leq l y=false:=by simpa using hall.1
     have e1:iu (.s l) (.s y)=So (leq l y):=rfl;simp only[lE,e1,h1];exact ihf hall.2
   left;refine⟨v,?_,.s l,List.mem_cons_self ..⟩;simp only[lE,he,hx,hnone h.1]
  ·have hx':leq l x=false:=by simpa using hx
   rcases ih with ⟨u,h1,k,h2⟩|h1
   ·left;refine⟨u,?_,k,List.mem_cons_of_mem _ h2⟩;simp only[lE,he,hx',h1]
   ·right;simp only[lE,he,hx',h1]
theorem Dy{l:List Nat}:∀{es:List (AV×AV×Nat)}{n:Nat},AM es=Tt->(∃i v,find (.s l) es n=So (So (i,.i .i64 v)))\/find (.s l) es n=So No
 |[],n,_=>.inr rfl
 |(.s x,.i .i64 v,c)::es,n,h=>by
  simp only[AM]at h;have he:iu (.s l) (.s x)=So (leq l x):=rfl;by_cases hx:leq l x=Tt
  ·left;exact⟨n,v,by simp only[find,he,hx]⟩
  ·have hx':leq l x=false:=by simpa using hx
   rcases Dy (l:=l) (n:=n+1) h with ⟨i,u,h1⟩|h1
   ·left;exact⟨i,u,by simp only[find,he,hx',h1]⟩
   ·right;simp only[find,he,hx',h1]
theorem KI:bt π 216=So [.sn,.fn0]:=by kernel_rfl
theorem aeq:zeroOf π 216=So (.ag [.sn,.fn0]):=by kernel_rfl
theorem aer:zeroOf π 3=So (.i .i64 0):=by kernel_rfl
@[simp] theorem Ik:aN π 216=true:=by kernel_rfl
theorem Ki:aq π 216=2:=by kernel_rfl
@[simp] theorem ago:bE π 216 0=So 0:=by kernel_rfl
@[simp] theorem Yq:aN π 50=true:=by kernel_rfl
@[simp] theorem aeE:cw π 50=false:=by kernel_rfl
theorem Xv(l:List Nat):ko π 218 (.s l)=true:=by kernel_rfl
theorem Xu(l:List Nat):ko π 66 (.s l)=true:=by kernel_rfl
theorem Pf{es:List (AV×AV)}{l:List Nat}(h:s.get r=So (.mu es)):lookup π 218 s (.m r) (.s l) Tt=match lE (.s l) es with|some (So v)=>So (.tu [v,.b Tt])|some No=>So (.tu [.ag [.sn,.fn0],.b Ff])|none=>none:=by unfold lookup;simp only[underlying218,aeq,h,Xv];rcases lE (.s l) es with _|_|v<;>rfl
theorem Iz{c:Nat}{es:List (AV×AV×Nat)}{l:List Nat}(h:s.get r=So (.mp es c)):lookup π 66 s (.m r) (.s l) Tt=match find (.s l) es 0 with|some (So (_,v))=>So (.tu [v,.b Tt])|some No=>So (.tu [.i .i64 0,.b Ff])|none=>none:=by unfold lookup;simp only[underlying66,aer,h,Xu];rcases find (.s l) es 0 with _|_|⟨i,v⟩<;>rfl
theorem Zb(h1:(lenOf v).isSome=Tt)(h2:kO v=Ff)(h:P.underlying ty=So (.slice e)):∃n:Nat,cP P st [ty] [v]=So (.i .i64 (n:Int),st):=by have⟨n,hn⟩:=Option.isSome_iff_exists.1 h1;exact⟨n,bg h hn h2⟩
@[simp] theorem aeR:bR .fn0=true:=rfl
theorem Kc(l:List Nat):∃n st',ib π (uy) 199 94 [.s l] ay=So (.i .i64 n,st'):=by
 have h1:=adf;unfold Sc at h1;split at h1<;>first|(cases h1;done)|skip
 rename_i r s htab;unfold Sd at h1;split at h1<;>first|(cases h1;done)|skip
 rename_i es hrow;rw[Q4]at h1;have⟨hk,hall⟩:=h1;have hT:(uy).call 139 [] ay=So (.m r,s):=htab;rw[mG func94 rfl (Q0 rfl)];rcases Nu hk with ⟨v,hv,k,hkv⟩|hv
 ·have hev:=J4.1 hall _ hkv;unfold MY at hev;split at hev<;>first|(cases hev;done)|skip
  rename_i sv fv heq;have hvv:v=.ag [sv,fv]:=heq;subst hvv;simp only[Q4,Bool.not_eq_true']at hev;have⟨e1,e2,e3,e4⟩:=hev;have hlk:=Pf (l:=l) hrow;rw[hv]at hlk;obtain⟨s2,w1,w2,-,-⟩:=bJ (s:=s) (z:=[.sn,.fn0]) (cells:=[sv,fv]) rfl (by simp[e3,e4]);have⟨n,hn⟩:=Zb (st:=s2) e1 e2 underlying50;refine⟨n,s2,?_⟩;simp[f94,hT,hlk,aB,KI,aC Ik Ki,w1,ai w2,hn]
 ·have hlk:=Pf (l:=l) hrow;rw[hv]at hlk;have hw:=c9 (bq (st:=s) [.sn,.fn0]) 0 [.sn,.fn0] (by simp) (by simp);have hs1:(s.aj [.sn,.fn0]).aG s.next (aW [.sn,.fn0] 0 [.sn,.fn0]) s.next=Rp s:=rfl;rw[hs1]at hw;have h2:=aaJ;unfold Bi Qa at h2;have htab':Kl=So (.m r,s):=htab;rw[htab']at h2;simp only at h2;split at h2<;>first|(cases h2;done)|skip
  rename_i r2 s2 hoth;unfold EI at h2;split at h2<;>first|(cases h2;done)|skip
  rename_i es2 c2 hrow2;have hl2:=Iz (l:=l) hrow2;rcases Dy (l:=l) (n:=0) h2 with ⟨i,n,hf⟩|hf
  ·rw[hf]at hl2;refine⟨n,s2,?_⟩;simp[f94,hT,hlk,aB,KI,aC Ik Ki,hw,hoth,hl2]
  ·rw[hf]at hl2;refine⟨-1,s2,?_⟩;simp[f94,hT,hlk,aB,KI,aC Ik Ki,hw,hoth,hl2]
def rU:Option (AV×St)->Option AV
 |some (v,_)=>So v
 |none=>No
theorem abW{o:Option (AV×St)}(h:rU o=So v):∃s,o=So (v,s):=by
 cases o with
 |none=>cases h
 |some p=>cases h;exact⟨_,rfl⟩
theorem abB:rU (fJ.call 83 [.i .i64 0] ay)=So (.i .i64 0):=by kernel_rfl
theorem abD:rU (fJ.call 83 [.i .i64 8] ay)=So (.i .i64 1):=by kernel_rfl
theorem abE:rU (fJ.call 83 [.i .i64 9] ay)=So (.i .i64 2):=by kernel_rfl
theorem abC:rU (fJ.call 83 [.i .i64 2] ay)=So (.i .i64 3):=by kernel_rfl
theorem wu{f:Nat}{X:List Nat}(h0:G0 f=Tt)(h7:f≠16)(hx:fY X st xs ys)(h:rU (fJ.call f ys ay)=So v)(hv:tJ v=Tt)(hN:1<=N):(Tw c N).call f xs st=So (v,st):=by
 cases N
 ·omega
 rename_i N;have⟨s,h⟩:=abW h;rw[pd (.inr h7)];exact CQ h0 hx h hv
def Jz(e:Int):Int:=if e=0 then 0 else if e=8 then 1 else if e=9 then 2 else 3
def vV(e:Int):Prop:=e=0\/e=8\/e=9\/e=2
theorem QN{e:Int}(he:vV e)(hN:1<=N):(Tw c N).call 83 [.i .i64 e] st=So (.i .i64 (Jz e),st):=by
 rcases he with rfl|rfl|rfl|rfl
 ·exact wu (X:=[]) rfl (by decide) (.pure rfl) abB rfl hN
 ·exact wu (X:=[]) rfl (by decide) (.pure rfl) abD rfl hN
 ·exact wu (X:=[]) rfl (by decide) (.pure rfl) abE rfl hN
 ·exact wu (X:=[]) rfl (by decide) (.pure rfl) abC rfl hN
def Js:Option (AV×St):=uy.call 137 [] ay
theorem QD:Bi Js=true:=by kernel_rfl
theorem CF(l:List Nat):∃n st',fJ.call 91 [.s l] ay=So (.i .i64 n,st'):=by
 show ∃n st',ib π uy 199 91 [.s l] ay=So (.i .i64 n,st')
 have h2:=QD;unfold Bi Js at h2;split at h2<;>first|(cases h2;done)|skip
 rename_i r2 s2 hoth;unfold EI at h2;split at h2<;>first|(cases h2;done)|skip
 rename_i es2 c2 hrow2;have hl2:=Iz (l:=l) hrow2;rw[mG func91 rfl (Q0 rfl)];rcases Dy (l:=l) (n:=0) h2 with ⟨i,n,hf⟩|hf
 ·rw[hf]at hl2;refine⟨n,s2,?_⟩;simp[f91,hoth,hl2]
 ·rw[hf]at hl2;refine⟨-1,s2,?_⟩;simp[f91,hoth,hl2]
def arF(l:ae):Int:=(CF l).choose
def strF(l:ae):Int:=(Kc l).choose
theorem LK(l:ae)(hN:1<=N):(Tw c N).call 91 [.s l] st=So (.i .i64 (arF l),st):=by have⟨s,h⟩:=(CF l).choose_spec;exact wu (X:=[]) rfl (by decide) (.pure rfl) (by rw[h];rfl) rfl hN
theorem Ka(l:ae)(hN:1<=N):(Tw c N).call 94 [.s l] st=So (.i .i64 (strF l),st):=by have⟨s,h⟩:=(Kc l).choose_spec;exact wu (X:=[]) rfl (by decide) (.pure rfl) (by rw[show fJ.call 94 [.s l] ay=_ from h];rfl) rfl hN
def P0(f:ae)(x:Nat):Bool:=match rU (fJ.call 135 [.s [x],.rp [.s f]] ay)with
 |some (.b y)=>y==f.contains x
 |_=>Ff
def tG:List ae:=[[110],[105],[110,97],[112,97],[97],[98,97],[97,99]]
theorem aab:(tG.all λf=>[110,105,112,98,97,99].all λx=>P0 f x)=true:=by kernel_rfl
theorem wS{f:ae}(hf:f∈tG){x:Nat}(hx:x∈[110,105,112,98,97,99]){r:AV}{X:List Nat}(hr:im X st r (.rp [.s f]))(hN:1<=N):(Tw c N).call 135 [.s [x],r] st=So (.b (f.contains x),st):=by
 have h:=J4.1 (J4.1 aab f hf) x hx;unfold P0 at h;split at h
 ·rename_i y hy;have:y=f.contains x:=by simpa using h
  subst this;exact wu (X:=X) rfl (by decide) (.cons (.pure rfl) (.cons hr .nil)) hy rfl hN
 ·cases h
structure F4(s:St)(p:Nat)(cl:List AV)(k:Int)(nm:List Nat)(b a l:aa):Prop where
 kd:rd s p 0 1=So [.i .i64 k]
 nm:rd s p 1 1=So [.s nm]
 b:rd s p 4 1=So [b.slice 8]
 a:rd s p 5 1=So [a.slice 7]
 l:rd s p 6 1=So [l.slice 11]
 all:rd s p 0 7=So cl
theorem ju{p:Nat}{k:Int}{l:aa}{g:Nat}{al:List Nat}(hc:s.ce p=So ((Ex.mk k nm num ps b a l).cells,g,al)):F4 s p (Ex.mk k nm num ps b a l).cells k nm b a l:=by exact⟨by rw[ai hc];rfl,by rw[ai hc];rfl,by rw[ai hc];rfl,by rw[ai hc];rfl,by rw[ai hc];rfl,by rw[ai hc];rfl⟩
theorem GG(x:Ex)(n:Nat):(Tw c (n+1)).call 53 [.ag x.cells] st=So (.b x.atom,st.aj x.cells):=by
 rw[dV rfl func53 rfl (Q0 rfl)];unfold aJ;have⟨k,nm,num,ps,b,a,l⟩:=x;have hc:=ju (bq (st:=st) (Ex.mk k nm num ps b a l).cells);unfold Ex.atom sU Ex.kind;generalize (Ex.mk k nm num ps b a l).cells=cl at*;by_cases h1:k=1
 ·simp[f53,hc.kd,h1]
 ·by_cases h2:k=2
  ·simp[f53,hc.kd,h2]
  ·simp[f53,hc.kd,h1,h2]
def fm(strF:List Nat->Int)(k:Int)(nm:List Nat)(n:Nat):Int:=if k=4 then 0 else if k=6 then 1 else if k=9 then((strF nm).toNat:Int) else(n:Int)
def mM(strF:List Nat->Int)(k:Int)(nm:List Nat)(n:Nat):Int:=if k=5\/k=7\/k=8 then 1 else fm strF k nm n
theorem R3(k:Int)(nm:List Nat)(num:Int)(ps:AV)(b a l:aa)(n:Nat):
  (Tw c (n+2)).call 52 [.ag (Ex.mk k nm num ps b a l).cells] st=So (.i .i64 (fm strF k nm a.len),st.aj (Ex.mk k nm num ps b a l).cells):=by
 rw[dV rfl func52 rfl (Q0 rfl)];unfold aJ;have hc:=ju (bq (st:=st) (Ex.mk k nm num ps b a l).cells);generalize (Ex.mk k nm num ps b a l).cells=cl at*;unfold fm;by_cases h1:k=4
 ·simp[f52,hc.kd,h1]
 ·by_cases h2:k=6
  ·simp[f52,hc.kd,h2]
  ·by_cases h3:k=9
   ·simp[f52,hc.kd,hc.nm,h3,λ(st:St) (l:ae)=>Ka (c:=c) (st:=st) l (N:=n+1) (by omega),max_zero]
   ·simp[f52,hc.kd,hc.a,h1,h2,h3,bg underlying44 (a.bU 7) (a.bV 7)]
theorem Xs(k:Int)(nm:List Nat)(num:Int)(ps:AV)(b a l:aa)(n:Nat):
  ∃st',(Tw c (n+3)).call 95 [.ag (Ex.mk k nm num ps b a l).cells] st=So (.i .i64 (mM strF k nm a.len),st')/\Kp [] [] st st':=by
 have hs:=R3 (c:=c) (st:=st.aj (Ex.mk k nm num ps b a l).cells) k nm num ps b a l n;have hc:=ju (bq (st:=st) (Ex.mk k nm num ps b a l).cells);rw[dV rfl func95 rfl (Q0 rfl)];unfold aJ;generalize (Ex.mk k nm num ps b a l).cells=cl at*;unfold mM;by_cases h1:k=5
 ·refine⟨_,?_,.aj _ _ cl⟩;simp[f95,hc.kd,h1]
 ·by_cases h2:k=7
  ·refine⟨_,?_,.aj _ _ cl⟩;simp[f95,hc.kd,h2]
  ·by_cases h3:k=8
   ·refine⟨_,?_,.aj _ _ cl⟩;simp[f95,hc.kd,h3]
   ·refine⟨_,?_,(Kp.aj _ _ cl).trans (.aj _ _ cl)⟩;simp[f95,aX,hc.kd,hc.all,h1,h2,h3,hs]
structure Tj(n base most:Nat)(L:List (List AV×Ex))(i m:Nat):Prop where
 lo:n<m
 hi:m<=max n most+1
 eq:m<=most->m=base+dM L i
def xQ(v:AV)(n base most:Nat)(L:List (List AV×Ex))(i:Nat):Prop:=∃m:Nat,v=.i .i64 (m:Int)/\Tj n base most L i m
def Tn(c:Option Self)(x:Ex):Prop:=x.Wf->∀(n most:Nat) (st:St) (N:Nat),x.size+5<=N->n<=1000000000->most<=1000000000->
 ∃(m:Nat) (st':St),(Tw c N).call 41 [.ag x.cells,.i .i64 (n:Int),.i .i64 (most:Int)] st=So (.i .i64 (m:Int),st')/\Kp [] [] st st'/\n<m/\m<=max n most+1/\(m<=most->m=n+x.size)
theorem VV:∀x,Tn c x:=by
 refine Ex.ind λk nm num ps b a l hb ha hl=>?_
 intro hwf n most st N hN hn hm;simp only[Ex.Wf]at hwf;obtain⟨-,⟨pb,pa,pl⟩,⟨wb,wa,wl⟩,-⟩:=hwf;cases N
 ·omega
 rename_i N;have hsz:(Ex.mk k nm num ps b a l).size=1+b.size+a.size+l.size:=by simp only[Ex.size]
 rw[hsz]at hN;rw[dV rfl func41 rfl (Q0 rfl)];unfold aJ;have hce:=bq (st:=st) (Ex.mk k nm num ps b a l).cells;have hp:st.next<(st.aj (Ex.mk k nm num ps b a l).cells).next:=Q1 _;have k0:Kp [] [] st (st.aj (Ex.mk k nm num ps b a l).cells):=.aj _ _ _;obtain⟨s0,hs0⟩:∃s0,st.aj (Ex.mk k nm num ps b a l).cells=s0:=⟨_,rfl⟩;rw[hs0]at k0 hp hce;have at1:∀{s:St},Kp [] [] s0 s->F4 s st.next (Ex.mk k nm num ps b a l).cells k nm b a l:=λkk=>ju (kk.ce hce hp hp (by simp) (by simp))
 have e1:wr .i64 ((n:Int)+1)=((n+1:Nat):Int):=by rw[aP (by omega) (by omega)];rfl
 simp[f41,e1,hs0,ba];generalize hL:aQ _ _ _ _=Lo;obtain⟨t1,s1,rfl,a1,b1,c1,d1⟩:=AS hL 0 a.list.length
  (λi t s=>ab t 2=.i .i64 (most:Int)/\ab t 3=.p st.next 0/\ab t 7=.i .i64 (i:Int)/\Kp [] [] s0 s/\xQ (ab t 1) n (n+1) most a.list i)
  (λt s=>ab t 2=.i .i64 (most:Int)/\ab t 3=.p st.next 0/\Kp [] [] s0 s/\xQ (ab t 1) n (n+1) most a.list a.list.length)
  (by rw[<-aa.aF];have:=a.cq;omega)
  ⟨by simp,by simp,by simp,.refl _ _ _,n+1,by simp,Q1 _,by omega,λ_=>by rw[mv]⟩
  (by
   rintro i t s hi ⟨i2,i3,i7,iK,m,i1,iC⟩;have hx:=at1 iK;have hil:i<a.len:=by rw[aa.aF];exact hi
   have e5:(i:Int)<(a.len:Int):=by omega
   have vl:=λst:St=>bg (st:=st) underlying44 (a.bU 7) (a.bV 7)
   by_cases hm':m<=most
   ·left;have e6:(m:Int)<=(most:Int):=by omega
    have e7:wr .i64 ((i:Int)+1)=((i+1:Nat):Int):=by have:=qh a.list i (by omega);have:=iC.eq hm';rw[aP (by omega) (by omega)];rfl
    have⟨r,r1,r2⟩:=eK pa (show 0+7=7 from rfl) hi;have ix:=dP underlying44 cM aX a.flat a.len i hil;rw[<-aa.dR hil,r1,Z6 r2,Z7]at ix;have hmem:=Q3 hi;have hsz':=aa.dX hmem;have⟨m',s',g1,g2,g3,g4,g5⟩:=ha _ hmem (aa.sq wa _ hmem).1 m most s N (by omega) (by have:=iC.hi;omega) hm;have hd:True:=trivial;simp[i1,i2,i3,i7,hx.a,vl,e5,e6,ix,aX,pc,g1,e7];refine⟨_,_,⟨rfl,rfl⟩,by simp[i2],by simp[i3],by simp,iK.trans g2,m',by simp,⟨by have:=iC.lo;omega,by have:=iC.hi;omega,λh=>?_⟩⟩;rw[gX hi,g5 h,iC.eq hm'];omega
   ·right;have e6:¬(m:Int)<=(most:Int):=by omega
    simp[i1,i2,i3,i7,hx.a,vl,e5,e6];exact⟨_,_,⟨rfl,rfl⟩,by simp[i2],by simp[i3],iK,m,by simp[i1],iC.lo,iC.hi,λh=>absurd h hm'⟩)
  (by
   rintro t s ⟨i2,i3,i7,iK,m,i1,iC⟩;have hx:=at1 iK;have vl:=λst:St=>bg (st:=st) underlying44 (a.bU 7) (a.bV 7)
   simp[i3,i7,hx.a,vl,aa.aF];exact⟨_,_,⟨rfl,rfl⟩,by simp[i2],by simp[i3],iK,m,by simp[i1],iC⟩)
 clear hL;have⟨m1,u1,v1⟩:=d1;simp[ba];generalize hL:aQ _ _ _ _=Lo;obtain⟨t2,s2,rfl,a2,b2,c2,d2⟩:=AS hL 2 b.list.length
  (λi t s=>ab t 2=.i .i64 (most:Int)/\ab t 3=.p st.next 0/\ab t 8=.i .i64 (i:Int)/\Kp [] [] s0 s/\xQ (ab t 1) n (n+1+a.size) most b.list i)
  (λt s=>ab t 2=.i .i64 (most:Int)/\ab t 3=.p st.next 0/\Kp [] [] s0 s/\xQ (ab t 1) n (n+1+a.size) most b.list b.list.length)
  (by rw[<-aa.aF];have:=b.cq;omega)
  ⟨by simp[a1],by simp[b1],by simp,c1,m1,by simp[u1],v1.lo,v1.hi,λh=>by rw[mv,v1.eq h,mq];rfl⟩
  (by
   rintro i t s hi ⟨i2,i3,i7,iK,m,i1,iC⟩;have hx:=at1 iK;have hil:i<b.len:=by rw[aa.aF];exact hi
   have e5:(i:Int)<(b.len:Int):=by omega
   have vl:=λst:St=>bg (st:=st) underlying23 (b.bU 8) (b.bV 8)
   by_cases hm':m<=most
   ·left;have e6:(m:Int)<=(most:Int):=by omega
    have e7:wr .i64 ((i:Int)+1)=((i+1:Nat):Int):=by have:=qh b.list i (by omega);have:=iC.eq hm';rw[aP (by omega) (by omega)];rfl
    have⟨r,r1,r2⟩:=eK pb (show 1+7=8 from rfl) hi;have ix:=dP (P:=π) underlying23 dc cK b.flat b.len i hil;rw[<-aa.dR hil,r1]at ix;have hmem:=Q3 hi;have hsz':=aa.dX hmem;have⟨m',s',g1,g2,g3,g4,g5⟩:=hb _ hmem (aa.sq wb _ hmem).1 m most s N (by omega) (by have:=iC.hi;omega) hm;have hd:(b.list[i].1++(b.list[i].2.cells++r)).drop 1=b.list[i].2.cells++r:=by rw[Q7,r2];simp[r2,Q8]
    simp[i1,i2,i3,i7,hx.b,vl,e5,e6,ix,hd,aX,pc,g1,e7];refine⟨_,_,⟨rfl,rfl⟩,by simp[i2],by simp[i3],by simp,iK.trans g2,m',by simp,⟨by have:=iC.lo;omega,by have:=iC.hi;omega,λh=>?_⟩⟩;rw[gX hi,g5 h,iC.eq hm'];omega
   ·right;have e6:¬(m:Int)<=(most:Int):=by omega
    simp[i1,i2,i3,i7,hx.b,vl,e5,e6];exact⟨_,_,⟨rfl,rfl⟩,by simp[i2],by simp[i3],iK,m,by simp[i1],iC.lo,iC.hi,λh=>absurd h hm'⟩)
  (by
   rintro t s ⟨i2,i3,i7,iK,m,i1,iC⟩;have hx:=at1 iK;have vl:=λst:St=>bg (st:=st) underlying23 (b.bU 8) (b.bV 8)
   simp[i3,i7,hx.b,vl,aa.aF];exact⟨_,_,⟨rfl,rfl⟩,by simp[i2],by simp[i3],iK,m,by simp[i1],iC⟩)
 clear hL;have⟨m2,u2,v2⟩:=d2;simp[ba];generalize hL:aQ _ _ _ _=Lo;obtain⟨t3,s3,rfl,a3,b3,c3,d3⟩:=AS hL 4 l.list.length
  (λi t s=>ab t 2=.i .i64 (most:Int)/\ab t 3=.p st.next 0/\ab t 9=.i .i64 (i:Int)/\Kp [] [] s0 s/\xQ (ab t 1) n (n+1+a.size+b.size) most l.list i)
  (λt s=>ab t 2=.i .i64 (most:Int)/\ab t 3=.p st.next 0/\Kp [] [] s0 s/\xQ (ab t 1) n (n+1+a.size+b.size) most l.list l.list.length)
  (by rw[<-aa.aF];have:=l.cq;omega)
  ⟨by simp[a2],by simp[b2],by simp,c2,m2,by simp[u2],v2.lo,v2.hi,λh=>by rw[mv,v2.eq h,mq];rfl⟩
  (by
   rintro i t s hi ⟨i2,i3,i7,iK,m,i1,iC⟩;have hx:=at1 iK;have hil:i<l.len:=by rw[aa.aF];exact hi
   have e5:(i:Int)<(l.len:Int):=by omega
   have vl:=λst:St=>bg (st:=st) underlying45 (l.bU 11) (l.bV 11)
   by_cases hm':m<=most
   ·left;have e6:(m:Int)<=(most:Int):=by omega
    have e7:wr .i64 ((i:Int)+1)=((i+1:Nat):Int):=by have:=qh l.list i (by omega);have:=iC.eq hm';rw[aP (by omega) (by omega)];rfl
    have⟨r,r1,r2⟩:=eK pl (show 4+7=11 from rfl) hi;have ix:=dP (P:=π) underlying45 bQ bL l.flat l.len i hil;rw[<-aa.dR hil,r1]at ix;have hmem:=Q3 hi;have hsz':=aa.dX hmem;have⟨m',s',g1,g2,g3,g4,g5⟩:=hl _ hmem (aa.sq wl _ hmem).1 m most s N (by omega) (by have:=iC.hi;omega) hm;have hd:(l.list[i].1++(l.list[i].2.cells++r)).drop 4=l.list[i].2.cells++r:=by rw[Q7,r2];simp[r2,Q8]
    simp[i1,i2,i3,i7,hx.l,vl,e5,e6,ix,hd,aX,pc,g1,e7];refine⟨_,_,⟨rfl,rfl⟩,by simp[i2],by simp[i3],by simp,iK.trans g2,m',by simp,⟨by have:=iC.lo;omega,by have:=iC.hi;omega,λh=>?_⟩⟩;rw[gX hi,g5 h,iC.eq hm'];omega
   ·right;have e6:¬(m:Int)<=(most:Int):=by omega
    simp[i1,i2,i3,i7,hx.l,vl,e5,e6];exact⟨_,_,⟨rfl,rfl⟩,by simp[i2],by simp[i3],iK,m,by simp[i1],iC.lo,iC.hi,λh=>absurd h hm'⟩)
  (by
   rintro t s ⟨i2,i3,i7,iK,m,i1,iC⟩;have hx:=at1 iK;have vl:=λst:St=>bg (st:=st) underlying45 (l.bU 11) (l.bV 11)
   simp[i3,i7,hx.l,vl,aa.aF];exact⟨_,_,⟨rfl,rfl⟩,by simp[i2],by simp[i3],iK,m,by simp[i1],iC⟩)
 clear hL;have⟨m3,u3,v3⟩:=d3;refine⟨m3,s3,?_,k0.trans c3,v3.lo,v3.hi,λh=>?_⟩
 ·simp[u3]
 ·rw[v3.eq h,mq,hsz];omega
def sN(st:St)(cr:Nat)(v:AV)(x:Ex):Prop:=(∃r,v=.rp (x.cells++r))\/∃p al,v=.p p 0/\st.ce p=So (x.cells,p,al)/\p<st.next/\p≠cr
def qv(st:St)(cr n:Nat):Prop:=(∃al d,st.ce cr=So ([.i .i64 (n:Int),.b d],cr,al))/\cr<st.next
def xV(L:List (List AV×Ex))(i at1:Nat):Prop:=∀j (h:j<L.length),j<i->at1+1+L[j].2.depth<=4097
theorem sN.kp(h:sN st cr v x)(k:Kp [cr] [cr] st st'):sN st' cr v x:=by
 rcases h with h|⟨p,al,rfl,h1,h2,h3⟩
 ·exact .inl h
 ·exact .inr ⟨p,al,rfl,k.ce h1 h2 h2 (by grind) (by grind),Q9 h2 k.next,h3⟩
theorem sN.nn(h:sN st cr v x):notNil st v=So (v,st):=by rcases h with ⟨r,rfl⟩|⟨p,al,rfl,-⟩<;>rfl
theorem QE{k:Int}{l:aa}(h:sN st cr v (.mk k nm num ps b a l)):∃ad,fieldAt 5 st v=So (ad,st)/\loadAt π 44 st ad=So (a.slice 7):=by
 rcases h with ⟨r,rfl⟩|⟨p,al,rfl,h1,-⟩
 ·refine⟨_,rfl,?_⟩;rw[wN AG Lr];rfl
 ·refine⟨_,rfl,?_⟩;rw[ry AG Lr,Q6,(ju h1).a];rfl
theorem QF{k:Int}{l:aa}(h:sN st cr v (.mk k nm num ps b a l)):∃ad,fieldAt 4 st v=So (ad,st)/\loadAt π 23 st ad=So (b.slice 8):=by
 rcases h with ⟨r,rfl⟩|⟨p,al,rfl,h1,-⟩
 ·refine⟨_,rfl,?_⟩;rw[wN yt Lq];rfl
 ·refine⟨_,rfl,?_⟩;rw[ry yt Lq,Q6,(ju h1).b];rfl
theorem QG{k:Int}{l:aa}(h:sN st cr v (.mk k nm num ps b a l)):∃ad,fieldAt 6 st v=So (ad,st)/\loadAt π 45 st ad=So (l.slice 11):=by
 rcases h with ⟨r,rfl⟩|⟨p,al,rfl,h1,-⟩
 ·refine⟨_,rfl,?_⟩;rw[wN DP Ls];rfl
 ·refine⟨_,rfl,?_⟩;rw[ry DP Ls,Q6,(ju h1).l];rfl
def Stop(s:St)(cr n at1:Nat)(x:Ex):Prop:=∃n',qv s cr n'/\n<=n'/\n'<=n+x.size/\¬(at1+x.depth<=4097/\n+x.size<=1048576)
structure Tm(x:Ex)(n at1:Nat)(b:Bool)(n':Nat):Prop where
 lo:n<=n'
 hi:n'<=n+x.size
 yes:b=Tt->n'=n+x.size/\at1+x.depth<=4097/\n+x.size<=1048576
 fit:at1+x.depth<=4097->n+x.size<=1048576->b=Tt
def xR(o:Option (AV×St))(st:St)(cr n at1:Nat)(x:Ex):Prop:=∃(b:Bool) (n':Nat) (st':St),o=So (.b b,st')/\qv st' cr n'/\Kp [cr] [cr] st st'/\Tm x n at1 b n'
def Tl(c:Option Self)(x:Ex):Prop:=x.Wf->∀(cr n at1:Nat) (st:St) (v:AV) (N:Nat),x.size+5<=N->n+x.size<=1000000000->at1<=1000000->qv st cr n->sN st cr v x->
 xR ((Tw c N).call 81 [.p cr 0,v,.i .i64 (at1:Int)] st) st cr n at1 x
theorem MK:∀x,Tl c x:=by
 refine Ex.ind λk nm num ps b a l hb ha hl=>?_
 intro hwf cr n at1 st v N hN hn hat hC hP;simp only[Ex.Wf]at hwf;obtain⟨-,⟨pb,pa,pl⟩,⟨wb,wa,wl⟩,-⟩:=hwf;cases N
 ·omega
 rename_i N;have hsz:(Ex.mk k nm num ps b a l).size=1+b.size+a.size+l.size:=by simp only[Ex.size]
 have hdp:(Ex.mk k nm num ps b a l).depth=1+max b.depth (max a.depth l.depth):=by simp only[Ex.depth]
 rw[hsz]at hN hn;rw[dV rfl func81 rfl (Q0 rfl)];unfold aJ;have⟨⟨al,d,hc⟩,hlt⟩:=hC;have e1:wr .i64 ((n:Int)+1)=((n+1:Nat):Int):=by rw[aP (by omega) (by omega)];rfl
 have e2:wr .i64 ((at1:Int)+1)=((at1+1:Nat):Int):=by rw[aP (by omega) (by omega)];rfl
 obtain⟨s0,hs0⟩:∃s0,st.aG cr [.i .i64 ((n+1:Nat):Int),.b d] cr=s0:=⟨_,rfl⟩;have hc0:s0.ce cr=So ([.i .i64 ((n+1:Nat):Int),.b d],cr,[cr]):=by rw[<-hs0];exact dA _ _ _
 have k0:Kp [cr] [cr] st s0:=by rw[<-hs0];exact .aG (by simp) (by simp)
 have hlt0:cr<s0.next:=Q9 hlt k0.next;have hs0':st.aG cr [.i .i64 ((n:Int)+1),.b d] cr=s0:=hs0;have e1':wr .i64 ((n:Int)+1)=(n:Int)+1:=e1;by_cases hbad:4096<at1\/1048576<n+1
 ·obtain⟨s1,hs1⟩:∃s1,s0.aG cr [.i .i64 ((n+1:Nat):Int),.b Tt] cr=s1:=⟨_,rfl⟩;have hs1':s0.aG cr [.i .i64 ((n:Int)+1),.b Tt] cr=s1:=hs1;unfold xR;refine⟨Ff,n+1,s1,?_,⟨⟨[cr],Tt,by rw[<-hs1];exact dA _ _ _⟩,by rw[<-hs1];exact hlt0⟩,k0.trans (by rw[<-hs1];exact .aG (by simp) (by simp)),⟨by omega,by rw[hsz];omega,λh=>(by cases h),λh1 h2=>?_⟩⟩
  ·by_cases h4:4096<at1
   ·have e3:(4096:Int)<(at1:Int):=by omega
    simp[f81,ai hc,e1',bN dW eY,c9 hc,hs0',e3,bN On Sa,c9 hc0,hs1']
   ·have e3:¬(4096:Int)<(at1:Int):=by omega
    have e4:(1048576:Int)<(n:Int)+1:=by omega
    simp[f81,ai hc,ai hc0,e1',bN dW eY,c9 hc,hs0',e3,e4,bN On Sa,c9 hc0,hs1']
  ·rw[hsz]at h2;rw[hdp]at h1;omega
 ·have e3:¬(4096:Int)<(at1:Int):=by omega
  have e4:¬(1048576:Int)<(n:Int)+1:=by omega
  have hP0:=hP.kp k0;have⟨ad,f1,f2⟩:=QE hP0;simp[f81,ai hc,ai hc0,e1',bN dW eY,c9 hc,hs0',e3,e4,hP0.nn,f1,f2,bg underlying44 (a.bU 7) (a.bV 7),ba];generalize hL:aQ _ _ _ _=Lo;have step1:_:=gV hL 0 a.list.length
   (λi t s=>ab t 0=.p cr 0/\ab t 1=v/\ab t 2=.i .i64 (at1:Int)/\ab t 33=.i .i64 (a.len:Int)/\ab t 34=.i .i64 (i:Int)/\Kp [cr] [cr] st s/\qv s cr (n+1+dM a.list i)/\n+1+dM a.list i<=1048576/\xV a.list i at1)
   (λt s=>ab t 0=.p cr 0/\ab t 1=v/\ab t 2=.i .i64 (at1:Int)/\Kp [cr] [cr] st s/\qv s cr (n+1+a.size)/\n+1+a.size<=1048576/\xV a.list a.list.length at1)
   (λt s=>ab t 6=.b Ff/\Kp [cr] [cr] st s/\Stop s cr n at1 (.mk k nm num ps b a l))
   (by rw[<-aa.aF];have:=a.cq;omega)
   ⟨by simp,by simp,by simp,by simp,by simp,k0,⟨⟨_,_,by rw[mv];exact hc0⟩,hlt0⟩,by rw[mv];omega,λj hj h=>by omega⟩
   (by
    rintro i t s hi ⟨i0,i1,i2,i3,i4,iK,iC,iB,iS⟩;have hil:i<a.len:=by rw[aa.aF];exact hi
    have hi2:=qh a.list i (by omega);have e5:(i:Int)<(a.len:Int):=by omega
    have e7:wr .i64 ((i:Int)+1)=((i+1:Nat):Int):=by rw[aP (by omega) (by omega)];rfl
    have⟨r,r1,r2⟩:=eK pa (show 0+7=7 from rfl) hi;have ix:=dP underlying44 cM aX a.flat a.len i hil;rw[<-aa.dR hil,r1,Z6 r2,Z7]at ix;have hmem:=Q3 hi;have hsz':=aa.dX hmem;have hdp':=aa.tc hmem;have hsum:dM a.list (i+1)<=a.size:=by
     rw[<-mq];have key:∀j,j<=a.list.length->∀i,i<=j->dM a.list i<=dM a.list j:=by
      intro j;induction j with
      |zero=>intro _ i hi;rw[Z8.1 hi];exact Q2 _
      |succ j ihj=>
       intro hj i hij;rcases Z9 i (j+1)with h|h
       ·have:=ihj (by omega) i (by omega);rw[gX (by omega:j<a.list.length)];omega
       ·rw[K8 hij h];exact Q2 _
     exact key _ (Q2 _) _ hi
    rw[gX hi]at hsum;have hPs:=hP.kp iK;have⟨ad,f1,f2⟩:=QE hPs;have hd:True:=trivial;have⟨bb,n',s',g1,g2,g3,g4⟩:=ha _ hmem (aa.sq wa _ hmem).1 cr (n+1+dM a.list i) (at1+1) s (.rp (a.list[i].2.cells++r)) N (by omega) (by omega) (by omega) iC (.inl ⟨r,rfl⟩);rw[show((at1+1:Nat):Int)=(at1:Int)+1 from rfl]at g1;cases bb with
    |true=>
     left;have⟨y1,y2,y3⟩:=g4.yes rfl;simp[i0,i1,i2,i3,i4,e2,e5,e7,hPs.nn,f1,f2,ix,g1];refine⟨_,_,⟨rfl,rfl⟩,by simp[i0],by simp[i1],by simp[i2],by simp[i3],by simp,iK.trans g3,?_,?_,λj hj hji=>?_⟩
     ·rw[gX hi,<-V0,<-y1];exact g2
     ·rw[gX hi];omega
     ·by_cases hje:j=i
      ·subst hje;exact y2
      ·exact iS j hj (by omega)
    |false=>
     right;simp[i0,i1,i2,i3,i4,e2,e5,hPs.nn,f1,f2,ix,g1];refine⟨_,_,⟨rfl,rfl⟩,by simp,iK.trans g3,n',g2,?_,?_,?_⟩
     ·have:=g4.lo;omega
     ·rw[hsz];have:=g4.hi;omega
     ·rintro⟨z1,z2⟩;rw[hdp]at z1;rw[hsz]at z2;have:=g4.fit (by omega) (by omega);cases this)
   (by rintro t s ⟨i0,i1,i2,i3,i4,iK,iC,iB,iS⟩;rw[mq]at iC iB;simp[i3,i4,aa.aF];exact⟨_,_,⟨rfl,rfl⟩,by simp[i0],by simp[i1],by simp[i2],iK,iC,iB,iS⟩)
  clear hL;rcases step1 with ⟨t1,s1,rfl,p0,p1,p2,pK,pC,pB,pS⟩|⟨t1,s1,rfl,q6,qK,n',qC,q1,q2,q3⟩
  case inr=>unfold xR;refine⟨Ff,n',s1,?_,qC,qK,⟨q1,q2,λh=>(by cases h),λh1 h2=>absurd ⟨h1,h2⟩ q3⟩⟩;simp[q6]
  case inl=>
  have hP1:=hP.kp pK;have⟨ad1,f3,f4⟩:=QF hP1;simp[p1,hP1.nn,f3,f4,bg underlying23 (b.bU 8) (b.bV 8),ba];generalize hL:aQ _ _ _ _=Lo;have step2:_:=gV hL 2 b.list.length
   (λi t s=>ab t 0=.p cr 0/\ab t 1=v/\ab t 2=.i .i64 (at1:Int)/\ab t 53=.i .i64 (b.len:Int)/\ab t 54=.i .i64 (i:Int)/\Kp [cr] [cr] st s/\qv s cr (n+1+a.size+dM b.list i)/\n+1+a.size+dM b.list i<=1048576/\xV b.list i at1)
   (λt s=>ab t 0=.p cr 0/\ab t 1=v/\ab t 2=.i .i64 (at1:Int)/\Kp [cr] [cr] st s/\qv s cr (n+1+a.size+b.size)/\n+1+a.size+b.size<=1048576/\xV b.list b.list.length at1)
   (λt s=>ab t 6=.b Ff/\Kp [cr] [cr] st s/\Stop s cr n at1 (.mk k nm num ps b a l))
   (by rw[<-aa.aF];have:=b.cq;omega)
   ⟨by simp[p0],by simp[p1],by simp[p2],by simp,by simp,pK,by rw[mv];exact pC,by rw[mv];exact pB,λj hj h=>by omega⟩
   (by
    rintro i t s hi ⟨i0,i1,i2,i3,i4,iK,iC,iB,iS⟩;have hil:i<b.len:=by rw[aa.aF];exact hi
    have hi2:=qh b.list i (by omega);have e5:(i:Int)<(b.len:Int):=by omega
    have e7:wr .i64 ((i:Int)+1)=((i+1:Nat):Int):=by rw[aP (by omega) (by omega)];rfl
    have⟨r,r1,r2⟩:=eK pb (show 1+7=8 from rfl) hi;have ix:=dP underlying23 dc cK b.flat b.len i hil;rw[<-aa.dR hil,r1]at ix;have hmem:=Q3 hi;have hsz':=aa.dX hmem;have hdp':=aa.tc hmem;have hsum:dM b.list (i+1)<=b.size:=by
     rw[<-mq];have key:∀j,j<=b.list.length->∀i,i<=j->dM b.list i<=dM b.list j:=by
      intro j;induction j with
      |zero=>intro _ i hi;rw[Z8.1 hi];exact Q2 _
      |succ j ihj=>
       intro hj i hij;rcases Z9 i (j+1)with h|h
       ·have:=ihj (by omega) i (by omega);rw[gX (by omega:j<b.list.length)];omega
       ·rw[K8 hij h];exact Q2 _
     exact key _ (Q2 _) _ hi
    rw[gX hi]at hsum;have hPs:=hP.kp iK;have⟨ad,f1,f2⟩:=QF hPs;have hd:(b.list[i].1++(b.list[i].2.cells++r)).drop 1=b.list[i].2.cells++r:=by rw[Q7,r2];simp[r2,Q8]
    have⟨bb,n',s',g1,g2,g3,g4⟩:=hb _ hmem (aa.sq wb _ hmem).1 cr (n+1+a.size+dM b.list i) (at1+1) s (.rp (b.list[i].2.cells++r)) N (by omega) (by omega) (by omega) iC (.inl ⟨r,rfl⟩);rw[show((at1+1:Nat):Int)=(at1:Int)+1 from rfl]at g1;cases bb with
    |true=>
     left;have⟨y1,y2,y3⟩:=g4.yes rfl;simp[i0,i1,i2,i3,i4,e2,e5,e7,hPs.nn,f1,f2,ix,hd,g1];refine⟨_,_,⟨rfl,rfl⟩,by simp[i0],by simp[i1],by simp[i2],by simp[i3],by simp,iK.trans g3,?_,?_,λj hj hji=>?_⟩
     ·rw[gX hi,<-V0,<-y1];exact g2
     ·rw[gX hi];omega
     ·by_cases hje:j=i
      ·subst hje;exact y2
      ·exact iS j hj (by omega)
    |false=>
     right;simp[i0,i1,i2,i3,i4,e2,e5,hPs.nn,f1,f2,ix,hd,g1];refine⟨_,_,⟨rfl,rfl⟩,by simp,iK.trans g3,n',g2,?_,?_,?_⟩
     ·have:=g4.lo;omega
     ·rw[hsz];have:=g4.hi;omega
     ·rintro⟨z1,z2⟩;rw[hdp]at z1;rw[hsz]at z2;have:=g4.fit (by omega) (by omega);cases this)
   (by rintro t s ⟨i0,i1,i2,i3,i4,iK,iC,iB,iS⟩;rw[mq]at iC iB;simp[i3,i4,aa.aF];exact⟨_,_,⟨rfl,rfl⟩,by simp[i0],by simp[i1],by simp[i2],iK,iC,iB,iS⟩)
  clear hL;rcases step2 with ⟨t2,s2,rfl,r0,r1,r2,rK,rC,rB,rS⟩|⟨t2,s2,rfl,q6,qK,n',qC,q1,q2,q3⟩
  case inr=>unfold xR;refine⟨Ff,n',s2,?_,qC,qK,⟨q1,q2,λh=>(by cases h),λh1 h2=>absurd ⟨h1,h2⟩ q3⟩⟩;simp[q6]
  case inl=>
  have hP2:=hP.kp rK;have⟨ad2,f5,f6⟩:=QG hP2;simp[r1,hP2.nn,f5,f6,bg underlying45 (l.bU 11) (l.bV 11),ba];generalize hL:aQ _ _ _ _=Lo;have step3:_:=gV hL 4 l.list.length
   (λi t s=>ab t 0=.p cr 0/\ab t 1=v/\ab t 2=.i .i64 (at1:Int)/\ab t 74=.i .i64 (l.len:Int)/\ab t 75=.i .i64 (i:Int)/\Kp [cr] [cr] st s/\qv s cr (n+1+a.size+b.size+dM l.list i)/\n+1+a.size+b.size+dM l.list i<=1048576/\xV l.list i at1)
   (λt s=>ab t 0=.p cr 0/\ab t 1=v/\ab t 2=.i .i64 (at1:Int)/\Kp [cr] [cr] st s/\qv s cr (n+1+a.size+b.size+l.size)/\n+1+a.size+b.size+l.size<=1048576/\xV l.list l.list.length at1)
   (λt s=>ab t 6=.b Ff/\Kp [cr] [cr] st s/\Stop s cr n at1 (.mk k nm num ps b a l))
   (by rw[<-aa.aF];have:=l.cq;omega)
   ⟨by simp[r0],by simp[r1],by simp[r2],by simp,by simp,rK,by rw[mv];exact rC,by rw[mv];exact rB,λj hj h=>by omega⟩
   (by
    rintro i t s hi ⟨i0,i1,i2,i3,i4,iK,iC,iB,iS⟩;have hil:i<l.len:=by rw[aa.aF];exact hi
    have hi2:=qh l.list i (by omega);have e5:(i:Int)<(l.len:Int):=by omega
    have e7:wr .i64 ((i:Int)+1)=((i+1:Nat):Int):=by rw[aP (by omega) (by omega)];rfl
    have⟨r,r1,r2⟩:=eK pl (show 4+7=11 from rfl) hi;have ix:=dP underlying45 bQ bL l.flat l.len i hil;rw[<-aa.dR hil,r1]at ix;have hmem:=Q3 hi;have hsz':=aa.dX hmem;have hdp':=aa.tc hmem;have hsum:dM l.list (i+1)<=l.size:=by
     rw[<-mq];have key:∀j,j<=l.list.length->∀i,i<=j->dM l.list i<=dM l.list j:=by
      intro j;induction j with
      |zero=>intro _ i hi;rw[Z8.1 hi];exact Q2 _
      |succ j ihj=>
       intro hj i hij;rcases Z9 i (j+1)with h|h
       ·have:=ihj (by omega) i (by omega);rw[gX (by omega:j<l.list.length)];omega
       ·rw[K8 hij h];exact Q2 _
     exact key _ (Q2 _) _ hi
    rw[gX hi]at hsum;have hPs:=hP.kp iK;have⟨ad,f1,f2⟩:=QG hPs;have hd:(l.list[i].1++(l.list[i].2.cells++r)).drop 4=l.list[i].2.cells++r:=by rw[Q7,r2];simp[r2,Q8]
    have⟨bb,n',s',g1,g2,g3,g4⟩:=hl _ hmem (aa.sq wl _ hmem).1 cr (n+1+a.size+b.size+dM l.list i) (at1+1) s (.rp (l.list[i].2.cells++r)) N (by omega) (by omega) (by omega) iC (.inl ⟨r,rfl⟩);rw[show((at1+1:Nat):Int)=(at1:Int)+1 from rfl]at g1;cases bb with
    |true=>
     left;have⟨y1,y2,y3⟩:=g4.yes rfl;simp[i0,i1,i2,i3,i4,e2,e5,e7,hPs.nn,f1,f2,ix,hd,g1];refine⟨_,_,⟨rfl,rfl⟩,by simp[i0],by simp[i1],by simp[i2],by simp[i3],by simp,iK.trans g3,?_,?_,λj hj hji=>?_⟩
     ·rw[gX hi,<-V0,<-y1];exact g2
     ·rw[gX hi];omega
     ·by_cases hje:j=i
      ·subst hje;exact y2
      ·exact iS j hj (by omega)
    |false=>
     right;simp[i0,i1,i2,i3,i4,e2,e5,hPs.nn,f1,f2,ix,hd,g1];refine⟨_,_,⟨rfl,rfl⟩,by simp,iK.trans g3,n',g2,?_,?_,?_⟩
     ·have:=g4.lo;omega
     ·rw[hsz];have:=g4.hi;omega
     ·rintro⟨z1,z2⟩;rw[hdp]at z1;rw[hsz]at z2;have:=g4.fit (by omega) (by omega);cases this)
   (by rintro t s ⟨i0,i1,i2,i3,i4,iK,iC,iB,iS⟩;rw[mq]at iC iB;simp[i3,i4,aa.aF];exact⟨_,_,⟨rfl,rfl⟩,by simp[i0],by simp[i1],by simp[i2],iK,iC,iB,iS⟩)
  clear hL;rcases step3 with ⟨t3,s3,rfl,u0,u1,u2,uK,uC,uB,uS⟩|⟨t3,s3,rfl,q6,qK,n',qC,q1,q2,q3⟩
  case inr=>unfold xR;refine⟨Ff,n',s3,?_,qC,qK,⟨q1,q2,λh=>(by cases h),λh1 h2=>absurd ⟨h1,h2⟩ q3⟩⟩;simp[q6]
  case inl=>
  unfold xR;refine⟨Tt,n+1+a.size+b.size+l.size,s3,?_,uC,uK,⟨by omega,by rw[hsz];omega,λ_=>⟨by rw[hsz];omega,?_,by rw[hsz];omega⟩,λ_ _=>rfl⟩⟩
  ·simp[bf,aO]
  ·have d1:a.depth<=4096-at1:=aa.Ag λj hj=>by have:=pS j hj hj; omega
   have d2:b.depth<=4096-at1:=aa.Ag λj hj=>by have:=rS j hj hj;omega
   have d3:l.depth<=4096-at1:=aa.Ag λj hj=>by have:=uS j hj hj;omega
   rw[hdp];omega
theorem Cd:bt π 47=So [.i .i64 0,.s [],.i .i64 0,.sn,.sn,.sn,.sn]:=by kernel_rfl
theorem S1:bt π 49=So [.s [],.i .i64 0,.s [],.i .i64 0,.sn,.sn,.sn,.sn]:=by kernel_rfl
theorem S2:bt π 133=So [.i .i64 0,.s [],.i .i64 0,.sn,.i .i64 0,.s [],.i .i64 0,.sn,.sn,.sn,.sn]:=by kernel_rfl
mutual
def ej(strF:List Nat->Int):Ex->Bool
 |.mk k nm _ _ b a l=>sU k||((decide (1<=k)&&decide (k<=9))&&(oQ strF (mM strF k nm a.len) 0 a&&(ie strF b&&ie strF l)))
def ie(strF:List Nat->Int):aa->Bool
 |.nil _=>Tt
 |.cons _ x l=>ej strF x&&ie strF l
def oQ(strF:List Nat->Int)(fst:Int):Nat->aa->Bool
 |_,.nil _=>Tt
 |i,.cons _ x l=>(decide ((i:Int)<fst)||x.atom)&&(ej strF x&&oQ strF fst (i+1) l)
end
theorem yF{strF:List Nat->Int}:∀{l:aa},ie strF l=Tt↔∀j (h:j<l.list.length),ej strF l.list[j].2=Tt
 |.nil _=>by simp[ie,aa.list]
 |.cons p x l=>by
  have ih:=yF (strF:=strF) (l:=l);simp only[ie,Q4,ih];constructor
  ·rintro⟨h1,h2⟩ j hj;cases j with
   |zero=>exact h1
   |succ j=>exact h2 j (by simpa[aa.list]using hj)
  ·intro h;exact⟨h 0 (by simp[aa.list]),λj hj=>h (j+1) (by simpa[aa.list]using hj)⟩
theorem IN{strF:List Nat->Int}{fst:Int}:∀{i:Nat}{l:aa},oQ strF fst i l=Tt↔∀j (h:j<l.list.length),((((i+j:Nat):Int)<fst)\/l.list[j].2.atom=Tt)/\ej strF l.list[j].2=Tt
 |i,.nil _=>by simp[oQ,aa.list]
 |i,.cons p x l=>by
  have ih:=IN (strF:=strF) (fst:=fst) (i:=i+1) (l:=l);simp only[oQ,Q4,Bool.or_eq_true,decide_eq_true_eq,ih];constructor
  ·rintro⟨h1,h2,h3⟩ j hj;cases j with
   |zero=>exact⟨h1,h2⟩
   |succ j=>have:=h3 j (by simpa[aa.list]using hj);rw[show i+1+j=i+(j+1) by omega]at this;exact this
  ·intro h;have h0:=h 0 (by simp[aa.list]);refine⟨h0.1,h0.2,λj hj=>?_⟩;have:=h (j+1) (by simpa[aa.list]using hj);rw[show i+(j+1)=i+1+j by omega]at this;exact this
def xT(strF:List Nat->Int)(L:List (List AV×Ex))(i:Nat):Prop:=∀j (h:j<L.length),j<i->ej strF L[j].2=Tt
def Gh(strF:List Nat->Int)(fst:Int)(L:List (List AV×Ex))(i:Nat):Prop:=∀j (h:j<L.length),j<i->(((j:Int)<fst)\/L[j].2.atom=Tt)/\ej strF L[j].2=Tt
def ur(strF:List Nat->Int)(o:Option (AV×St))(st:St)(x:Ex):Prop:=∃st',o=So (.b (ej strF x),st')/\Kp [] [] st st'
def TM(c:Option Self)(x:Ex):Prop:=x.Wf->∀(st:St) (N:Nat),x.size+10<=N->x.size<=1000000000->ur strF ((Tw c N).call 55 [.ag x.cells] st) st x
theorem ZO:∀x,TM c x:=by
 refine Ex.ind λk nm num ps b a l hb ha hl=>?_
 intro hwf st N hN hn;have hx0:(Ex.mk k nm num ps b a l).Wf:=hwf;simp only[Ex.Wf]at hwf;obtain⟨-,⟨pb,pa,pl⟩,⟨wb,wa,wl⟩,-⟩:=hwf;obtain⟨N,rfl⟩:∃N',N=N'+4:=⟨N-4,by omega⟩;have hsz:(Ex.mk k nm num ps b a l).size=1+b.size+a.size+l.size:=by simp only[Ex.size]
 rw[hsz]at hN hn;rw[dV rfl func55 rfl (Q0 rfl)];unfold aJ;have hce:=bq (st:=st) (Ex.mk k nm num ps b a l).cells;have k0:Kp [] [] st (st.aj (Ex.mk k nm num ps b a l).cells):=.aj _ _ _;have hp:st.next<(st.aj (Ex.mk k nm num ps b a l).cells).next:=Q1 _;have hat:=λs:St=>GG (c:=c) (st:=s) (Ex.mk k nm num ps b a l) (N+2)
 have hfs:=λs:St=>Xs (c:=c) (st:=s) k nm num ps b a l N
 obtain⟨p,hpe⟩:∃p,st.next=p:=⟨_,rfl⟩;rw[hpe]at hce hp;obtain⟨s0,hs0⟩:∃s0,st.aj (Ex.mk k nm num ps b a l).cells=s0:=⟨_,rfl⟩;rw[hs0]at k0 hp hce;have at1:∀{s:St},Kp [] [] s0 s->F4 s p (Ex.mk k nm num ps b a l).cells k nm b a l:=λkk=>ju (kk.ce hce hp hp (by simp) (by simp))
 have hres:ej strF (.mk k nm num ps b a l)=(sU k||((decide (1<=k)&&decide (k<=9))&&(oQ strF (mM strF k nm a.len) 0 a&&(ie strF b&&ie strF l)))):=by simp only[ej]
 have hatom:(Ex.mk k nm num ps b a l).atom=sU k:=rfl;obtain⟨s1,hs1⟩:∃s1,s0.aj (Ex.mk k nm num ps b a l).cells=s1:=⟨_,rfl⟩;have k1:Kp [] [] s0 s1:=by rw[<-hs1];exact .aj _ _ _
 have hat0:=hat s0;rw[hatom,hs1]at hat0;have x0:=at1 (.refl _ _ s0);have x1:=at1 k1;by_cases hA:sU k=Tt
 ·unfold ur;rw[hres,hA];refine⟨s1,?_,k0.trans k1⟩;rw[hA]at hat0;simp[f55,hpe,hs0,aX,x0.all,hat0]
 ·have hA':sU k=false:=by simpa using hA
  rw[hA']at hat0;by_cases hr1:k<1
  ·unfold ur;rw[hres,hA',decide_eq_false (by omega:¬1<=k)];refine⟨s1,?_,k0.trans k1⟩;simp[f55,hpe,hs0,aX,x0.all,hat0,x1.kd,hr1]
  ·by_cases hr2:9<k
   ·unfold ur;rw[hres,hA',decide_eq_false (by omega:¬k<=9),J6];refine⟨s1,?_,k0.trans k1⟩;simp[f55,hpe,hs0,aX,x0.all,hat0,x1.kd,hr1,hr2]
   ·have hk19:(decide (1<=k)&&decide (k<=9))=true:=by simp;omega
    rw[hA',hk19]at hres;simp only[X0,X4]at hres;simp[f55,hpe,hs0,aX,x0.all,hat0,x1.kd,x1.a,hr1,hr2,bg underlying44 (a.bU 7) (a.bV 7),ba];generalize hL:aQ _ _ _ _=Lo;have stepA:_:=gV hL 0 a.list.length
     (λi t s=>ab t 1=.p p 0/\ab t 20=a.slice 7/\ab t 21=.i .i64 (a.len:Int)/\ab t 22=.i .i64 (i:Int)/\Kp [] [] s0 s/\Gh strF (mM strF k nm a.len) a.list i)
     (λt s=>ab t 1=.p p 0/\Kp [] [] s0 s/\Gh strF (mM strF k nm a.len) a.list a.list.length)
     (λt s=>ab t 2=.b Ff/\Kp [] [] s0 s/\ej strF (.mk k nm num ps b a l)=Ff)
     (by rw[<-aa.aF];have:=a.cq;omega)
     ⟨by simp,by simp,by simp,by simp,k1,λj hj h=>by omega⟩
     (by
      rintro i t s hi ⟨i1,i20,i21,i22,iK,iS⟩;have hil:i<a.len:=by rw[aa.aF];exact hi
      have hi2:=qh a.list i (by omega);have e5:(i:Int)<(a.len:Int):=by omega
      have hmem:=Q3 hi;have hsz':=aa.dX hmem;have hln:=a.cq;have e7:wr .i64 ((i:Int)+1)=((i+1:Nat):Int):=by rw[aP (by omega) (by omega)];rfl
      obtain⟨r,r1,r2⟩:=eK pa (show 0+7=7 from rfl) hi;have ix:=dP underlying44 cM aX a.flat a.len i hil;rw[<-aa.dR hil,r1,Z6 r2,Z7]at ix;obtain⟨wk,-⟩:=aa.sq wa _ hmem;generalize hy:a.list[i].2=y at*;obtain⟨s2,al1,al2,al3,al4⟩:=bJ (z:=[.i .i64 0,.s [],.i .i64 0,.sn,.sn,.sn,.sn]) (cells:=y.cells) (by rw[y.bp];rfl) (Ex.eU wk);have K2:=iK.trans al3;have x2:=at1 K2;have l2:rd s2 s.next 0 7=So y.cells:=by
       rw[ai al2,eV];have:=pc y []
       rwa [V1]at this
      obtain⟨s3,g1,g2⟩:=hfs s2;have c3:=g2.ce al2 al4 al4 (by simp) (by simp);have l3:rd s3 s.next 0 7=So y.cells:=by
       rw[ai c3,eV];have:=pc y []
       rwa [V1]at this
      have hat3:=GG (c:=c) (st:=s3) y (N+2);obtain⟨s4,hs4⟩:∃s4,s3.aj y.cells=s4:=⟨_,rfl⟩;have k4:Kp [] [] s3 s4:=by rw[<-hs4];exact .aj _ _ _
      rw[hs4]at hat3;have c4:=k4.ce c3 (Q9 al4 g2.next) (Q9 al4 g2.next) (by simp) (by simp);have l4:rd s4 s.next 0 7=So y.cells:=by
       rw[ai c4,eV];have:=pc y []
       rwa [V1]at this
      have hfalse:¬((((i:Int)<mM strF k nm a.len)\/y.atom=Tt)/\ej strF y=Tt)->ej strF (.mk k nm num ps b a l)=false:=by
       intro hh;rw[hres];have:oQ strF (mM strF k nm a.len) 0 a=false:=by rw[V2];intro ht;have:=IN.1 ht i hi;rw[Q6,hy]at this;exact hh this
       rw[this];rfl
      have hnext:((((i:Int)<mM strF k nm a.len)\/y.atom=Tt)/\ej strF y=Tt)->Gh strF (mM strF k nm a.len) a.list (i+1):=by
       intro hh j hj hji;by_cases hje:j=i
       ·subst hje;rw[hy];exact hh
       ·exact iS j hj (by omega)
      generalize mM strF k nm a.len=fs at*;by_cases hge:fs<=(i:Int)
      ·cases hya:y.atom with
       |false=>
        right;rw[hya]at hat3;simp[i1,i20,i21,i22,e5,ix,aX,pc,aB,Cd,aC cM aX,y.bp,al1,x2.all,g1,hge,l3,hat3];exact⟨_,_,⟨rfl,rfl⟩,by simp,(K2.trans g2).trans k4,hfalse λh=>by
         rcases h.1 with h|h
         ·omega
         ·rw[hya]at h;cases h⟩
       |true=>
        rw[hya]at hat3;obtain⟨s5,h1,h2⟩:=ha _ hmem (hy▸wk) s4 (N+3) (by rw[hy];omega) (by rw[hy];omega);rw[hy]at h1;cases hyn:ej strF y with
        |true=>left;rw[hyn]at h1;simp[i1,i20,i21,i22,e5,e7,ix,aX,pc,aB,Cd,aC cM aX,y.bp,al1,x2.all,g1,hge,l3,l4,hat3,h1];refine⟨_,_,⟨rfl,rfl⟩,by simp[i1],by simp[i20],by simp[i21],by simp,((K2.trans g2).trans k4).trans h2,hnext ⟨.inr hya,hyn⟩⟩
        |false=>right;rw[hyn]at h1;simp[i1,i20,i21,i22,e5,ix,aX,pc,aB,Cd,aC cM aX,y.bp,al1,x2.all,g1,hge,l3,l4,hat3,h1];exact⟨_,_,⟨rfl,rfl⟩,by simp,((K2.trans g2).trans k4).trans h2,hfalse λh=>by rw[hyn]at h;cases h.2⟩
      ·obtain⟨s5,h1,h2⟩:=ha _ hmem (hy▸wk) s3 (N+3) (by rw[hy];omega) (by rw[hy];omega);rw[hy]at h1;cases hyn:ej strF y with
       |true=>left;rw[hyn]at h1;simp[i1,i20,i21,i22,e5,e7,ix,aX,pc,aB,Cd,aC cM aX,y.bp,al1,x2.all,g1,hge,l3,h1];refine⟨_,_,⟨rfl,rfl⟩,by simp[i1],by simp[i20],by simp[i21],by simp,(K2.trans g2).trans h2,hnext ⟨.inl (by omega),hyn⟩⟩
       |false=>right;rw[hyn]at h1;simp[i1,i20,i21,i22,e5,ix,aX,pc,aB,Cd,aC cM aX,y.bp,al1,x2.all,g1,hge,l3,h1];exact⟨_,_,⟨rfl,rfl⟩,by simp,(K2.trans g2).trans h2,hfalse λh=>by rw[hyn]at h;cases h.2⟩)
     (by
      rintro t s ⟨i1,i20,i21,i22,iK,iS⟩;have e5:¬(a.list.length:Int)<(a.len:Int):=by rw[aa.aF];omega
      simp[i21,i22,e5];exact⟨_,_,⟨rfl,rfl⟩,by simp[i1],iK,iS⟩)
    clear hL;rcases stepA with ⟨tA,sA,rfl,pA,kA,nA⟩|⟨tA,sA,rfl,q2,qK,qn⟩
    case inr=>unfold ur;refine⟨sA,?_,k0.trans qK⟩;rw[qn];simp[q2]
    case inl=>
    have xA:=at1 kA;simp[pA,xA.b,bg underlying23 (b.bU 8) (b.bV 8),ba];generalize hL:aQ _ _ _ _=Lo;have stepB:_:=gV hL 2 b.list.length
     (λi t s=>ab t 1=.p p 0/\ab t 43=b.slice 8/\ab t 44=.i .i64 (b.len:Int)/\ab t 45=.i .i64 (i:Int)/\Kp [] [] s0 s/\xT strF b.list i)
     (λt s=>ab t 1=.p p 0/\Kp [] [] s0 s/\xT strF b.list b.list.length)
     (λt s=>ab t 2=.b Ff/\Kp [] [] s0 s/\ej strF (.mk k nm num ps b a l)=Ff)
     (by rw[<-aa.aF];have:=b.cq;omega)
     ⟨by simp[pA],by simp,by simp,by simp,kA,λj hj h=>by omega⟩
     (by
      rintro i t s hi ⟨i1,i20,i21,i22,iK,iS⟩;have hil:i<b.len:=by rw[aa.aF];exact hi
      have hi2:=qh b.list i (by omega);have e5:(i:Int)<(b.len:Int):=by omega
      have hmem:=Q3 hi;have hsz':=aa.dX hmem;have hln:=b.cq;have e7:wr .i64 ((i:Int)+1)=((i+1:Nat):Int):=by rw[aP (by omega) (by omega)];rfl
      obtain⟨r,r1,r2⟩:=eK pb (show 1+7=8 from rfl) hi;have ix:=dP (P:=π) underlying23 dc cK b.flat b.len i hil;rw[<-aa.dR hil,r1]at ix;obtain⟨wk,wp⟩:=aa.sq wb _ hmem;generalize hy:b.list[i].2=y at*;generalize b.list[i].1=pf at*;obtain⟨s2,al1,al2,al3,al4⟩:=bJ (s:=s) (z:=[.s [],.i .i64 0,.s [],.i .i64 0,.sn,.sn,.sn,.sn]) (cells:=pf++y.cells) (by rw[Q5,r2,y.bp];rfl) (jk wp (Ex.eU wk));have K2:=iK.trans al3;have hlen:(pf++y.cells).length=8:=by rw[Q5,r2,y.bp]
      have ht:takeN 8 (pf++(y.cells++r))=So (pf++y.cells):=by
       have:=mV (pf++y.cells) r
       rwa [hlen,V3]at this
      have l2:rd s2 s.next 1 7=So y.cells:=by rw[ai al2,uU _ _ _ (by rw[hlen];decide),Q7,r2];simp[r2,Q8,y.bp,X5]
      have hfalse:¬ej strF y=Tt->ej strF (.mk k nm num ps b a l)=false:=by
       intro hh;rw[hres];have:ie strF b=false:=by rw[V2];intro ht;have:=yF.1 ht i hi;rw[hy]at this;exact hh this
       rw[this];rw[Bool.false_and,J6]
      have hnext:ej strF y=Tt->xT strF b.list (i+1):=by
       intro hh j hj hji;by_cases hje:j=i
       ·subst hje;rw[hy];exact hh
       ·exact iS j hj (by omega)
      obtain⟨s5,h1,h2⟩:=hb _ hmem (hy▸wk) s2 (N+3) (by rw[hy];omega) (by rw[hy];omega);rw[hy]at h1;cases hyn:ej strF y with
      |true=>left;rw[hyn]at h1;simp[i20,i21,i22,e5,e7,ix,cK,ht,aB,S1,aC dc cK,r2,y.bp,al1,aX,l2,h1];refine⟨_,_,⟨rfl,rfl⟩,by simp[i1],by simp[i20],by simp[i21],by simp,K2.trans h2,hnext hyn⟩
      |false=>right;rw[hyn]at h1;simp[i20,i21,i22,e5,ix,cK,ht,aB,S1,aC dc cK,r2,y.bp,al1,aX,l2,h1];exact⟨_,_,⟨rfl,rfl⟩,by simp,K2.trans h2,hfalse (by rw[hyn];decide)⟩)
     (by rintro t s ⟨i1,i20,i21,i22,iK,iS⟩;simp[i21,i22,aa.aF];exact⟨_,_,⟨rfl,rfl⟩,by simp[i1],iK,iS⟩)
    clear hL;rcases stepB with ⟨tB,sB,rfl,pB,kB,nB⟩|⟨tX,sX,rfl,q2,qK,qn⟩
    case inr=>unfold ur;refine⟨sX,?_,k0.trans qK⟩;rw[qn];simp[q2]
    case inl=>
    have xB:=at1 kB;simp[pB,xB.l,bg underlying45 (l.bU 11) (l.bV 11),ba];generalize hL:aQ _ _ _ _=Lo;have stepC:_:=gV hL 4 l.list.length
     (λi t s=>ab t 1=.p p 0/\ab t 55=l.slice 11/\ab t 56=.i .i64 (l.len:Int)/\ab t 57=.i .i64 (i:Int)/\Kp [] [] s0 s/\xT strF l.list i)
     (λt s=>ab t 1=.p p 0/\Kp [] [] s0 s/\xT strF l.list l.list.length)
     (λt s=>ab t 2=.b Ff/\Kp [] [] s0 s/\ej strF (.mk k nm num ps b a l)=Ff)
     (by rw[<-aa.aF];have:=l.cq;omega)
     ⟨by simp[pB],by simp,by simp,by simp,kB,λj hj h=>by omega⟩
     (by
      rintro i t s hi ⟨i1,i20,i21,i22,iK,iS⟩;have hil:i<l.len:=by rw[aa.aF];exact hi
      have hi2:=qh l.list i (by omega);have e5:(i:Int)<(l.len:Int):=by omega
      have hmem:=Q3 hi;have hsz':=aa.dX hmem;have hln:=l.cq;have e7:wr .i64 ((i:Int)+1)=((i+1:Nat):Int):=by rw[aP (by omega) (by omega)];rfl
      obtain⟨r,r1,r2⟩:=eK pl (show 4+7=11 from rfl) hi;have ix:=dP (P:=π) underlying45 bQ bL l.flat l.len i hil;rw[<-aa.dR hil,r1]at ix;obtain⟨wk,wp⟩:=aa.sq wl _ hmem;generalize hy:l.list[i].2=y at*;generalize l.list[i].1=pf at*;obtain⟨s2,al1,al2,al3,al4⟩:=bJ (s:=s) (z:=[.i .i64 0,.s [],.i .i64 0,.sn,.i .i64 0,.s [],.i .i64 0,.sn,.sn,.sn,.sn]) (cells:=pf++y.cells) (by rw[Q5,r2,y.bp];rfl) (jk wp (Ex.eU wk));have K2:=iK.trans al3;have hlen:(pf++y.cells).length=11:=by rw[Q5,r2,y.bp]
      have ht:takeN 11 (pf++(y.cells++r))=So (pf++y.cells):=by
       have:=mV (pf++y.cells) r
       rwa [hlen,V3]at this
      have l2:rd s2 s.next 4 7=So y.cells:=by rw[ai al2,uU _ _ _ (by rw[hlen];decide),Q7,r2];simp[r2,Q8,y.bp,X5]
      have hfalse:¬ej strF y=Tt->ej strF (.mk k nm num ps b a l)=false:=by
       intro hh;rw[hres];have:ie strF l=false:=by rw[V2];intro ht;have:=yF.1 ht i hi;rw[hy]at this;exact hh this
       rw[this];rw[J6,J6]
      have hnext:ej strF y=Tt->xT strF l.list (i+1):=by
       intro hh j hj hji;by_cases hje:j=i
       ·subst hje;rw[hy];exact hh
       ·exact iS j hj (by omega)
      obtain⟨s5,h1,h2⟩:=hl _ hmem (hy▸wk) s2 (N+3) (by rw[hy];omega) (by rw[hy];omega);rw[hy]at h1;cases hyn:ej strF y with
      |true=>left;rw[hyn]at h1;simp[i20,i21,i22,e5,e7,ix,bL,ht,aB,S2,aC bQ bL,r2,y.bp,al1,aX,l2,h1];refine⟨_,_,⟨rfl,rfl⟩,by simp[i1],by simp[i20],by simp[i21],by simp,K2.trans h2,hnext hyn⟩
      |false=>right;rw[hyn]at h1;simp[i20,i21,i22,e5,ix,bL,ht,aB,S2,aC bQ bL,r2,y.bp,al1,aX,l2,h1];exact⟨_,_,⟨rfl,rfl⟩,by simp,K2.trans h2,hfalse (by rw[hyn];decide)⟩)
     (by rintro t s ⟨i1,i20,i21,i22,iK,iS⟩;simp[i21,i22,aa.aF];exact⟨_,_,⟨rfl,rfl⟩,by simp[i1],iK,iS⟩)
    clear hL;rcases stepC with ⟨tC,sC,rfl,pC,kC,nC⟩|⟨tX,sX,rfl,q2,qK,qn⟩
    case inr=>unfold ur;refine⟨sX,?_,k0.trans qK⟩;rw[qn];simp[q2]
    case inl=>
    have xC:=at1 kC;unfold ur;have hr:ej strF (.mk k nm num ps b a l)=true:=by rw[hres,Q4,Q4];refine⟨IN.2 λj hj=>?_,yF.2 λj hj=>nB j hj hj,yF.2 λj hj=>nC j hj hj⟩;rw[Q6];exact nA j hj hj
    rw[hr];refine⟨sC,?_,k0.trans kC⟩;simp[bf,aO]
theorem Rl{x:List AV}{k:Bool}(h:P.underlying ty=So (.pointer e)):Go.Ev.binOp P ty k .neq (.rp x) .pn=So (.b Tt):=by
 show kc P ty k .neq (.rp x) .pn=_
 simp[kc,lC,gK,h,lB,AV.tz,orElse]
theorem I7{k:Bool}(h:P.underlying ty=So (.pointer e)):Go.Ev.binOp P ty k .neq .pn .pn=So (.b Ff):=by
 show kc P ty k .neq .pn .pn=_
 simp[kc,lC,gK,h,lB,AV.tz,orElse]
def Cm:List (List ae)->AV->Prop
 |[],w=>w=.pn
 |l::sc,w=>∃v w',w=.rp [v,w']/\(cz v (l.map .s)/\l.length<=9223372036854775807)/\Cm sc w'
def hasB(sc:List (List ae))(s:ae):Bool:=sc.any λl=>decide (s∈l)
theorem N8(s:ae){sc:List (List ae)}{w wv:AV}{X:List Nat}(hw:im X st w wv)(hf:Cm sc wv)(hN:sc.length+10000000000000000002<=N):
  (Tw c N).call 89 [w,.s s] st=So (.b (hasB sc s),st):=by
 cases N
 ·omega
 rename_i N;refine eS rfl rfl (.inr (by decide)) (.cons hw (.cons (.pure rfl) .nil)) func89 rfl (Q0 rfl) rfl ?_;unfold aJ;simp[f89,ba];generalize hL:aQ _ _ _ _=L;have lr:=gV hL 0 sc.length (λi t _=>∃w,ab t 0=w/\Cm (sc.drop i) w/\ab t 1=.s s/\hasB (sc.take i) s=Ff) (λ_ _=>hasB sc s=Ff) (λt _=>ab t 4=.b Tt/\hasB sc s=Tt) (by omega)
  ⟨wv,by simp,by simpa using hf,by simp,by simp[hasB]⟩
  (by
   rintro i t st hi ⟨w,i0,iF,i1,iN⟩;rw[List.drop_eq_getElem_cons hi]at iF;obtain⟨v,w',rfl,⟨h1,h2⟩,h3⟩:=iF;have hc:=λst:St=>MJ (c:=c) (st:=st) s h1 h2 (N:=N) (by omega)
   by_cases hb:s∈sc[i]
   ·right;simp[i0,i1,Rl underlying119,hc,hb];unfold hasB;exact List.any_eq_true.2 ⟨sc[i],Q3 hi,by simpa using hb⟩
   ·left;simp[i0,i1,Rl underlying119,hc,hb];refine⟨h3,?_⟩;rw[<-J5 hi];unfold hasB at*;simp only[List.any_append,iN];simpa using hb)
  (by rintro t st ⟨w,i0,iF,i1,iN⟩;rw[List.drop_length]at iF;obtain rfl:w=.pn:=iF;simp[i0,I7 underlying119];simpa using iN)
 clear hL;rcases lr with ⟨t1,s1,rfl,hT⟩|⟨t1,s1,rfl,hT,hF⟩
 ·rw[hT];simp[bf,aO]
 ·rw[hF];simp[hT]
def dL(fs:ae)(nm:ae)(num:Int)(pn bn an ln:Nat):Bool :=
 (fs.contains 110||decide (nm=[]))&&((fs.contains 105||decide (num=0))&&((fs.contains 112||decide (pn=0))&&((fs.contains 98||decide (bn=0))&&((fs.contains 97||decide (an=0))&&(fs.contains 99||decide (ln=0))))))
theorem aaf(k:Int)(nm:ae)(num:Int)(hp:cz ps (l.map .s))(b a al:aa)(r:List AV)(hN:2<=N)(hpu:aA ((Ex.mk k nm num ps b a al).cells++r)=Tt):
  (Tw c N).call 88 [.rp ((Ex.mk k nm num ps b a al).cells++r),.s [110]] st=So (.b (dL [110] nm num l.length b.len a.len al.len),st):=by
 cases N
 ·omega
 rename_i N;refine eS (X:=[]) rfl rfl (.inr (by decide)) (.pure (by simpa[aA,aE]using hpu)) func88 rfl (Q0 rfl) rfl ?_;unfold aJ dL;have hce:=bq (st:=ay) [.s [110]];have hk:∀x,x∈[110,105,112,98,97,99]->(Tw c N).call 135 [.s [x],.p ay.next 0] (ay.aj [.s [110]])=So (.b (([110]:ae).contains x),ay.aj [.s [110]]):=λx hx=>
  wS (X:=[]) (by simp[tG]) hx (.ptr hce (Q1 _) (Q1 _) (by simp) (by simp) (.cons (.pure rfl) .nil)) (by omega)
 have lp:=λst:St=>hp.sLen (st:=st) eL
 have lb:=λst:St=>bg (st:=st) underlying23 (b.bU 8) (b.bV 8)
 have la:=λst:St=>bg (st:=st) underlying44 (a.bU 7) (a.bV 7)
 have ll:=λst:St=>bg (st:=st) underlying45 (al.bU 11) (al.bV 11)
 by_cases h2:num=0
 case neg=>simp[f88,hk,bf,aO,Ex.cells,h2]
 by_cases h3:l.length=0
 case neg=>simp[f88,hk,lp,bf,aO,Ex.cells,h2,h3]
 by_cases h4:b.len=0
 case neg=>simp[f88,hk,lp,lb,bf,aO,Ex.cells,h2,h3,h4]
 by_cases h5:a.len=0
 case neg=>simp[f88,hk,lp,lb,la,bf,aO,Ex.cells,h2,h3,h4,h5]
 by_cases h6:al.len=0
 case neg=>simp[f88,hk,lp,lb,la,ll,bf,aO,Ex.cells,h2,h3,h4,h5,h6]
 simp[f88,hk,lp,lb,la,ll,bf,aO,Ex.cells,h2,h3,h4,h5,h6]
theorem P3(k:Int)(nm:ae)(num:Int)(hp:cz ps (l.map .s))(b a al:aa)(r:List AV)(hN:2<=N)(hpu:aA ((Ex.mk k nm num ps b a al).cells++r)=Tt):
  (Tw c N).call 88 [.rp ((Ex.mk k nm num ps b a al).cells++r),.s [105]] st=So (.b (dL [105] nm num l.length b.len a.len al.len),st):=by
 cases N
 ·omega
 rename_i N;refine eS (X:=[]) rfl rfl (.inr (by decide)) (.pure (by simpa[aA,aE]using hpu)) func88 rfl (Q0 rfl) rfl ?_;unfold aJ dL;have hce:=bq (st:=ay) [.s [105]];have hk:∀x,x∈[110,105,112,98,97,99]->(Tw c N).call 135 [.s [x],.p ay.next 0] (ay.aj [.s [105]])=So (.b (([105]:ae).contains x),ay.aj [.s [105]]):=λx hx=>
  wS (X:=[]) (by simp[tG]) hx (.ptr hce (Q1 _) (Q1 _) (by simp) (by simp) (.cons (.pure rfl) .nil)) (by omega)
 have lp:=λst:St=>hp.sLen (st:=st) eL
 have lb:=λst:St=>bg (st:=st) underlying23 (b.bU 8) (b.bV 8)
 have la:=λst:St=>bg (st:=st) underlying44 (a.bU 7) (a.bV 7)
 have ll:=λst:St=>bg (st:=st) underlying45 (al.bU 11) (al.bV 11)
 by_cases h1:nm=[]
 case neg=>simp[f88,hk,cV,bf,aO,Ex.cells,h1]
 by_cases h3:l.length=0
 case neg=>simp[f88,hk,cV,lp,bf,aO,Ex.cells,h1,h3]
 by_cases h4:b.len=0
 case neg=>simp[f88,hk,cV,lp,lb,bf,aO,Ex.cells,h1,h3,h4]
 by_cases h5:a.len=0
 case neg=>simp[f88,hk,cV,lp,lb,la,bf,aO,Ex.cells,h1,h3,h4,h5]
 by_cases h6:al.len=0
 case neg=>simp[f88,hk,cV,lp,lb,la,ll,bf,aO,Ex.cells,h1,h3,h4,h5,h6]
 simp[f88,hk,cV,lp,lb,la,ll,bf,aO,Ex.cells,h1,h3,h4,h5,h6]
theorem P4(k:Int)(nm:ae)(num:Int)(hp:cz ps (l.map .s))(b a al:aa)(r:List AV)(hN:2<=N)(hpu:aA ((Ex.mk k nm num ps b a al).cells++r)=Tt):
  (Tw c N).call 88 [.rp ((Ex.mk k nm num ps b a al).cells++r),.s [110,97]] st=So (.b (dL [110,97] nm num l.length b.len a.len al.len),st):=by
 cases N
 ·omega
 rename_i N;refine eS (X:=[]) rfl rfl (.inr (by decide)) (.pure (by simpa[aA,aE]using hpu)) func88 rfl (Q0 rfl) rfl ?_;unfold aJ dL;have hce:=bq (st:=ay) [.s [110,97]];have hk:∀x,x∈[110,105,112,98,97,99]->(Tw c N).call 135 [.s [x],.p ay.next 0] (ay.aj [.s [110,97]])=So (.b (([110,97]:ae).contains x),ay.aj [.s [110,97]]):=λx hx=>
  wS (X:=[]) (by simp[tG]) hx (.ptr hce (Q1 _) (Q1 _) (by simp) (by simp) (.cons (.pure rfl) .nil)) (by omega)
 have lp:=λst:St=>hp.sLen (st:=st) eL
 have lb:=λst:St=>bg (st:=st) underlying23 (b.bU 8) (b.bV 8)
 have la:=λst:St=>bg (st:=st) underlying44 (a.bU 7) (a.bV 7)
 have ll:=λst:St=>bg (st:=st) underlying45 (al.bU 11) (al.bV 11)
 by_cases h2:num=0
 case neg=>simp[f88,hk,bf,aO,Ex.cells,h2]
 by_cases h3:l.length=0
 case neg=>simp[f88,hk,lp,bf,aO,Ex.cells,h2,h3]
 by_cases h4:b.len=0
 case neg=>simp[f88,hk,lp,lb,bf,aO,Ex.cells,h2,h3,h4]
 by_cases h6:al.len=0
 case neg=>simp[f88,hk,lp,lb,ll,bf,aO,Ex.cells,h2,h3,h4,h6]
 simp[f88,hk,lp,lb,ll,bf,aO,Ex.cells,h2,h3,h4,h6]
theorem aah(k:Int)(nm:ae)(num:Int)(hp:cz ps (l.map .s))(b a al:aa)(r:List AV)(hN:2<=N)(hpu:aA ((Ex.mk k nm num ps b a al).cells++r)=Tt):
  (Tw c N).call 88 [.rp ((Ex.mk k nm num ps b a al).cells++r),.s [112,97]] st=So (.b (dL [112,97] nm num l.length b.len a.len al.len),st):=by
 cases N
 ·omega
 rename_i N;refine eS (X:=[]) rfl rfl (.inr (by decide)) (.pure (by simpa[aA,aE]using hpu)) func88 rfl (Q0 rfl) rfl ?_;unfold aJ dL;have hce:=bq (st:=ay) [.s [112,97]];have hk:∀x,x∈[110,105,112,98,97,99]->(Tw c N).call 135 [.s [x],.p ay.next 0] (ay.aj [.s [112,97]])=So (.b (([112,97]:ae).contains x),ay.aj [.s [112,97]]):=λx hx=>
  wS (X:=[]) (by simp[tG]) hx (.ptr hce (Q1 _) (Q1 _) (by simp) (by simp) (.cons (.pure rfl) .nil)) (by omega)
 have lp:=λst:St=>hp.sLen (st:=st) eL
 have lb:=λst:St=>bg (st:=st) underlying23 (b.bU 8) (b.bV 8)
 have la:=λst:St=>bg (st:=st) underlying44 (a.bU 7) (a.bV 7)
 have ll:=λst:St=>bg (st:=st) underlying45 (al.bU 11) (al.bV 11)
 by_cases h1:nm=[]
 case neg=>simp[f88,hk,cV,bf,aO,Ex.cells,h1]
 by_cases h2:num=0
 case neg=>simp[f88,hk,cV,bf,aO,Ex.cells,h1,h2]
 by_cases h4:b.len=0
 case neg=>simp[f88,hk,cV,lb,bf,aO,Ex.cells,h1,h2,h4]
 by_cases h6:al.len=0
 case neg=>simp[f88,hk,cV,lb,ll,bf,aO,Ex.cells,h1,h2,h4,h6]
 simp[f88,hk,cV,lb,ll,bf,aO,Ex.cells,h1,h2,h4,h6]
theorem aac(k:Int)(nm:ae)(num:Int)(hp:cz ps (l.map .s))(b a al:aa)(r:List AV)(hN:2<=N)(hpu:aA ((Ex.mk k nm num ps b a al).cells++r)=Tt):
  (Tw c N).call 88 [.rp ((Ex.mk k nm num ps b a al).cells++r),.s [97]] st=So (.b (dL [97] nm num l.length b.len a.len al.len),st):=by
 cases N
 ·omega
 rename_i N;refine eS (X:=[]) rfl rfl (.inr (by decide)) (.pure (by simpa[aA,aE]using hpu)) func88 rfl (Q0 rfl) rfl ?_;unfold aJ dL;have hce:=bq (st:=ay) [.s [97]];have hk:∀x,x∈[110,105,112,98,97,99]->(Tw c N).call 135 [.s [x],.p ay.next 0] (ay.aj [.s [97]])=So (.b (([97]:ae).contains x),ay.aj [.s [97]]):=λx hx=>
  wS (X:=[]) (by simp[tG]) hx (.ptr hce (Q1 _) (Q1 _) (by simp) (by simp) (.cons (.pure rfl) .nil)) (by omega)
 have lp:=λst:St=>hp.sLen (st:=st) eL
 have lb:=λst:St=>bg (st:=st) underlying23 (b.bU 8) (b.bV 8)
 have la:=λst:St=>bg (st:=st) underlying44 (a.bU 7) (a.bV 7)
 have ll:=λst:St=>bg (st:=st) underlying45 (al.bU 11) (al.bV 11)
 by_cases h1:nm=[]
 case neg=>simp[f88,hk,cV,bf,aO,Ex.cells,h1]
 by_cases h2:num=0
 case neg=>simp[f88,hk,cV,bf,aO,Ex.cells,h1,h2]
 by_cases h3:l.length=0
 case neg=>simp[f88,hk,cV,lp,bf,aO,Ex.cells,h1,h2,h3]
 by_cases h4:b.len=0
 case neg=>simp[f88,hk,cV,lp,lb,bf,aO,Ex.cells,h1,h2,h3,h4]
 by_cases h6:al.len=0
 case neg=>simp[f88,hk,cV,lp,lb,ll,bf,aO,Ex.cells,h1,h2,h3,h4,h6]
 simp[f88,hk,cV,lp,lb,ll,bf,aO,Ex.cells,h1,h2,h3,h4,h6]
theorem aae(k:Int)(nm:ae)(num:Int)(hp:cz ps (l.map .s))(b a al:aa)(r:List AV)(hN:2<=N)(hpu:aA ((Ex.mk k nm num ps b a al).cells++r)=Tt):
  (Tw c N).call 88 [.rp ((Ex.mk k nm num ps b a al).cells++r),.s [98,97]] st=So (.b (dL [98,97] nm num l.length b.len a.len al.len),st):=by
 cases N
 ·omega
 rename_i N;refine eS (X:=[]) rfl rfl (.inr (by decide)) (.pure (by simpa[aA,aE]using hpu)) func88 rfl (Q0 rfl) rfl ?_;unfold aJ dL;have hce:=bq (st:=ay) [.s [98,97]];have hk:∀x,x∈[110,105,112,98,97,99]->(Tw c N).call 135 [.s [x],.p ay.next 0] (ay.aj [.s [98,97]])=So (.b (([98,97]:ae).contains x),ay.aj [.s [98,97]]):=λx hx=>
  wS (X:=[]) (by simp[tG]) hx (.ptr hce (Q1 _) (Q1 _) (by simp) (by simp) (.cons (.pure rfl) .nil)) (by omega)
 have lp:=λst:St=>hp.sLen (st:=st) eL
 have lb:=λst:St=>bg (st:=st) underlying23 (b.bU 8) (b.bV 8)
 have la:=λst:St=>bg (st:=st) underlying44 (a.bU 7) (a.bV 7)
 have ll:=λst:St=>bg (st:=st) underlying45 (al.bU 11) (al.bV 11)
 by_cases h1:nm=[]
 case neg=>simp[f88,hk,cV,bf,aO,Ex.cells,h1]
 by_cases h2:num=0
 case neg=>simp[f88,hk,cV,bf,aO,Ex.cells,h1,h2]
 by_cases h3:l.length=0
 case neg=>simp[f88,hk,cV,lp,bf,aO,Ex.cells,h1,h2,h3]
 by_cases h6:al.len=0
 case neg=>simp[f88,hk,cV,lp,ll,bf,aO,Ex.cells,h1,h2,h3,h6]
 simp[f88,hk,cV,lp,ll,bf,aO,Ex.cells,h1,h2,h3,h6]
theorem aad(k:Int)(nm:ae)(num:Int)(hp:cz ps (l.map .s))(b a al:aa)(r:List AV)(hN:2<=N)(hpu:aA ((Ex.mk k nm num ps b a al).cells++r)=Tt):
  (Tw c N).call 88 [.rp ((Ex.mk k nm num ps b a al).cells++r),.s [97,99]] st=So (.b (dL [97,99] nm num l.length b.len a.len al.len),st):=by
 cases N
 ·omega
 rename_i N;refine eS (X:=[]) rfl rfl (.inr (by decide)) (.pure (by simpa[aA,aE]using hpu)) func88 rfl (Q0 rfl) rfl ?_;unfold aJ dL;have hce:=bq (st:=ay) [.s [97,99]];have hk:∀x,x∈[110,105,112,98,97,99]->(Tw c N).call 135 [.s [x],.p ay.next 0] (ay.aj [.s [97,99]])=So (.b (([97,99]:ae).contains x),ay.aj [.s [97,99]]):=λx hx=>
  wS (X:=[]) (by simp[tG]) hx (.ptr hce (Q1 _) (Q1 _) (by simp) (by simp) (.cons (.pure rfl) .nil)) (by omega)
 have lp:=λst:St=>hp.sLen (st:=st) eL
 have lb:=λst:St=>bg (st:=st) underlying23 (b.bU 8) (b.bV 8)
 have la:=λst:St=>bg (st:=st) underlying44 (a.bU 7) (a.bV 7)
 have ll:=λst:St=>bg (st:=st) underlying45 (al.bU 11) (al.bV 11)
 by_cases h1:nm=[]
 case neg=>simp[f88,hk,cV,bf,aO,Ex.cells,h1]
 by_cases h2:num=0
 case neg=>simp[f88,hk,cV,bf,aO,Ex.cells,h1,h2]
 by_cases h3:l.length=0
 case neg=>simp[f88,hk,cV,lp,bf,aO,Ex.cells,h1,h2,h3]
 by_cases h4:b.len=0
 case neg=>simp[f88,hk,cV,lp,lb,bf,aO,Ex.cells,h1,h2,h3,h4]
 simp[f88,hk,cV,lp,lb,bf,aO,Ex.cells,h1,h2,h3,h4]
structure Ck(st:St)(cr mr:Nat)(w:Int)(C:ae->Option AV):Prop where
 ce:∃al,st.ce cr=So ([.m mr,.i .i64 w],cr,al)
 crl:cr<st.next
 mrl:mr<st.next
 ne:mr≠cr
 mp:bZ st mr C
 err:vV w
theorem Ck.keep{cr mr:Nat}{w:Int}{C:ae->Option AV}{A B:List Nat}{st':St}(h:Ck st cr mr w C)(k:Kp A B st st')(h1:cr∉A)(h2:mr∉A)(h3:cr∉B):Ck st' cr mr w C:=by have⟨al,hc⟩:=h.ce;exact⟨⟨al,k.ce hc h.crl h.crl h1 h3⟩,Q9 h.crl k.next,Q9 h.mrl k.next,h.ne,h.mp.keep k h.mrl h2,h.err⟩
theorem lK{e:Int}(is:Bool)(h:Ck st cr mr w C)(he:vV e)(he0:e≠0)(hN:2<=N):
  ∃st' w',(Tw c N).call 44 [.p cr 0,.b is,.i .i64 e] st=So (.tu [],st')/\Ck st' cr mr w' C/\Kp [cr] [cr] st st'/\(w'=0↔w=0/\is=Ff):=by
 cases N
 ·omega
 rename_i N;rw[dV rfl func44 rfl (Q0 rfl)];unfold aJ;have⟨al,hc⟩:=h.ce;have r1:=λst:St=>QN (c:=c) (st:=st) he (N:=N) (by omega)
 have r2:=λst:St=>QN (c:=c) (st:=st) h.err (N:=N) (by omega)
 cases is with
 |false=>
  refine⟨st,w,?_,h,.refl _ _ _,by simp⟩;simp[f44,aY];rw[ft (fl:=[(7,0)])]
  ·simp[bf,aO]
  ·kernel_rfl
  ·intro R hR;simp at hR;subst hR;rfl
 |true=>
  have hw:=c9 hc 1 [.i .i64 e] (by simp) (by simp);by_cases hr:Jz w<Jz e
  ·refine⟨_,e,?_,?_,.aG (by simp) (by simp) (r:=cr) (l:=[.m mr,.i .i64 e]) (g:=cr),?_⟩
   ·simp[f44,aY];rw[ft (fl:=[(7,0)])]
    ·simp[r1,r2,ai hc,hr,bN Ym ac3,hw]
    ·kernel_rfl
    ·intro R hR;simp[r1,r2,ai hc,hr]at hR;subst hR;simp only[Z5,X6,X7];refine QS rfl rfl rfl (u:=.i .i64 w) (s:=st) ?_ (LN _ _);simp[ai hc]
   ·exact⟨⟨_,dA _ _ _⟩,h.crl,h.mrl,h.ne,by have⟨es,k,h1,h2⟩:=h.mp;exact⟨es,k,by rw[BI h.ne];exact h1,h2⟩,he⟩
   ·simp[he0]
  ·refine⟨st,w,?_,h,.refl _ _ _,?_⟩
   ·simp[f44,aY];rw[ft (fl:=[(7,0)])]
    ·simp[r1,r2,ai hc,hr]
    ·kernel_rfl
    ·intro R hR;simp[r1,r2,ai hc,hr]at hR;subst hR;simp only[Z5,X6,X7];refine QS rfl rfl rfl (u:=.i .i64 w) (s:=st) ?_ (LN _ _);simp[ai hc]
   ·simp;rintro rfl;refine hr ?_;rcases he with rfl|rfl|rfl|rfl
    ·exact absurd rfl he0
    ·decide
    ·decide
    ·decide
theorem gW{p:List AV}(h:jw 1 p):p=[.s (fo (p.headD .un))]:=by obtain⟨s,rfl⟩:=h;rfl
theorem fg(b:aa):b.names.length=b.len:=by unfold aa.names;rw[J3,aa.aF]
theorem Ly:∀l:List ae,bH (l.map .s)=Tt
 |[]=>rfl
 |s::l=>by simp[Ly l]
theorem GJ(hb:b.Ty 1)(hl:b.len<=1000000)(hN:10000000000000000000<=N):
  ∃w,(Tw c N).call 46 [b.slice 8] st=So (w,st)/\cz w (b.names.map .s):=by
 cases N
 ·omega
 rename_i N;have hp:aA [b.slice 8]=true:=by simp[aA,aa.tQ hb 8]
 suffices h:∃v s g,aJ c N f46 (f46.body.getD .skip) [b.slice 8] ay=So (v,s)/\bD s 0 1 v b.names.length (b.names.map .s) g by
  obtain⟨v,s,g,h1,h2⟩:=h;obtain⟨w,h3,h4⟩:=h2.fz (Q2 0) (Q2 1) (fV.pure (kR b.names));have hw:cz w (b.names.map .s):=by
   rcases h4 with ⟨rfl,h5,h6⟩|rfl
   ·exact .inl ⟨rfl,h6⟩
   ·right;rw[J3]
  exact⟨w,CO rfl rfl rfl rfl (by decide) hp func46 rfl (Q0 rfl) (hw.pure (kR _)) ⟨_,_,h1,h3⟩,hw⟩
 unfold aJ;have ln:=λst:St=>bg (st:=st) underlying23 (b.bU 8) (b.bV 8)
 simp[f46,ln,ba];generalize hL:aQ _ _ _ _=L;obtain⟨t1,s1,rfl,v,g,q3,qO⟩:=cD hL 0 b.list.length
  (λi t s=>ab t 6=b.slice 8/\ab t 7=.i .i64 (b.len:Int)/\ab t 8=.i .i64 (i:Int)/\∃v g,ab t 3=v/\bD s 0 1 v i ((b.names.take i).map .s) g)
  (λt s=>∃v g,ab t 3=v/\bD s 0 1 v b.names.length (b.names.map .s) g) (by rw[<-aa.aF];omega)
  ⟨by simp,by simp,by simp,.sn,No,by simp,by simpa using bD.nil ay 0 1⟩
  (by
   rintro i t s hi ⟨i6,i7,i8,v,g,i3,iO⟩;have hil:i<b.len:=by rw[aa.aF];exact hi
   have hin:i<b.names.length:=by rw[fg];exact hil
   have e3:(i:Int)<(b.len:Int):=by omega
   have e4:wr .i64 ((i:Int)+1)=((i+1:Nat):Int):=by rw[aP (by omega) (by omega)];rfl
   obtain⟨r,r1,r2⟩:=eK hb.pre (show fH 1+7=8 from rfl) hi;have ix:=dP underlying23 dc cK b.flat b.len i hil;rw[<-aa.dR hil,r1,<-V3]at ix;have hT:=aa.dC hb _ (Q3 hi);have hpr:=gW hT.1;have hnm:b.names[i]=fo (b.list[i].1.headD .un):=by simp[aa.names,eD]
   rw[<-hnm]at hpr;have hce:(b.list[i].1++b.list[i].2.cells).length=8:=by rw[Q5,r2,Ex.bp];rfl
   have hsc:bH (b.list[i].1++b.list[i].2.cells)=true:=jk hT.1.sc (Ex.eU hT.2.wf);have ld:=λst:St=>ei (st:=st) (r:=r) dc np cK hce
   have hhd:cut (b.list[i].1++b.list[i].2.cells) 0 1=So [.s b.names[i]]:=by rw[hpr];rfl
   generalize b.list[i].1++b.list[i].2.cells=cl at*;obtain⟨s2,u1,u2,u3,u4⟩:=bJ (z:=oe) hce hsc;have iO2:=iO.keep u3 (by simp) (by simp);have bo:=λ(t:Tr AV) (h:ah t (.tmp 14)=.s b.names[i])=>ef (S:=Tw c N) (st:=s2) kg (x:=.tmp 14) (cs:=[.s b.names[i]]) (by rw[h];simp) rfl
   obtain⟨v',g',s3,w1,w2,w3,w4⟩:=iO2.iW kg (new:=[.s b.names[i]]) rfl rfl (by omega) (J9 _);simp[i3,i6,i7,i8,e3,e4,ix,ld,aB,qp,aC dc cK,hce,u1,ai u2,hhd,bo,w1];refine⟨_,_,⟨rfl,rfl⟩,by simp[i6],by simp[i7],by simp,g',?_⟩;have w5:bD s3 0 1 v' (i+1) ((b.names.take (i+1)).map .s) g':=by rw[<-J5 hin,J8];exact w2
   simpa using w5)
  (by rintro t s ⟨i6,i7,i8,v,g,i3,iO⟩;simp[i7,i8,aa.aF];refine⟨_,_,⟨rfl,rfl⟩,g,?_⟩;rw[<-aa.aF,<-fg,List.take_length]at iO;simpa[i3]using iO)
 clear hL;refine⟨v,s1,?_,g,qO⟩;simp[q3]
