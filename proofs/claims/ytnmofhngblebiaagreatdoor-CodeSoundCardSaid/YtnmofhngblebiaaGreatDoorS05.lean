/- A part of the proof. -/
import Derived.Test.YtnmofhngblebiaaGreatDoorS04
import Derived.Carry
open Option renaming some->So,none->No
open Bool renaming true->Tt,false->Ff
open Go.Steps renaming one->Q0
open Nat renaming le_refl->Q1,lt_of_lt_of_le->Q7,zero_le->Q9,zero_add->J5,sub_zero->J8,le_trans->Z3,lt_or_ge->Z9,lt_succ_self->V4,eq_of_beq_eq_true->V9,add_zero->X5,zero_mul->X6,not_le->X7
open List renaming mem_cons->Q2,mem_cons_self->Q8,append_nil->J1,mem_map->J4,mem_cons_of_mem->J6,getElem?_take_of_lt->J9,mem_append->Z6,nodup_range->Z8,reverse_singleton->K8,singleton_append->V0,range'_succ->V1,getElem?_eq_some_iff->V2,range_eq_range'->V8,drop_eq_nil_of_le->X0,flatten_cons->X4
open Option.some renaming inj->Q3
open Array renaming getElem?_eq_some_iff->Q4,getElem?_toList->Q5,getD_eq_getD_getElem?->Z7,getElem?_replicate->V3,length_toList->V7
open Ne renaming symm->Q6
open Go.DataW.trod renaming eq_def->J3
open Go.Sem renaming run_bind->Z0
open Bool renaming and_eq_true->Z4
open Prod.mk renaming inj->Z5
open Go.Result renaming andThen_ok->V6
noncomputable section
namespace Go.Ev
variable {C F tmps:Array Value}{E E':Env}{H H0:Array Obj}{P:Program}{R:List Rec}{S:Self}{a:Act}{af:Array Edge}{aops ops:Array Oper}{az:List AV}{b:Frame}{base h i i0 j l n n0 nt p q z:Nat}{bs bsF rest:List Nat}{c:Code}{cs ks:List Frame}{d:Tmp}{e ty:TypeId}{f:Operand}{fn:Func}{g:FuncId}{k:List Item}{m m1:Machine}{o:Oper}{ob:Obj}{op:Op}{pos:String}{ps:Array Tmp}{r:Rec}{s st st' st1 st3 st4:St}{t t1 t4:Tr AV}{us:List Value}{v:AV}{w w' w0:World}{x:Ctx}
theorem ab4{kd:TypeDesc}{k x:AV}{ku xu:Value}{q:Bool}(hk:Conc E k ku)(hkd:AL kd ku)(hx:Conc E x xu)(he:iu k x=So q):Instr.sameNow kd ku xu=So q:=by
 rcases HE he hk hx with ⟨kk,a,c,rfl,hm,rfl⟩|⟨a,c,rfl,hm,rfl⟩
 ·rw[hm];rcases hkd with ⟨k1,k2,n,rfl,hh⟩|⟨s,-,hh⟩
  ·simp[Instr.sameNow];rfl
  ·cases hh
 ·rw[hm];rcases hkd with ⟨k1,k2,n,rfl,hh⟩|⟨s,rfl,hh⟩
  ·cases hh
  ·simp[Instr.sameNow];rw[bytes_beq]
theorem Yt{t:TypeId}{k:AV}{uk uv:Value}(hkf:ko P t k=Tt)(hk:Conc E k uk){μ:Nat}{ents:Array MapEntry}{clock:Nat}(hH:w.heap[μ]? = So (.map ents clock))
  (hno:∀m∈ents.toList,∃x,iu k x=So Ff/\Conc E x m.key):
  (Instr.mapUpdate t (.map (So μ)) uk uv).run P w=.ok () {w with heap:=w.heap.setIfInBounds μ (.map (ents.push {key:=uk,val:=uv,born:=clock}) (clock+1))}:=by
 have⟨kt,e,kd,hu,hkd,hkk,hdesc⟩:=D5 hkf hk;have hgo:=nL (P:=P) hH (by grind);have hf:∀m∈ents.toList,Instr.sameNow kd uk m.key=So false:=by grind[ab4]
 have g1:Instr.findNow kd uk ents.toList 0=So none:=by grind[HQ]
 simp_all[Instr.mapUpdate,bA,qS,Instr.findKey,xj]
theorem Nt:∀{l:List Oper}{k i:Nat}{d:Tmp},Dx l k=So (i,d)->k<=i/\∃o,l[i-k]? = So o/\yz o=So d
 |[],k,i,d,h=>by cases h
 |o::l,k,i,d,h=>by
  unfold Dx at h;cases hm:yz o with
  |some e=>grind
  |none=>rw[hm]at h;have⟨h1,o',h2,h3⟩:=Nt h;grind
theorem AE{aops:Array Oper}{d:Tmp}{i0 h:Nat}:∀{l:List Oper}{bs:List Nat}{k:Nat},AD aops d i0 h l bs k=Tt->∀j o,l[j]? = So o->
  d∉(kI d o).looksAt aops/\(∀g wnt,o.guard=So (g,wnt)->g<h/\g≠i0)/\(∀q,gU d o=So q->(aV bs j).testBit i0=Tt)/\(gU d o=No->k+j≠i0->o.dst≠So d)
 |[],bs,k,_,j,o,ho=>by grind
 |x::l,[],k,hh,j,o,ho=>by cases hh
 |x::l,b::bs,k,hh,j,o,ho=>by
  unfold AD at hh;simp only[Z4]at hh;have⟨⟨h1,h2,h3⟩,h4⟩:=hh;cases j with
  |zero=>
   have:x=o:=by simpa using ho
   subst this;refine⟨λhm=>?_,λg wnt hg=>?_,λq hq=>?_,λhn hne hd=>?_⟩
   ·rw[List.contains_iff_mem.2 hm]at h1;cases h1
   ·unfold N3 at h2;rw[hg]at h2;simp at h2;refine⟨by simpa[Nat.blt_eq]using h2.1,λe=>?_⟩;rw[e]at h2;simp at h2
   ·rw[hq]at h3;exact h3
   ·rw[hn]at h3;simp at h3;rcases h3 with h3|h3
    ·omega
    ·rw[hd]at h3;simp at h3
  |succ j=>have:=AE h4 j o (by simpa using ho);rw[show k+1+j=k+(j+1) by omega]at this;exact this
theorem Lx{b:Nat}:∀{n:Nat},CA b n=Tt->∀i,i<n->b.testBit i=Tt
 |0,_,i,h=>by omega
 |n+1,hh,i,h=>by
  unfold CA at hh;simp at hh;by_cases e:i=n
  ·subst e;exact hh.1
  ·exact Lx hh.2 i (by omega)
theorem Se:∀{bs:List Nat}{k:Nat},zh bs k=Tt->∀j,j<bs.length->∀i,i<k+j->(aV bs j).testBit i=Tt
 |[],k,_,j,hj,i,hi=>by grind
 |b::bs,k,hh,0,hj,i,hi=>by unfold zh at hh;simp at hh;exact Lx hh.1 i hi
 |b::bs,k,hh,j+1,hj,i,hi=>by unfold zh at hh;simp at hh;have:=Se hh.2 j (by simpa using hj) i (by omega);exact this
structure zH(ops aops:Array Oper)(bs bsF:List Nat)(i0:Nat)(d:Tmp)(h:Nat):Prop where
 set:ot aops bs
 hn:h<=ops.size
 ih:i0<h
 asz:aops.size=h
 aop:∀j o,j<h->ops[j]? = So o->aops[j]? = So (kI d o)
 mkr:∃o,ops[i0]? = So o/\yz o=So d
 look:∀j o,j<h->ops[j]? = So o->d∉(kI d o).looksAt aops
 gd:∀j o,j<h->ops[j]? = So o->∀g wnt,o.guard=So (g,wnt)->g<h/\g≠i0
 ins:∀j o q,j<h->ops[j]? = So o->gU d o=So q->(aV bs j).testBit i0=Tt
 dst:∀j o,j<h->ops[j]? = So o->gU d o=No->j≠i0->o.dst≠So d
 tail:∀j,h<=j->j<ops.size->∀i,i<j->(aV bsF j).testBit i=Tt
 edgeF:∀j o,ops[j]? = So o->∀e∈o.after,Region.binds .any e=Tt->e.on<j
 befF:∀j o i,ops[j]? = So o->(aV bsF j).testBit i=Tt->∃e∈o.after,Region.binds .any e=Tt/\(i=e.on\/(aV bsF e.on).testBit i=Tt)
theorem aba{m:vX}(hm:yJ ops=So m):
  ∃bs bsF,zH ops m.aops bs bsF m.i0 m.d m.h/\m.fl=tf (m.aops.toList.map λo=>kind o.op) bs (0::qg (m.aops.toList.map λo=>kind o.op) 0) (m.aops.toList.map λo=>kind o.op) 0:=by
 unfold yJ at hm;split at hm
 case h_2=>grind
 rename_i i0 d hf;generalize Ea d ops.toList 0 (i0+1)=h at hm;unfold Qn at hm;generalize hao:((ops.toList.take h).map (kI d)).toArray=aops at hm;cases hb:kJ aops.toList [] with
 |none=>grind
 |some bs=>
  rw[hb]at hm;cases hbF:kJ ops.toList [] with
  |none=>grind
  |some bsF=>
   rw[hbF]at hm;simp only at hm;cases hc:((Nat.blt i0 h&&Nat.ble h ops.size)&&(uX aops bs [] aops.toList bs&&(AD aops d i0 h (ops.toList.take h) bs 0&&zh (bsF.drop h) h)))with
   |false=>grind
   |true=>
    rw[hc]at hm;cases hm;simp at hc;have⟨⟨c1,c2⟩,c3,c4,c5⟩:=hc;have hih:i0<h:=by simp_all
    have hhn:h<=ops.size:=by simp_all
    have⟨f1,o0,f2,f3⟩:=Nt hf;have⟨b1,b2,b3⟩:=CM hbF;have hl:∀(j:Nat) (o:Oper),ops[j]? = So o->ops.toList[j]? = So o:=λj o h=>by grind
    have htk:∀(j:Nat) (o:Oper),j<h->ops[j]? = So o->(ops.toList.take h)[j]? = So o:=λj o hj ho=>by grind
    refine⟨bs,bsF,⟨settled hb c3,hhn,hih,?_,?_,⟨o0,by grind,f3⟩,?_,?_,?_,?_,?_,?_,?_⟩,rfl⟩
    ·grind
    ·intro j o hj ho;rw[<-hao,List.getElem?_toArray,List.getElem?_map,htk j o hj ho];rfl
    ·intro j o hj ho;exact(AE c4 j o (htk j o hj ho)).1
    ·intro j o hj ho;exact(AE c4 j o (htk j o hj ho)).2.1
    ·intro j o q hj ho;exact(AE c4 j o (htk j o hj ho)).2.2.1 q
    ·intro j o hj ho hn hne;exact(AE c4 j o (htk j o hj ho)).2.2.2 hn (by grind)
    ·intro j hj hjn i hi;replace hj:h<=j:=hj;have hlen:bsF.length=ops.size:=by grind
     have:=Se c5 (j-h) (by simp;omega) i (by omega);unfold aV at this|-;rw[List.getElem?_drop,show h+(j-h)=j by omega]at this;exact this
    ·intro j o ho e he hbd;simpa using(b3 j o (hl j o ho)).1 e he hbd
    ·intro j o i ho hi;exact(b3 j o (hl j o ho)).2 i (by simpa using hi)
def KV(R:List Rec)(i:Nat):AV×AV:=match D9 (recAt R i).v with|some p=>p|none=>(.un,.un)
def qB(ops:Array Oper)(d:Tmp)(h i:Nat):Prop:=i<h/\∃o q,ops[i]? = So o/\gU d o=So q
theorem NI{k:AV}:∀{es:List (AV×AV)},Av k es=Tt->∀p∈es,iu k p.1=So Ff/\iu p.1 k=So Ff
 |[],_,p,hp=>by grind
 |(x,v)::es,h,p,hp=>by
  unfold Av at h;simp at h;have f:∀{o:Option Bool},isFalse o=Tt->o=So false:=by
   intro o ho;cases o with
   |none=>cases ho
   |some b=>cases b;rfl;cases ho
  rcases Q2.1 hp with rfl|hp
  ·exact⟨f h.1.1,f h.1.2⟩
  ·exact NI h.2 p hp
theorem Is{P:Program}{d:Tmp}{R0:List Rec}:∀{l:List Oper}{R:List Rec}{k:Nat}{es:List (AV×AV)},(∀i,R[i]? = R0[k+i]?)->yx P d l R=So es->
  ∃js:List Nat,es=js.map (KV R0)/\js.Nodup/\(∀i,i∈js↔k<=i/\∃o q,l[i-k]? = So o/\gU d o=So q)/\(∀i∈js,D9 (recAt R0 i).v=So (KV R0 i))/\
   (∀i∈js,∀o q,l[i-k]? = So o->gU d o=So q->ko P q.1 (KV R0 i).1=Tt)/\∀i∈js,∀i'∈js,i≠i'->iu (KV R0 i).1 (KV R0 i').1=So Ff
 |[],R,k,es,_,h=>by cases h;simp_all
 |o::l,[],k,es,_,h=>by cases h
 |o::l,r::R,k,es,hR,h=>by
  have hR':∀i,R[i]? = R0[k+1+i]?:=λi=>by have:=hR (i+1);grind
  have hr:recAt R0 k=r:=by grind[List.getElem?_cons_zero,recAt]
  have shift:∀(i:Nat) (P':Oper->Prop),k+1<=i->((∃o',l[i-(k+1)]? = So o'/\P' o')↔∃o',(o::l)[i-k]? = So o'/\P' o'):=by grind
  unfold yx at h;cases hi:gU d o with
  |none=>
   rw[hi]at h;have⟨js,g1,g2,g3,g4,g5,g6⟩:=Is hR' h;refine⟨js,g1,g2,λi=>?_,g4,λi hij o' q ho' hq=>?_,g6⟩
   ·rw[g3];constructor
    ·rintro⟨h1,o',q,h2,h3⟩;refine⟨by omega,?_⟩;have⟨o'',h4,h5⟩:=(shift i (λo'=>∃q,gU d o'=So q) h1).1 ⟨o',h2,q,h3⟩;have⟨q',h5⟩:=h5;exact⟨o'',q',h4,h5⟩
    ·rintro⟨h1,o',q,h2,h3⟩;have hne:i≠k:=by
      rintro rfl;simp at h2;subst h2;rw[hi]at h3;cases h3
     refine⟨by omega,?_⟩;have⟨o'',h4,q',h5⟩:=(shift i (λo'=>∃q,gU d o'=So q) (by omega)).2 ⟨o',h2,q,h3⟩;exact⟨o'',q',h4,h5⟩
   ·have h1:=((g3 i).1 hij).1;rw[show i-k=(i-(k+1))+1 by omega]at ho';exact g5 i hij o' q (by simpa using ho') hq
  |some q0=>
   have⟨ty,kk,xx⟩:=q0;rw[hi]at h;cases hk:yx P d l R with
   |none=>grind
   |some es'=>
    rw[hk]at h;simp only at h;cases hv:D9 r.v with
    |none=>grind
    |some kv=>
     rw[hv]at h;simp only at h;cases hc:(ko P ty kv.1&&Av kv.1 es')with
     |false=>grind
     |true=>
      rw[hc]at h;cases h;simp at hc;have⟨js,g1,g2,g3,g4,g5,g6⟩:=Is hR' hk;have hKV:KV R0 k=kv:=by unfold KV;grind
      have hnk:k∉js:=λhm=>by grind
      have hfr:=NI hc.2;refine⟨k::js,by grind,List.nodup_cons.2 ⟨hnk,g2⟩,λi=>?_,λi hij=>?_,λi hij o' q ho' hq=>?_,λi hij i' hij' hne=>?_⟩
      ·rw[Q2,g3];constructor
       ·rintro(rfl|⟨h1,o',q,h2,h3⟩)
        ·exact⟨Q1 _,o,(ty,kk,xx),by simp,hi⟩
        ·refine⟨by omega,?_⟩;have⟨o'',h4,q',h5⟩:=(shift i (λo'=>∃q,gU d o'=So q) h1).1 ⟨o',h2,q,h3⟩;exact⟨o'',q',h4,h5⟩
       ·rintro⟨h1,o',q,h2,h3⟩;by_cases e:i=k
        ·exact .inl e
        ·right;refine⟨by omega,?_⟩;have⟨o'',h4,q',h5⟩:=(shift i (λo'=>∃q,gU d o'=So q) (by omega)).2 ⟨o',h2,q,h3⟩;exact⟨o'',q',h4,h5⟩
      ·rcases Q2.1 hij with rfl|hij
       ·rw[hKV,hr];exact hv
       ·exact g4 i hij
      ·rcases Q2.1 hij with rfl|hij
       ·simp at ho';subst ho';rw[hi]at hq;cases hq;rw[hKV];exact hc.1
       ·have h1:=((g3 i).1 hij).1;rw[show i-k=(i-(k+1))+1 by omega]at ho';exact g5 i hij o' q (by simpa using ho') hq
      ·rcases Q2.1 hij with e1|m1<;>rcases Q2.1 hij' with e2|m2
       ·exact absurd (e1.trans e2.symm) hne
       ·rw[e1,hKV];exact(hfr _ (by rw[g1];exact J4.2 ⟨i',m2,rfl⟩)).1
       ·rw[e2,hKV];exact(hfr _ (by rw[g1];exact J4.2 ⟨i,m1,rfl⟩)).2
       ·exact g6 i m1 i' m2 hne
theorem Oo{k x:Operand}(h:gU d o=So (ty,k,x)):o.guard=No/\o.dst=No/\o.op=.insert ty (.tmp d) k x:=by grind[gU,bh]
theorem Py(h:yz o=So d):o.guard=No/\o.dst=So d/\∃ty,o.op=.makeMap ty none:=by grind[yz]
theorem T4(d:Tmp)(o:Oper):(kI d o).after=o.after:=by grind[kI]
section
variable {ex:Tmp->Prop}{xb:Option (Nat×Obj)}{D Pd:Nat->Prop}{X:St}{β ν:Nat->Nat}{ζ:Nat->Value}
theorem Inv.acs(h:Inv ops R nt E H0 ex xb D Pd p q a H E' X β ν ζ)(he:ex d)(hd:∀(i:Nat) (o:Oper),ops[i]? = So o->o.dst≠So d)(z:Value):Inv ops R nt E H0 ex xb D Pd p q (a.put (So d) z) H E' X β ν ζ:=by
 have hg:∀x,x≠d->(a.put (So d) z).tmps.getD x undef=a.tmps.getD x undef:=by simp_all[Act.put,Q6]
 have ne:∀(x:Tmp) (i:Nat) (o:Oper),ops[i]? = So o->o.dst=So x->x≠d:=λx i o ho hx e=>hd i o ho (e▸hx)
 refine⟨h.st,by simpa[Act.put]using h.sz,λx i o hD ho hx hn=>?_,λx i o hD ho hx ha hq=>?_,λx hxe hx=>?_,h.gap,h.next,h.freshP,h.lows,h.undone,h.rest,h.pend,h.inj,h.xtra⟩
 ·rw[hg x (ne x i o ho hx)];exact h.slotV x i o hD ho hx hn
 ·rw[hg x (ne x i o ho hx)];exact h.slotP x i o hD ho hx ha hq
 ·rw[hg x (λe=>hxe (e▸he))];exact h.slot0 x hxe hx
theorem Inv.acd(h:Inv ops R nt E H0 ex No D Pd p q a H E' X β ν ζ){b:Nat}(h1:H0.size<=b)(h2:H[b]? = So ob)(h3:Un E' X b)(h4:∀i,D i->dF ops R i->Pd i->β i≠b):
  Inv ops R nt E H0 ex (So (b,ob)) D Pd p q a H E' X β ν ζ :=
 ⟨h.st,h.sz,h.slotV,h.slotP,h.slot0,h.gap,h.next,h.freshP,h.lows,h.undone,h.rest,h.pend,h.inj,λ_ _ e=>by grind⟩
theorem Inv.abe(hr0:Rel E H0 (recAt R 0).st){b:Nat}(h:Inv ops R nt E H0 ex (So (b,ob)) D Pd p q a H E' X β ν ζ)(hnc:∀cs t fz,ob≠Obj.cells cs t fz)(ob':Obj):
  Inv ops R nt E H0 ex (So (b,ob')) D Pd p q a (H.setIfInBounds b ob') E' X β ν ζ:=by
 have⟨u1,u2,u3,u4⟩:=h.xtra b ob rfl;refine⟨h.st.yK (.inr u1) u3 ob' (dZ.zd (λcs t fz e=>hnc cs t fz (Q3 (u2.symm.trans e)))),h.sz,h.slotV,h.slotP,h.slot0,h.gap,h.next,h.freshP,h.lows,h.undone,h.rest,λi hd ha hq=>?_,h.inj,λ_ _ e=>?_⟩
 ·have⟨v1,v2,v3,v4,v5⟩:=h.pend i hd ha hq;refine⟨v1,by grind,v3,λl hl g=>(v4 l hl g).mono (.refl _) ?_,v5⟩;grind
 grind
def Cn(ops:Array Oper)(d:Tmp)(h:Nat)(R:List Rec)(D:Nat->Prop)(E':Env)(a:Act)(xb:Option (Nat×Obj)):Prop :=
 ∃(μ:Nat) (ents:Array MapEntry) (clock:Nat) (js:List Nat) (m:Nat->MapEntry),xb=So (μ,.map ents clock)/\a.tmps.getD d undef=.map (So μ)/\ents.toList=js.map m/\js.Nodup/\
  (∀i,i∈js↔qB ops d h i/\D i)/\∀i∈js,Conc E' (KV R i).1 (m i).key/\Conc E' (KV R i).2 (m i).val
theorem Nc{x:Operand}(h:∀y,x=.tmp y->Conc E (ab t y) (a.tmps.getD y undef)):Conc E (ah t x) (a.eval x):=by
 cases x with
 |tmp y=>exact h y rfl
 |const v=>exact vB v
 |global g=>exact .gp g
 |func f=>exact .f (.func f) [] [] [] [] rfl .nil .nil
theorem FQ(h:o.guard=No)(y:Nat->Option Bool):Region.wanted o y=true:=by unfold Region.wanted;rw[h]
theorem XX(hS:bK P S)(hM:zH ops aops bs bsF i0 d h)(hR:ji P S nt aops R)(hL:Looks P S aops bs R)(hr0:Rel E H0 (recAt R 0).st)(hn:(recAt R aops.size).st.next<=E.top)(hdn:d<nt)
  (hkf:∀i o q,i<h->ops[i]? = So o->gU d o=So q->ko P q.1 (KV R i).1=Tt) (hkd:∀i i',qB ops d h i->qB ops d h i'->i≠i'->iu (KV R i).1 (KV R i').1=So Ff) (hI:Inv aops R nt E H0 (λx=>x=d) xb D (λi=>q<=i) p q a w.heap E' X β ν ζ) (hno:¬D i0->xb=No) (hyes:D i0->Cn ops d h R D E' a xb)
  (hdown:∀j,D j->∀i,(aV bs j).testBit i=Tt->D i) (hjh:j<h) (ho:ops[j]? = So o) (hj:¬D j) (hrdy:∀i,(aV bs j).testBit i=Tt->D i) (cs:List Frame) (rest:List Nat):
  ∃p' q' a' w' E'' X' β' ν' ζ' xb',Inv aops R nt E H0 (λx=>x=d) xb' (λi=>i=j\/D i) (λi=>q'<=i) p' q' a' (World.heap w') E'' X' β' ν' ζ'/\(¬(i0=j\/D i0)->xb'=No) /\
   ((i0=j\/D i0)->Cn ops d h R (λi=>i=j\/D i) E'' a' xb')/\a'.defers=a.defers/\(w'.os=w.os/\w'.output=w.output)/\
   Steps P (lone (b.atR a (.inRegion ops (j::rest)::k)) cs w) (lone (b.atR a' (.inRegion ops rest::k)) cs w'):=by
 have hao:=hM.aop j o hjh ho;have⟨o0,ho0,hmk0⟩:=hM.mkr;have hnoIns0:¬qB ops d h i0:=by rintro⟨_,o',q',h1,h2⟩;rw[ho0]at h1;cases h1;have⟨ty,kk,xx⟩:=q';have e1:=(Oo h2).2.2;have⟨ty',e2⟩:=(Py hmk0).2.2;grind
 have hadst:∀(i:Nat) (oa:Oper),aops[i]? = So oa->oa.dst≠So d:=by
  intro i oa hoa;have hih:i<h:=by have:=(Q4.1 hoa).1;rw[hM.asz]at this;grind
  have hin:i<ops.size:=Q7 hih hM.hn;have hoi:ops[i]? = So ops[i]:=by grind
  rw[hM.aop i _ hih hoi]at hoa;grind[kI,gU]
 cases hins:gU d o with
 |some qq=>
  have⟨ty,kk,xx⟩:=qq;have⟨hg,hdst,hop⟩:=Oo hins;have hji:j≠i0:=by rintro rfl;exact hnoIns0 ⟨hjh,o,_,ho,hins⟩
  have hD0:D i0:=hrdy i0 (hM.ins j o _ hjh ho hins);obtain⟨μ,ents,clock,js,m,rfl,hμ,hents,hnd,hjs,hcc⟩:=hyes hD0;have habs:kI d o={o with op:=.makeFunc (.func 0) #[] #[kk,xx]}:=by unfold kI;rw[hins]
  rw[habs]at hao;have hsee:=hI.Rw hM.set hR hdown hao hj hrdy (λx hx e=>by have:=hM.look j o hjh ho;rw[habs]at this;exact this (e▸hx));have⟨r1,r2,r3,r4⟩:=hR j _ hao;have hW:(recAt R j).w=true:=by unfold gL at r1;rw[hg]at r1;exact(Q3 r1).symm
  have hv:=r4 hW;have hV:(recAt R j).v=.f (.func 0) [] [ah (recAt R j).t kk,ah (recAt R j).t xx]:=by have:cC P S (recAt R j).t (recAt R j).st {o with op:=.makeFunc (.func 0) #[] #[kk,xx]}=So (.f (.func 0) [] [ah (recAt R j).t kk,ah (recAt R j).t xx],(recAt R j).st):=rfl;rw[this]at hv;exact(Z5 (Q3 hv)).1.symm
  have hKV:KV R j=(ah (recAt R j).t kk,ah (recAt R j).t xx):=by unfold KV;rw[hV];rfl
  have look:∀y,(kk=.tmp y\/xx=.tmp y)->y∈Oper.looksAt aops {o with op:=.makeFunc (.func 0) #[] #[kk,xx]}:=by intro y hy;refine List.mem_append_left _ (List.mem_filterMap.2 ⟨.tmp y,?_,rfl⟩);simp[Op.operands];rcases hy with rfl|rfl<;>simp
  have hck:Conc E' (ah (recAt R j).t kk) (a.eval kk):=Nc λy hy=>hsee y (look y (.inl hy))
  have hcx:Conc E' (ah (recAt R j).t xx) (a.eval xx):=Nc λy hy=>hsee y (look y (.inr hy))
  have hisj:qB ops d h j:=⟨hjh,o,_,ho,hins⟩;have⟨u1,u2,u3,u4⟩:=hI.xtra μ _ rfl;have hfit:ko P ty (ah (recAt R j).t kk)=true:=by have:=hkf j o _ hjh ho hins;rw[hKV]at this;exact this
  have hrun:=Yt (P:=P) (w:=w) (uv:=a.eval xx) hfit hck u2 (λmm hmm=>by
   rw[hents]at hmm;obtain⟨i,hi,rfl⟩:=J4.1 hmm;have hii:=(hjs i).1 hi;have hne:j≠i:=by rintro rfl;exact hj hii.2
   have:=hkd j i hisj hii.1 hne;rw[hKV]at this;exact⟨_,this,(hcc i hi).1⟩)
  let nm:Obj:=.map (ents.push {key:=a.eval kk,val:=a.eval xx,born:=clock}) (clock+1)
  have hstep:∀cs rest,Steps P (lone (b.atR a (.inRegion ops (j::rest)::k)) cs w) (lone (b.atR a (.inRegion ops rest::k)) cs {w with heap:=w.heap.setIfInBounds μ nm}):=by
   intro cs rest;have hex:(execOp a.eval o).run P w=.ok .skip {w with heap:=w.heap.setIfInBounds μ nm}:=by have hmu:a.eval (.tmp d)=.map (So μ):=hμ;simp[execOp,hop,hmu,hrun,nm]
   have hnd':∀c,o.op≠.defer c:=λc e=>by rw[hop]at e;cases e
   have:=Q0 (JW (b:=b) (a:=a) (k:=k) (cs:=cs) (rest:=rest) ho (FQ hg _) hnd' hex);rw[hdst]at this;exact this
  have hkk:¬kF aops j:=λ⟨o',h1,h2⟩=>by rw[hao]at h1;cases h1;simp[kind]at h2
  have hnA:¬dF aops R j:=λ⟨o',h1,h2,_⟩=>by rw[hao]at h1;cases h1;simp[kind]at h2
  have hI2:=(hI.abe hr0 (λ_ _ _ e=>by cases e) nm).add hM.set hR hao hj hkk (z:=.func (.func 0) #[] #[a.eval kk,a.eval xx]) (λ_=>by rw[hV];exact .f (.func 0) [] _ [] [a.eval kk,a.eval xx] rfl .nil (.cons _ _ _ _ hck (.cons _ _ _ _ hcx .nil))) (λha=>absurd ha hnA);have hput:a.put ({o with op:=.makeFunc (.func 0) #[] #[kk,xx]}:Oper).dst (.func (.func 0) #[] #[a.eval kk,a.eval xx])=a:=by
   show a.put o.dst _=a
   rw[hdst];rfl
  rw[hput]at hI2;refine⟨p,q,a,{w with heap:=w.heap.setIfInBounds μ nm},E',X,β,ν,ζ,So (μ,nm),hI2,λhn=>absurd (.inr hD0) hn,λ_=>?_,rfl,⟨rfl,rfl⟩,hstep cs rest⟩;refine⟨μ,_,_,js++[j],λi=>if i=j then {key:=a.eval kk,val:=a.eval xx,born:=clock} else m i,rfl,hμ,?_,?_,λi=>?_,λi hi=>?_⟩
  ·rw[Array.toList_push,hents,List.map_append];congr 1
   ·refine List.map_congr_left λi hi=>?_
    have hne:i≠j:=by rintro rfl;exact hj ((hjs i).1 hi).2
    rw[if_neg hne]
   ·simp
  ·rw[List.nodup_append];refine⟨hnd,by simp,λx hx y hy e=>?_⟩;have:y=j:=by simpa using hy
   subst this;subst e;exact hj ((hjs x).1 hx).2
  ·rw[Z6,hjs];constructor
   ·rintro(⟨h1,h2⟩|h1)
    ·exact⟨h1,.inr h2⟩
    ·have:i=j:=by simpa using h1
     subst this;exact⟨hisj,.inl rfl⟩
   ·rintro⟨h1,rfl|h2⟩
    ·exact .inr (by simp)
    ·exact .inl ⟨h1,h2⟩
  ·rcases Z6.1 hi with m1|m1
   ·have hne:i≠j:=λe=>hj (e▸((hjs i).1 m1).2)
    simp[if_neg hne];exact hcc i m1
   ·have:i=j:=by simpa using m1
    subst this;simp[if_pos,hKV];exact⟨hck,hcx⟩
 |none=>
  by_cases hj0:j=i0
  ·
   subst hj0;obtain rfl:o0=o:=Q3 (ho0.symm.trans ho);have⟨hg,hdst,ty,hop⟩:=Py hmk0;have hxn:=hno hj;subst hxn;have habs:kI d o0={o0 with op:=.move (.const (.bool Tt)),dst:=No}:=by
    unfold kI;rw[hins];have:(o0.dst==So d)=true:=by rw[hdst];simp
    simp[this]
   rw[habs]at hao;have⟨r1,r2,r3,r4⟩:=hR j _ hao;have hW:(recAt R j).w=true:=by unfold gL at r1;rw[hg]at r1;exact(Q3 r1).symm
   have hV:(recAt R j).v=.b true:=by have hv:=r4 hW;have:cC P S (recAt R j).t (recAt R j).st {o0 with op:=.move (.const (.bool Tt)),dst:=No}=So (.b Tt,(recAt R j).st):=rfl;rw[this]at hv;exact(Z5 (Q3 hv)).1.symm
   have hkk:¬kF aops j:=λ⟨o',h1,h2⟩=>by rw[hao]at h1;cases h1;simp[kind]at h2
   have hnA:¬dF aops R j:=λ⟨o',h1,h2,_⟩=>by rw[hao]at h1;cases h1;simp[kind]at h2
   have hnB:Un E' X w.heap.size:=by refine hI.st.rel.Ks (Q1 _) ?_;rintro⟨r,row,C,hr,hC,hb⟩;have⟨C',hC',hR'⟩:=hI.st.rel.rows _ _ hr;rw[hC]at hC';cases hC';have:=hR'.lt;omega
   have hI2:=(((hI.other (.map #[] 0)).acd (b:=w.heap.size) (ob:=.map #[] 0) hI.st.fr.size (by simp) hnB (λi hd ha hq=>by have:=(hI.pend i hd ha hq).2.1; omega)).add hM.set hR hao hj hkk
    (z:=.bool Tt) (λ_=>by rw[hV];exact .b Tt) (λha=>absurd ha hnA)).acs (d:=d) rfl hadst (.map (So w.heap.size))
   have hput:(a.put ({o0 with op:=.move (.const (.bool Tt)),dst:=No}:Oper).dst (.bool Tt))=a:=rfl;rw[hput]at hI2;have hstep:∀cs rest,Steps P (lone (b.atR a (.inRegion ops (j::rest)::k)) cs w) (lone (b.atR (a.put (So d) (.map (So w.heap.size))) (.inRegion ops rest::k)) cs {w with heap:=w.heap.push (.map #[] 0)}):=by
    intro cs rest;have hex:(execOp a.eval o0).run P w=.ok (.value (.map (So w.heap.size))) {w with heap:=w.heap.push (.map #[] 0)}:=by simp[execOp,hop,Instr.makeMap]
    have hnd':∀c,o0.op≠.defer c:=λc e=>by rw[hop]at e;cases e
    have:=Q0 (BQ (b:=b) (a:=a) (k:=k) (cs:=cs) (rest:=rest) ho0 (FQ hg _) hnd' hex);rw[hdst]at this;exact this
   refine⟨p,q,a.put (So d) (.map (So w.heap.size)),{w with heap:=w.heap.push (.map #[] 0)},E',X,β,ν,ζ,_,hI2,λhn=>absurd (.inl rfl) hn,λ_=>?_,rfl,⟨rfl,rfl⟩,hstep cs rest⟩;refine⟨w.heap.size,#[],0,[],λ_=>{key:=undef,val:=undef,born:=0},rfl,?_,by simp,List.nodup_nil,λi=>?_,λi hi=>by cases hi⟩
   ·simp only[Act.put,Z7];rw[Array.getElem?_setIfInBounds_self];have:d<a.tmps.size:=by rw[hI.sz];exact hdn
    simp[this]
   ·constructor
    ·intro h;cases h
    ·rintro⟨h1,rfl|h2⟩
     ·exact absurd h1 hnoIns0
     ·have⟨h3,o',q',h4,h5⟩:=h1;exact absurd (hdown i h2 j (hM.ins i o' q' h3 h4 h5)) hj
  ·
   have hod:o.dst≠So d:=hM.dst j o hjh ho hins hj0;have habs:kI d o=o:=by
    unfold kI;rw[hins];have:(o.dst==So d)=false:=by
     cases hb:(o.dst==So d)with
     |false=>rfl
     |true=>exact absurd (by simpa using hb) hod
    simp[this]
   rw[habs]at hao;have hwy:Region.wanted o (yielded ops a.tmps)=Region.wanted o (yielded aops a.tmps):=by
    unfold Region.wanted;cases hg:o.guard with
    |none=>rfl
    |some gw=>
     have⟨g,wnt⟩:=gw;have⟨g1,g2⟩:=hM.gd j o hjh ho g wnt hg;have hgn:g<ops.size:=Q7 g1 hM.hn;have hog:ops[g]? = So ops[g]:=by simp[hgn]
     have hag:=hM.aop g _ g1 hog;have hd':(kI d ops[g]).dst=ops[g].dst:=by
      unfold kI;cases hi:gU d ops[g] with
      |some qq=>rfl
      |none=>
       simp only;have:=hM.dst g _ g1 hog hi g2;cases hb:(ops[g].dst==So d)with
       |false=>rfl
       |true=>exact absurd (by simpa using hb) this
     have:yielded ops a.tmps g=yielded aops a.tmps g:=by unfold yielded;rw[hog,hag];simp[hd']
     simp[this]
   have⟨p',q',a',w',E'',X',β',ν',ζ',h1,h2,h3,⟨h4,h5⟩,h6⟩:=hI.NS hS hM.set hR hL hr0 hn (b:=b) (k:=k) hdown hao hj hrdy (λx hx e=>by have:=hM.look j o hjh ho;rw[habs]at this;exact this (e▸hx)) (mops:=ops) ho (λ_=>rfl) rfl rfl hwy cs rest;refine⟨p',q',a',w',E'',X',β',ν',ζ',xb,h1,λhn=>hno λhd=>hn (.inr hd),λhd=>?_,h2,h3,h6⟩;have⟨μ,ents,clock,js,m,k1,k2,k3,k4,k5,k6⟩:=hyes (hd.resolve_left (λe=>hj0 e.symm));refine⟨μ,ents,clock,js,m,k1,by rw[h5 d hod];exact k2,k3,k4,λi=>?_,λi hi=>⟨(k6 i hi).1.mono h4,(k6 i hi).2.mono h4⟩⟩;rw[k5];constructor
   ·rintro⟨e1,e2⟩;exact⟨e1,.inr e2⟩
   ·rintro⟨e1,rfl|e2⟩
    ·have⟨_,o',q',e3,e4⟩:=e1;rw[ho]at e3;cases e3;rw[hins]at e4;cases e4
    ·exact⟨e1,e2⟩
end
theorem aag{k:Nat}:∀{l:List Nat},l.Nodup->(∀x,x∈l↔x=k)->l=[k]
 |[],_,h=>by simp_all
 |x::l,hn,h=>by
  have hx:x=k:=(h x).1 (Q8 ..);subst hx;cases l with
  |nil=>rfl
  |cons y l=>simp_all
theorem Uy(hM:zH ops aops bs bsF i0 d h):∀(j:Nat) (o:Oper),ops[j]? = So o->∀i,(aV bsF j).testBit i=Tt->i<j:=by
 intro j;induction j using Nat.strongRecOn with
 |_ j ih=>intro o ho i hi;have⟨e,he,hb,h1⟩:=hM.befF j o i ho hi;have hlt:=hM.edgeF j o ho e he hb;grind
theorem adh(hM:zH ops aops bs bsF i0 d h):∀(fuel t:Nat) (listed:Array Bool) (k:Nat),listed.size=ops.size->h<=k->k+fuel=ops.size->(∀i,listed.getD i Ff=Tt↔i<k)->
  Region.linearise.go .any ops fuel t listed []=List.range' k fuel:=by
 intro fuel;induction fuel with
 |zero=>intro t listed k hsz hk hf hl;rfl
 |succ fuel ih=>
  intro t listed k hsz hk hf hl;have hkn:k<ops.size:=by omega
  have hok:ops[k]? = So ops[k]:=by grind
  have hready:Region.ready .any ops listed=[k]:=by
   refine aag ((Z8).filter _) λi=>?_
   rw[mem_ready];constructor
   ·rintro⟨h0,o,ho,hal⟩;have hin:i<ops.size:=(Q4.1 ho).1;rcases Z9 k i with hlt|hge
    ·have hb:=hM.tail i (by omega) hin k hlt;have⟨e,he,hbd,h1⟩:=hM.befF i o k ho hb;have hli:=(hl e.on).1 (hal e he hbd);rcases h1 with h1|h1
     ·omega
     ·have:=Uy hM e.on ops[e.on] (by grind) k h1;omega
    grind
   ·rintro rfl;refine⟨?_,ops[i],hok,λe he hb=>(hl e.on).2 (hM.edgeF i _ hok e he hb)⟩;grind
  change (match (Region.ready .any ops listed)[t % (Region.ready .any ops listed).length]? with
   |some i=>Region.linearise.go .any ops fuel (t / (Region.ready .any ops listed).length) (listed.setIfInBounds i Tt) [i]
   |none=>[].reverse)=_
  rw[hready];have hz:t % [k].length=0:=by grind
  rw[hz];simp[];rw[linearise_go_acc,K8,V0,V1];congr 1;refine ih _ _ (k+1) (by grind) (by omega) (by omega) λi=>?_
  by_cases e:i=k
  ·simp_all
  ·rw[getD_set_ne Ff (Q6 e),hl];omega
theorem ab7(hS:bK P S)(hM:zH ops aops bs bsF i0 d h)(hR:ji P S nt aops R)(hL:Looks P S aops bs R)(hr0:Rel E H0 (recAt R 0).st)(hn:(recAt R aops.size).st.next<=E.top)(hdn:d<nt)
  (hkf:∀i o q,i<h->ops[i]? = So o->gU d o=So q->ko P q.1 (KV R i).1=Tt) (hkd:∀i i',qB ops d h i->qB ops d h i'->i≠i'->iu (KV R i).1 (KV R i').1=So Ff):
  ∀(n t:Nat) (listed:Array Bool) (L:List Nat),listed.size=ops.size->L.Nodup->L.length=n->(∀i,i∈L↔i<h/\listed.getD i Ff=Ff)->(∀i,listed.getD i Ff=Tt->i<h)->
   (∀j,listed.getD j Ff=Tt->∀i,(aV bs j).testBit i=Tt->listed.getD i Ff=Tt)->(∀j,listed.getD j Ff=Tt->∀i,(aV bsF j).testBit i=Tt->listed.getD i Ff=Tt)->
   ∀{p q:Nat}{a:Act}{w:World}{E':Env}{X:St}{β ν:Nat->Nat}{ζ:Nat->Value}{xb:Option (Nat×Obj)},Inv aops R nt E H0 (λx=>x=d) xb (λi=>listed.getD i Ff=Tt) (λi=>q<=i) p q a w.heap E' X β ν ζ->
   (¬listed.getD i0 Ff=Tt->xb=No)->(listed.getD i0 Ff=Tt->Cn ops d h R (λi=>listed.getD i Ff=Tt) E' a xb)->
   ∃p' q' a' w' E'' X' β' ν' ζ' xb' t' listed',Inv aops R nt E H0 (λx=>x=d) xb' (λi=>i<h) (λi=>q'<=i) p' q' a' (World.heap w') E'' X' β' ν' ζ'/\Cn ops d h R (λi=>i<h) E'' a' xb' /\
    a'.defers=a.defers/\(w'.os=w.os/\w'.output=w.output)/\Array.size listed'=ops.size/\(∀i,listed'.getD i Ff=Tt↔i<h)/\
    Steps P (lone (b.atR a (.inRegion ops (Region.linearise.go .any ops (n+(ops.size-h)) t listed [])::k)) ks w) (lone (b.atR a' (.inRegion ops (Region.linearise.go .any ops (ops.size-h) t' listed' [])::k)) ks w'):=by
 intro n;induction n with
 |zero=>
  intro t listed L hsz hnd hlen hL' hlt hdown hdownF p q a w E' X β ν ζ xb hI hno hyes;have hall:∀i,listed.getD i Ff=Tt↔i<h:=by grind
  have hfun:(λi=>listed.getD i Ff=Tt)=λi=>i<h:=funext λi=>propext (hall i)
  have hI':=hI;have hy:=hyes ((hall i0).2 hM.ih);rw[hfun]at hI' hy;refine⟨p,q,a,w,E',X,β,ν,ζ,xb,t,listed,hI',hy,rfl,⟨rfl,rfl⟩,hsz,hall,?_⟩;rw[J5];exact .refl _ _
 |succ n ih=>
  intro t listed L hsz hnd hlen hL' hlt hdown hdownF p q a w E' X β ν ζ xb hI hno hyes;have hex:∃i,i<h/\¬listed.getD i Ff=true:=by
   cases hLL:L with
   |nil=>grind
   |cons x l=>grind[Q8]
  obtain⟨j0,hj0,hu0,hall0⟩:=Iv h hex;have hj0n:j0<ops.size:=Q7 hj0 hM.hn;have hr0':j0∈Region.ready .any ops listed:=by refine mem_ready.2 ⟨?_,ops[j0],by simp[hj0n],λe he hb=>hall0 e.on (hM.edgeF j0 _ (by simp[hj0n]) e he hb)⟩;grind
  have hfu:n+1+(ops.size-h)=(n+(ops.size-h))+1:=by omega
  rw[hfu]
  change ∃p' q' a' w' E'' X' β' ν' ζ' xb' t' listed',_/\_/\_/\_/\_/\_/\Steps P (lone (b.atR a (.inRegion ops (match (Region.ready .any ops listed)[t % (Region.ready .any ops listed).length]? with
   |some i=>Region.linearise.go .any ops (n+(ops.size-h)) (t / (Region.ready .any ops listed).length) (listed.setIfInBounds i Tt) [i]
   |none=>[].reverse)::k)) ks w) _
  cases hi:(Region.ready .any ops listed)[t % (Region.ready .any ops listed).length]? with
  |none=>
   exfalso;cases hr:Region.ready .any ops listed with
   |nil=>rw[hr]at hr0';cases hr0'
   |cons x xs=>rw[hr]at hi;have hlt:t % (x::xs).length<(x::xs).length:=Nat.mod_lt _ (by simp);simp at hi;simp at hlt;omega
  |some j=>
   have hjr:j∈Region.ready .any ops listed:=List.mem_of_getElem? hi;obtain⟨hjz,o,ho,hal⟩:=mem_ready.1 hjr;have hjn:j<ops.size:=(Q4.1 ho).1;have hjl:j<listed.size:=by omega
   have hj:listed.getD j Ff=false:=by simp at hjz|-;simp[hjl]at hjz|-;exact hjz
   have hrdyF:∀i,(aV bsF j).testBit i=Tt->listed.getD i Ff=true:=by
    intro i hb;obtain⟨e,he,hbi,h1⟩:=hM.befF j o i ho hb;rcases h1 with rfl|h1
    ·exact hal e he hbi
    ·exact hdownF e.on (hal e he hbi) i h1
   have hjh:j<h:=by
    rcases Z9 j h with h1|h1
    ·exact h1
    ·exact absurd (hrdyF j0 (hM.tail j h1 hjn j0 (by omega))) hu0
   have hrdy:∀i,(aV bs j).testBit i=Tt->listed.getD i Ff=true:=by
    intro i hb;obtain⟨e,he,hbi,h1⟩:=hM.set.bef j _ i (hM.aop j o hjh ho) hb;rw[T4]at he;rcases h1 with rfl|h1
    ·exact hal e he hbi
    ·exact hdown e.on (hal e he hbi) i h1
   obtain⟨p',q',a',w',E'',X',β',ν',ζ',xb',g1,g2,g3,g4,g5,g6⟩:=XX hS hM hR hL hr0 hn hdn hkf hkd hI hno hyes hdown hjh ho (by rw[hj];simp) hrdy ks (Region.linearise.go .any ops (n+(ops.size-h)) (t / (Region.ready .any ops listed).length) (listed.setIfInBounds j Tt) []);have hset:∀i,(listed.setIfInBounds j Tt).getD i Ff=Tt↔i=j\/listed.getD i Ff=true:=by
    intro i;by_cases e:i=j
    ·subst e;simp;simp[hjl]
    ·rw[getD_set_ne Ff (Q6 e)];simp[e]
   have hfun:(λi=>(listed.setIfInBounds j Tt).getD i Ff=Tt)=λi=>i=j\/listed.getD i Ff=true:=funext λi=>propext (hset i)
   have hjL:j∈L:=(hL' j).2 ⟨hjh,hj⟩;obtain⟨p2,q2,a2,w2,E2,X2,β2,ν2,ζ2,xb2,t2,listed2,k1,k2,k3,k4,k5,k6,k7⟩:=ih (t / (Region.ready .any ops listed).length) (listed.setIfInBounds j Tt) (L.erase j) (by simpa using hsz) (hnd.erase j) (by rw[List.length_erase_of_mem hjL];omega) (by
    intro i;rw[hnd.mem_erase_iff,hL' i];constructor
    ·rintro⟨h1,h2,h3⟩;refine⟨h2,?_⟩;rw[getD_set_ne Ff (Q6 h1)];exact h3
    ·rintro⟨h1,h2⟩;have hne:i≠j:=by
      rintro rfl;have:=(hset i).2 (.inl rfl);rw[this]at h2;cases h2
     rw[getD_set_ne Ff (Q6 hne)]at h2;exact⟨hne,h1,h2⟩) (by
    intro i hd;rw[hset]at hd;rcases hd with rfl|hd
    ·exact hjh
    ·exact hlt i hd) (by
    intro i hd i' hb;rw[hset]at hd|-;rcases hd with rfl|hd
    ·exact .inr (hrdy i' hb)
    ·exact .inr (hdown i hd i' hb)) (by
    intro i hd i' hb;rw[hset]at hd|-;rcases hd with rfl|hd
    ·exact .inr (hrdyF i' hb)
    ·exact .inr (hdownF i hd i' hb)) (by rw[hfun];exact g1) (λhn'=>g2 λhd=>hn' ((hset i0).2 hd)) (λhd=>by rw[hfun];exact g3 ((hset i0).1 hd))
   refine⟨p2,q2,a2,w2,E2,X2,β2,ν2,ζ2,xb2,t2,listed2,k1,k2,k3.trans g4,⟨k4.1.trans g5.1,k4.2.trans g5.2⟩,k5,k6,?_⟩;simp;rw[linearise_go_acc,K8,V0];exact g6.trans k7
theorem Zj{fl:List (Nat ×Nat)}(hfl:fl=tf (ops.toList.map λo=>kind o.op) bs (0 :: qg (ops.toList.map λo=>kind o.op) 0) (ops.toList.map λo=>kind o.op) 0)
  (hsz:R.length=ops.size+1) (hall:fl.all (recheck P S ops R)=Tt):Looks P S ops bs R:=by
 generalize hks:ops.toList.map (λo=>kind o.op)=ks at hfl;have hks':∀(i:Nat) (o:Oper),ops[i]? = So o->ks[i]? = So (kind o.op):=by grind
 have hksr:∀(i m:Nat),ks[i]? = So m->∃o,ops[i]? = So o/\kind o.op=m:=by grind
 intro j p o ho hk hw hp;have hpn:p<=ops.size:=by
  rcases hp with rfl|⟨kk,rfl,o',h1,_⟩
  ·omega
  ·have:=(Q4.1 h1).1;omega
 cases hpin:pinned ks bs j p with
 |true=>
  unfold pinned at hpin;simp at hpin;rcases hpin with h1|h1|⟨h1,h2⟩
  ·grind
  ·have⟨i,k1,k2,k3⟩:=Gx h1;have⟨o',k4,k5⟩:=hksr i 3 k1;exact .inr (.inl ⟨i,⟨o',k4,k5⟩,by omega,by grind⟩)
  grind[Nat.ble_eq,GY]
 |false=>
  refine .inr (.inr (.inr (QT hsz hall ho ?_ hpn hw)));have hmem:p∈(0::qg ks 0):=by
   rcases hp with rfl|⟨kk,rfl,o',h1,h2⟩
   ·simp
   ·have hk3:ks[kk]? = So 3:=by grind
    have:=JV (k:=0) hk3;grind
  have:=HT (ks:=ks) (bs:=bs) (l:=ks) (k:=0) (j:=j) (by grind) hmem (by grind);grind
theorem ME{E:Env}{f:Nat->AV×AV}{m:Nat->MapEntry}:∀{js:List Nat},(∀i∈js,Conc E (f i).1 (m i).key/\Conc E (f i).2 (m i).val)->sI E (js.map f) (js.map m)
 |[],_=>trivial
 |j::js,h=>⟨h j (Q8 ..),ME λi hi=>h i (J6 _ hi)⟩
theorem Wg(hS:bK x.P x.S){id:Nat}(hr:Rel E w.heap st)(ht:bX E x.nt t a.tmps)(hmk:Marks n0 b.defers E w.heap st a.defers)
  {m:vX} (hm:yJ ops=So m) (hl:(uW x.P x.S x.nt ops t st (So m)).lim E.top):cL x.P ks n0 E x.nt b w st (lone (b.atR a (.code (.region id ops Tt)::k)) ks w) k (uW x.P x.S x.nt ops t st (So m)):=by
 obtain⟨bs,bsF,hM,hfl⟩:=aba hm;unfold uW Hs at hl|-;simp only at hl|-;cases hrc:cj x.P x.S x.nt m.aops m.aops.toList t st with
 |none=>trivial
 |some R=>
  rw[hrc]at hl;simp only at hl|-;cases hall:m.fl.all (recheck x.P x.S m.aops R)with
  |false=>trivial
  |true=>
   rw[hall]at hl;simp at hl|-;cases hkv:yx x.P m.d (ops.toList.take m.h) R with
   |none=>trivial
   |some es=>
    rw[hkv]at hl;simp only at hl|-;obtain⟨e1,e2,e3,e4⟩:=Fa hrc;have hsz:R.length=m.aops.size+1:=by grind
    rw[Iu hsz]at hl|-;unfold Pi Ed at hl|-;simp only at hl|-;have hah:m.aops.size=m.h:=hM.asz;rw[hah]at hl|-;cases hp:dE x.nt (recAt R m.h).t (So m.d) (.m (recAt R m.h).st.next)with
    |none=>trivial
    |some t2=>
     rw[hp]at hl;simp[Tr.seen_eq]at hl|-;rcases wM (tZ hS.up (ops.toList.drop m.h) t2 ((recAt R m.h).st.new (.mu es))) hl with hno|hnn
     ·rw[hno];trivial
     have hn1:(recAt R m.h).st.next+1<=E.top:=hnn;have hdn:m.d<x.nt:=Jw hp;have hR:ji x.P x.S x.nt m.aops R:=λi o ho=>e4 i o (by rw[Q5];exact ho)
     have hL:Looks x.P x.S m.aops bs R:=Zj hfl hsz hall;have hn:(recAt R m.aops.size).st.next<=E.top:=by rw[hah];omega
     have hr0:Rel E w.heap (recAt R 0).st:=by rw[e3];exact hr
     obtain⟨js0,f1,f2,f3,f4,f5,f6⟩:=Is (λi=>by rw[J5]) hkv;have hins:∀i,i∈js0↔qB ops m.d m.h i:=by
      intro i;rw[f3];constructor
      ·rintro⟨_,o,q,h1,h2⟩;have hlt:i<m.h:=by
        have:=(V2.1 h1).1;simp at this;omega
       rw[J8,J9 hlt,Q5]at h1;exact⟨hlt,o,q,h1,h2⟩
      ·rintro⟨hlt,o,q,h1,h2⟩;exact⟨Q9 _,o,q,by rw[J8,J9 hlt,Q5];exact h1,h2⟩
     have hkf:∀i o q,i<m.h->ops[i]? = So o->gU m.d o=So q->ko x.P q.1 (KV R i).1=true:=λi o q hi ho hq=>
      f5 i ((hins i).2 ⟨hi,o,q,ho,hq⟩) o q (by rw[J8,J9 hi,Q5];exact ho) hq
     have hkd:∀i i',qB ops m.d m.h i->qB ops m.d m.h i'->i≠i'->iu (KV R i).1 (KV R i').1=So false:=λi i' h1 h2 h3=>f6 i ((hins i).2 h1) i' ((hins i').2 h2) h3
     obtain⟨q,n1,n2,n3,n4⟩:=Ek m.aops m.aops.size 0 (by omega);obtain⟨g1,g2⟩:=Bv hS.up hR q n1 n2 n3
     let X:St:=⟨(recAt R 0).st.rows,(recAt R 0).st.live,(recAt R q).st.next⟩
     let listed:=Array.replicate ops.size Ff
     have hlf:∀i,listed.getD i Ff=false:=by intro i;simp[listed,V3];split<;>rfl
     have hnol:∀i,¬(listed.getD i Ff=Tt):=λi h=>by rw[hlf]at h;cases h
     have hI:Inv m.aops R x.nt E w.heap (λy=>y=m.d) No (λi=>listed.getD i Ff=Tt) (λi=>q<=i) 0 q a w.heap E X (λ_=>0) (λ_=>0) (λ_=>undef):=by
      refine⟨(Step.refl hr0).ext (λ_=>rfl) (λ_=>rfl) (nW hS.up hR n1 n2),ht.1,λx i o hd=>absurd hd (hnol i),λx i o hd=>absurd hd (hnol i),λy _ _=>?_,⟨n1,n2,λi o h=>by omega,n3,n4,λi _ _ hd=>hnol i hd,.inl rfl⟩,rfl,?_,?_,?_,?_,λi hd=>absurd hd (hnol i),λi i' hd=>absurd hd (hnol i),λb ob hb=>by cases hb⟩
      ·rw[e2];exact ht.2 y
      ·intro r h;exact⟨hr0.freshRow r h,hr0.freshG r h⟩
      ·intro g al hg y hy;exact hr0.liveLt g al y hg hy
      ·intro i h1 h2 ha _;have hge:(recAt R 0).st.next<=rowAt R i:=nW hS.up hR h1 (Nat.le_of_lt ha.lt);have hlt:=xf hS.up hR ha h2 n2;have hq:=nW hS.up hR n2 (Q1 _);exact⟨hr0.freshRow _ hge,hr0.freshG _ hge,hr0.fresh _ hge (by omega)⟩
      ·intro r h;have:=g1 r λi h1 h2 ha=>h i h1 h2 ha (λ⟨h3,_⟩=>hnol i h3)
       exact⟨this.1.symm,this.2.symm⟩
     obtain⟨p2,q2,a2,w2,E2,X2,β2,ν2,ζ2,xb2,t',listed2,k1,k2,k3,k4,k5,k6,k7⟩:=ab7 hS hM hR hL hr0 hn hdn hkf hkd m.h (w.tape w.drawn (.order b.fn id)) listed (List.range m.h) (by simp[listed]) Z8 (by simp) (by intro i;simp[hlf i]) (λi hd=>absurd hd (hnol i)) (λj hd=>absurd hd (hnol j)) (λj hd=>absurd hd (hnol j)) (w:={w with drawn:=w.drawn+1}) hI (λ_=>rfl) (λhd=>absurd hd (hnol _));have hq2:q2=m.aops.size:=by
      rcases k1.gap.atq with h1|h1
      ·exact h1
      ·have hlt:q2<m.aops.size:=by obtain⟨o,ho,_⟩:=h1;exact(Q4.1 ho).1
       exact absurd (by rw[<-hah];exact hlt) (k1.gap.after q2 (Q1 _) h1)
     subst hq2;have hX:∀r,X2.get r=(recAt R m.aops.size).st.get r/\X2.live.get r=(recAt R m.aops.size).st.live.get r:=λr=>
      k1.rest r λi h1 h2 ha hno=>absurd ⟨by rw[<-hah];exact h2,by omega⟩ hno
     rw[hah]at hX;have hst:Step E E2 w.heap w2.heap (recAt R 0).st (recAt R m.h).st:=k1.st.ext (λr=>(hX r).1.symm) (λg=>(hX g).2.symm) (by rw[k1.next,hah];exact Q1 _);obtain⟨μ,ents,clock,js,mm,c1,c2,c3,c4,c5,c6⟩:=k2;obtain⟨u1,u2,u3,u4⟩:=k1.xtra μ _ c1
     let Y:St:=⟨(recAt R m.h).st.rows,(recAt R m.h).st.live,(recAt R m.h).st.next+1⟩
     have hstY:Step E E2 w.heap w2.heap (recAt R 0).st Y:=hst.ext (λ_=>rfl) (λ_=>rfl) (Nat.le_succ _);have hrel:=hst.rel;have hunY:Un E2 Y μ:=by refine⟨?_,u3.2⟩;rintro⟨r,row,B,hra,hB,hb⟩;exact u3.1 ⟨r,row,B,by rw[St.Cz (λr=>(hX r).1) (λg=>(hX g).2)];exact hra,hB,hb⟩
     have hperm:(js.map mm).Perm (js0.map mm):=by refine List.Perm.map mm ((List.perm_ext_iff_of_nodup c4 f2).2 λi=>?_);rw[c5,hins];exact⟨λh=>h.1,λh=>⟨h,h.1⟩⟩
     have hrow:gE E2 w2.heap ⟨μ,0,0⟩ (.mu es):=by refine⟨ents,clock,js0.map mm,u2,?_,by rw[c3];exact hperm⟩;rw[f1];exact ME λi hi=>c6 i ((c5 i).2 ⟨(hins i).1 hi,((hins i).1 hi).1⟩)
     have htop:E2.top=E.top:=hst.top;have hreg:=Step.BB hstY (hrel.fresh _ (Q1 _) (by omega)) (hrel.freshRow _ (Q1 _)) (V4 _)
      (λg al hg hmem=>by have:=hrel.liveLt g al _ hg hmem;omega) (hrel.freshG _ (Q1 _)) (λy=>St.oG _ _ _) rfl (λg=>.inl rfl) (λ_ _ e=>by cases e) u1 hunY hrow
     have hle:E2.le (E2.bind (recAt R m.h).st.next ⟨μ,0,0⟩):=Env.mS (hrel.fresh _ (Q1 _) (by omega));have hT:bX (E2.bind (recAt R m.h).st.next ⟨μ,0,0⟩) x.nt t2 a2.tmps:=by
      refine⟨k1.sz,λy=>?_⟩;rw[Jv hp y];by_cases hy:y=m.d
      ·subst hy;rw[if_pos rfl,c2];exact .m _ ⟨μ,0,0⟩ Env.df
      ·rw[if_neg (λe=>hy (Q3 e).symm)];refine Conc.mono hle ?_;by_cases hex:∃(i:Nat) (oi:Oper),m.aops[i]? = So oi/\oi.dst=So y
       ·obtain⟨i,oi,hoi,hdi⟩:=hex;have hin:i<m.aops.size:=(Q4.1 hoi).1;have hval:ab (recAt R m.aops.size).t y=(recAt R i).v:=Jy hR hoi hdi m.aops.size hin (Q1 _) λi' o' h1 h2 h3 h4=>by
         have:=hM.set.dst hoi h3 hdi h4;omega
        rw[<-hah,hval];exact k1.slotV y i oi (by rw[<-hah];exact hin) hoi hdi λ⟨_,hq⟩=>by omega
       ·have hno:∀(i:Nat) (oi:Oper),m.aops[i]? = So oi->oi.dst≠So y:=λi oi h1 h2=>hex ⟨i,oi,h1,h2⟩
        rw[<-hah,Bw hR m.aops.size (Q1 _) λi o _=>hno i o];exact k1.slot0 y hy λi o _=>hno i o
     rw[e3]at hreg;have hregW:aR E (E2.bind (recAt R m.h).st.next ⟨μ,0,0⟩) w w2 st ((recAt R m.h).st.new (.mu es)):=⟨hreg,k4.1,k4.2⟩;have htail:=IV (ks:=ks) (k:=k) hS (ops.toList.drop m.h) m.h rfl hreg.rel hT (by rw[k3];exact hmk.step hreg) (by rw[hreg.top];exact hl);refine cL.pre hregW ?_ htail;refine(Q0 stepR_region_draw).trans ?_;have hsch:Region.schedule (x.P.follows .mixedOrders) ops (w.tape w.drawn (.order b.fn id))=Region.linearise.go .any ops (m.h+(ops.size-m.h)) (w.tape w.drawn (.order b.fn id)) listed []:=by
      have:m.h+(ops.size-m.h)=ops.size:=by have:=hM.hn;omega
      rw[this];simp[Region.schedule,hS.mixed,Region.linearise,listed]
     rw[hsch];refine k7.trans ?_;rw[adh hM (ops.size-m.h) t' listed2 m.h k5 (Q1 _) (by have:=hM.hn;omega) k6];have hlen:(ops.toList.drop m.h).length=ops.size-m.h:=by simp
     rw[hlen];exact .refl _ _
theorem Wl(hS:bK x.P x.S){id:Nat}(hr:Rel E w.heap st)(ht:bX E x.nt t a.tmps)(hm:Marks n0 b.defers E w.heap st a.defers)
  (hl:(qW x ops t st).lim E.top):cL x.P ks n0 E x.nt b w st (lone (b.atR a (.code (.region id ops Tt)::k)) ks w) k (qW x ops t st):=by
 unfold qW at hl|-;cases hp:kQ ops with
 |some fl=>grind[Wh]
 |none=>
  have e:Ah x.P x.S x.nt ops t st No=uW x.P x.S x.nt ops t st (yJ ops):=rfl;cases hpm:yJ ops with
  |none=>grind[uW,Wi]
  |some m=>grind[Wg]
theorem Xp{v:Value}:(b.atR a (.inRangeFunc l::k)).finish v=b.atR a (.endRangeFunc l::k):=rfl
theorem acN{x y:Code}(hb:b.roundOf=No)(hf:a.eval f=.func (.func g) F C)
  (hc:(callFunc g (F.push (.func (.yield (w.heap.size+1)) #[] #[])++C)).run P {w with heap:=(w.heap.push (.deferred (So []))).push (.loop {state:=.ready,pending:=No,fn:=b.fn,tmps:=a.tmps,params:=ps,assign:=x,body:=y,defers:=w.heap.size})}=.ok (.enter g (F.push (.func (.yield (w.heap.size+1)) #[] #[])++C)) {w with heap:=(w.heap.push (.deferred (So []))).push (.loop {state:=.ready,pending:=No,fn:=b.fn,tmps:=a.tmps,params:=ps,assign:=x,body:=y,defers:=w.heap.size})}):
  step P (lone (b.atR a (.code (.rangeFunc f ps x y)::k)) cs w) =
   .next (lone (Frame.enter P g (F.push (.func (.yield (w.heap.size+1)) #[] #[])++C) .normal) (b.atR {a with defers:={target:=.collected w.heap.size,args:=#[]}::a.defers} (.inRangeFunc (w.heap.size+1)::k)::cs)
    {w with heap:=(w.heap.push (.deferred (So []))).push (.loop {state:=.ready,pending:=No,fn:=b.fn,tmps:=a.tmps,params:=ps,assign:=x,body:=y,defers:=w.heap.size})}):=by
 refine step_lone_go ?_;have hf':∀d,Frame.eval {fn:=b.fn,tmps:=a.tmps,todo:=.inRangeFunc (w.heap.size+1)::k,defers:=d,mode:=.run,kind:=b.kind,roundOf:=No} f=.func (.func g) F C:=by intro d;cases f<;>exact hf
 have hev:∀(fr:Frame) (v:Value),fr.eval (.const v)=v:=λ_ _=>rfl
 have hc':(callFunc g (F.push (.func (.yield (w.heap.size+1)) #[] #[])++C)).run P ((w.alloc (.deferred (So []))).alloc (.loop {state:=.ready,pending:=No,fn:=b.fn,tmps:=a.tmps,params:=ps,assign:=x,body:=y,defers:=w.heap.size}))=.ok (.enter g (F.push (.func (.yield (w.heap.size+1)) #[] #[])++C)) ((w.alloc (.deferred (So []))).alloc (.loop {state:=.ready,pending:=No,fn:=b.fn,tmps:=a.tmps,params:=ps,assign:=x,body:=y,defers:=w.heap.size})):=hc;simp[stepG,stepG.exec,stepG.apply,Frame.atR,hb,Sem.runT_eq,Instr.enterLoop,Z0,resolve,hf',hev,Deferred.ofValue,invoke,hc'];rfl
theorem acM(h:(Instr.endLoop l).run P w=.ok No w'):
  step P (lone (b.atR a (.endRangeFunc l::k)) cs w)=.next (lone (b.atR a k) cs w'):=
 step_lone_go (by simp_all[stepG,stepG.exec,Frame.atR])
theorem abA(hxP:x.P=P)(hS:bK P x.S){ca cb:Code}(hb:b.roundOf=No)(hr:Rel E w.heap st)(ht:bX E x.nt t a.tmps)
  (hm:Marks n0 b.defers E w.heap st a.defers) (hn0:n0<=w.heap.size) (hl:(rN x ps ca cb t st (ah t f)).lim E.top):
  cL P ks n0 E x.nt b w st (lone (b.atR a (.code (.rangeFunc f ps ca cb)::k)) ks w) k (rN x ps ca cb t st (ah t f)):=by
 subst hxP;unfold rN at hl|-;split
 case h_2=>trivial
 rename_i g first captured hf
 have hcf:=u9 ht f;rw[hf]at hcf;rw[hf]at hl;simp only at hl;cases hcf':pP x.P x.S g (first++([.f (.yield st.next) [] []]++captured)) (st.new (.lp t x.nt ps.toList ca cb))with
 |none=>trivial
 |some p=>
  obtain⟨v,st'⟩:=p;rw[hcf']at hl;simp only at hl|-;unfold Bz at hl|-;split
  case h_2=>trivial
  rename_i t' nt' ps' xa xb hg;rw[hg]at hl;have hn:st'.next<=E.top:=hl;have hup:=Sx hS.up _ _ hcf';have hup':st.next+1<=st'.next:=hup;generalize hev:a.eval f=fv at hcf;cases hcf with
  |f _ _ _ vx vy _ hvx hvy=>
   let mk:Deferred:={target:=.collected w.heap.size,args:=#[]}
   let lpo:Obj:=.loop {state:=.ready,pending:=No,fn:=b.fn,tmps:=a.tmps,params:=ps,assign:=ca,body:=cb,defers:=w.heap.size}
   let w1:World:={w with heap:=w.heap.push (.deferred (So []))}
   let w2:World:={w with heap:=(w.heap.push (.deferred (So []))).push lpo}
   have s1:aR E E w w1 st st:=.of (Step.other hr _);have hsz:(w.heap.push (.deferred (So []))).size=w.heap.size+1:=by simp
   let B:eo:=⟨(w.heap.push (.deferred (So []))).size,0,0⟩
   have s2:aR E (E.bind st.next B) w1 w2 st (st.new (.lp t x.nt ps.toList ca cb)):=by
    refine aR.of <| Step.newRow s1.rel (by omega) lpo _ (λ_ _ e=>by grind) (λF hF=>⟨b.fn,a.tmps,w.heap.size,?_,ht.mono hF⟩)
    simp[lpo]
   have s12:=s1.trans s2;have hBphi:(E.bind st.next B).phi st.next=So B:=Env.df;have hy:Conc (E.bind st.next B) (.f (.yield st.next) [] []) (.func (.yield (w.heap.size+1)) #[] #[]):=by have:=Conc.yi st.next B hBphi;grind
   obtain⟨E3,w3,cv,s3,hcv,hrun,hcall⟩:=Mp hS s2.rel ((hvx.mono s12.le).append (aH.append (.cons _ _ _ _ hy .nil) (hvy.mono s12.le))) hcf' (by rw[s12.top];grind);have sAll:=s12.trans s3;have hB3:E3.phi st.next=So B:=s3.le.phi _ _ hBphi;have halive:st'.alive st.next=So (.lp t' nt' ps' xa xb):=by unfold St.alive;grind
   obtain⟨B',hB',f',tmps',d',hH',hT'⟩:=s3.rel.rows _ _ halive;rw[hB3]at hB';cases hB';have hun:=MU s3.rel halive (λ_ _ e=>by grind) hB3;have hBge:w.heap.size<=B.b:=by grind
   let lpx:Obj:=.loop {state:=.exhausted,pending:=No,fn:=f',tmps:=tmps',params:=ps'.toArray,assign:=xa,body:=xb,defers:=d'}
   let w4:World:={w3 with heap:=w3.heap.setIfInBounds B.b lpx}
   have sD:Step E E3 w.heap w3.heap st (st'.drop st.next):=sAll.toStep.trans (Step.drop s3.rel _);have s4:aR E E3 w w4 st (st'.drop st.next):=⟨sD.yK (.inr hBge) hun lpx (dZ.zd (by grind)),sAll.os,sAll.out⟩;have hend:(Instr.endLoop (w.heap.size+1)).run x.P w3=.ok No w4:=by
    have hH'':w3.heap[w.heap.size+1]? = So (.loop {state:=.ready,pending:=No,fn:=f',tmps:=tmps',params:=ps'.toArray,assign:=xa,body:=xb,defers:=d'}):=by grind
    have e:B.b=w.heap.size+1:=hsz;simp[Instr.endLoop,Z0,Fj hH'',V6,JI hH'',w4,lpx,e]
   have hmkun:¬jh E st w.heap.size:=by rintro⟨r,row,C,ha,hC,hb'⟩;obtain⟨C',hC',hR⟩:=hr.rows _ _ ha;rw[hC]at hC';cases hC';have:=hR.lt;omega
   obtain⟨ms,hms,hm⟩:=hm;have hmk2:mC n0 (E.bind st.next B) w2.heap (st.new (.lp t x.nt ps.toList ca cb)) (mk::ms):=by
    refine⟨List.Pairwise.cons ?_ hm.1,?_⟩
    ·intro e he hme;obtain⟨r,_,h1,h2,_⟩:=hm.2 e he;grind
    ·intro e he;rcases Q2.1 he with rfl|he
     ·refine⟨w.heap.size,hn0,rfl,?_,?_⟩
      ·grind
      ·refine s2.un ?_ (hr.Ks (Q1 _) hmkun);grind
     ·exact(hm.step s12.toStep).2 e he
   have hmk4:Marks n0 b.defers E3 w4.heap (st'.drop st.next) (mk::a.defers):=by have h3:=(hmk2.step s3.toStep).step (Step.drop s3.rel st.next);refine⟨mk::ms,by grind,h3.1,λe he=>?_⟩;obtain⟨r,h0,h1,h2,h4⟩:=h3.2 e he;grind
   refine⟨E3,{a with defers:=mk::a.defers},w4,s4,ht.mono sAll.le,hmk4,?_⟩;have hargs:(vx++([Value.func (Fn.yield (w.heap.size+1)) #[] #[]]++vy)).toArray=vx.toArray.push (.func (.yield (w.heap.size+1)) #[] #[])++vy.toArray:=by simp
   rw[hargs]at hrun hcall;refine(Q0 (acN hb hev ?_)).trans ?_
   ·grind
   ·obtain⟨fr,h1,h2,h3⟩:=hcall;refine h1.trans ?_;refine(Q0 (step_leave_returned h3)).trans ?_;rw[Xp];exact Q0 (acM hend)
theorem Ua(hS:bK x.P x.S){id:Nat}(hr:Rel E w.heap st)(ht:bX E x.nt t a.tmps)(hm:Marks n0 b.defers E w.heap st a.defers)
  (heq:ops.toList=[o]) (hop:o.op=.alloc e) (hdst:o.dst=So d) (he:bw x.P x.S x.nt ops ops.toList t st=.nx t1 st1) {r:Nat} (hv:ah t1 (.tmp d)=.p r q) (hl:st1.next+1<=E.top):
  cL x.P ks n0 E x.nt b w st (lone (b.atR a (.code (.region id ops Ff)::k)) ks w) k (.nx t1 (st1.new (.ty e r Tt))):=by
 have hoi:ops[0]? = So o:=by rw[<-Q5,heq];rfl
 rw[heq]at he;have e1:bw x.P x.S x.nt ops [o] t st=mc x.P x.S x.nt o t st (bw x.P x.S x.nt ops []) (gL ops t o):=rfl;rw[e1]at he;have put:∀{v:AV}{t':Tr AV},dE x.nt t (So d) v=So t'->ah t' (.tmp d)=v:=by simp_all
 cases hg:gL ops t o with
 |none=>rw[hg]at he;cases he
 |some g=>
  rw[hg]at he;have hw:=DM ht hg;cases g with
  |false=>
   have he:iz (dE x.nt t o.dst .un) (λt=>bw x.P x.S x.nt ops [] t st)=.nx t1 st1:=he;rw[hdst]at he;cases hp:dE x.nt t (So d) .un with
   |none=>rw[hp]at he;cases he
   |some t'=>rw[hp]at he;simp only[iz,Tr.seen_eq]at he;cases he;grind
  |true=>
   have he:oS x.nt t o.dst (cC x.P x.S t st o) (bw x.P x.S x.nt ops [])=.nx t1 st1:=he;have hev:cC x.P x.S t st o=lh st (bt x.P e):=by unfold cC;rw[hop];rfl
   rw[hev]at he;cases hz:bt x.P e with
   |none=>rw[hz]at he;cases he
   |some l=>
    rw[hz,hdst]at he;have he:iz (dE x.nt t (So d) (.p st.next 0)) (λt=>bw x.P x.S x.nt ops [] t (st.aj l))=.nx t1 st1:=he;cases hp:dE x.nt t (So d) (.p st.next 0)with
    |none=>rw[hp]at he;cases he
    |some t'=>
     rw[hp]at he;simp only[iz,Tr.seen_eq]at he;cases he;rw[put hp]at hv;cases hv;have hnx:(st.aj l).next=st.next+1:=rfl;have⟨z,g1,g2,g3,g4⟩:=pg (E:=E) hz;have hlen:=g2.length;have s1:=Step.aj hr (show st.next<E.top by omega) l z.cells.toList e (0,0) (.inl rfl) (by omega) (by grind);have hty:nj (E.bind st.next ⟨w.heap.size,0,z.cells.toList.length⟩) (w.heap.push (.cells z.cells.toList.toArray e (0,0))) e st.next true:=⟨_,Env.df,λ_=>rfl,z.cells.toList.toArray,(0,0),by simp⟩;have s2:=Step.Ej s1.rel hty;have s:aR E (E.bind st.next ⟨w.heap.size,0,z.cells.toList.length⟩) w {w with heap:=w.heap.push (.cells z.cells e)} st ((st.aj l).new (.ty e st.next Tt)):=.of (by simpa using s1.trans s2);have hcv:Conc (E.bind st.next ⟨w.heap.size,0,z.cells.toList.length⟩) (.p st.next 0) (.pointer (So ⟨w.heap.size,0,No⟩)):=by have:=Conc.p (E:=E.bind st.next ⟨w.heap.size,0,z.cells.toList.length⟩) st.next 0 _ Env.df;grind
     have hrun:(execOp a.eval o).run x.P w=.ok (.value (.pointer (So ⟨w.heap.size,0,No⟩))) {w with heap:=w.heap.push (.cells z.cells e)}:=by simp only[execOp,hop,Instr.alloc,newVar,Z0,g1,V6,newRow,run_newObj,Sem.run_pure]
     have hnd:∀c,o.op≠.defer c:=λc e0=>by grind
     refine⟨_,a.put o.dst (.pointer (So ⟨w.heap.size,0,No⟩)),_,s,?_,?_,?_⟩
     ·rw[hdst];exact tM (ht.mono s.le) hp hcv
     ·rw[put_defers];exact hm.step s.toStep
     ·refine(Q0 stepR_region).trans ?_;have hsz:List.range ops.size=[0]:=by
       have:ops.size=1:=by rw[<-V7,heq];rfl
       rw[this];rfl
      rw[hsz];exact(Q0 (BQ hoi hw hnd hrun)).trans (Q0 stepR_region_end)
theorem abQ(hS:bK x.P x.S){id:Nat}(hr:Rel E w.heap st)(ht:bX E x.nt t a.tmps)(hm:Marks n0 b.defers E w.heap st a.defers)
  (hl:(oV x ops t st).lim E.top):cL x.P ks n0 E x.nt b w st (lone (b.atR a (.code (.region id ops Ff)::k)) ks w) k (oV x ops t st):=by
 have plain:(bw x.P x.S x.nt ops ops.toList t st).lim E.top->cL x.P ks n0 E x.nt b w st (lone (b.atR a (.code (.region id ops Ff)::k)) ks w) k (bw x.P x.S x.nt ops ops.toList t st):=by
  intro hl;have h:=IV (ks:=ks) (b:=b) (k:=k) hS ops.toList 0 rfl hr ht hm hl;refine cL.gW hr ?_ h;have e:List.range ops.size=List.range' 0 ops.toList.length:=by rw[V8];simp
  rw[<-e];exact stepR_region
 unfold oV at hl|-;split
 case h_2=>grind
 rename_i o heq;rw[heq]at hl;simp only at hl;rw[<-heq]at hl;cases hop:o.op with
 |alloc e=>
  rw[hop]at hl;cases hdst:o.dst with
  |none=>rw[hdst]at hl;exact plain hl
  |some d=>
   rw[hdst]at hl;have hl:(xe x e d (bw x.P x.S x.nt ops ops.toList t st)).lim E.top:=hl;show cL _ _ _ _ _ _ _ _ _ _ (xe x e d (bw x.P x.S x.nt ops ops.toList t st))
   unfold xe at hl|-;cases hsp:yY x.P e with
   |false=>simp_all
   |true=>
    rw[hsp]at hl;cases he:bw x.P x.S x.nt ops ops.toList t st with
    |nx t1 st1=>
     rw[he]at hl plain;have hl:(zq e t1 st1 (ah t1 (.tmp d))).lim E.top:=hl;show cL _ _ _ _ _ _ _ _ _ _ (zq e t1 st1 (ah t1 (.tmp d)))
     unfold zq at hl|-;split
     ·rename_i r q hv;rw[hv]at hl;simp only at hl;cases hb:Nat.beq (r+1) st1.next with
      |false=>simp_all
      |true=>rw[hb]at hl;exact Ua hS hr ht hm heq hop hdst he hv hl
     grind
    |ex i t1 st1=>rw[he]at hl plain;exact plain hl
    |rt t1 st1=>rw[he]at hl plain;exact plain hl
    |no=>trivial
 |_=>rw[hop]at hl;exact plain hl
theorem uR:∀(c:Code) (x:Ctx),x.P=P->bK P x.S->∀{E:Env}{w:World}{st:St}{t:Tr AV}{a:Act}(k:List Item),x.inR=b.roundOf.isSome->Rel E w.heap st->bX E x.nt t a.tmps->Marks n0 b.defers E w.heap st a.defers->
  n0<=w.heap.size->(ao c x t st).lim E.top->cL P ks n0 E x.nt b w st (lone (b.atR a (.code c::k)) ks w) k (ao c x t st):=by
 intro c;induction c with
 |skip=>intro x hxP hS E w st t a k hb hr ht hm hn0 hl;exact⟨E,a,w,.refl hr,ht,hm,Q0 stepR_skip⟩
 |region id ops draw=>
  intro x hxP hS E w st t a k hb hr ht hm hn0 hl;cases draw with
  |true=>subst hxP;exact Wl hS hr ht hm hl
  |false=>subst hxP;exact abQ hS hr ht hm hl
 |seq c1 c2 ih1 ih2=>
  intro x hxP hS E w st t a k hb hr ht hm hn0 hl;have e:ao (.seq c1 c2) x t st=bW (ao c1 x t st) (ao c2 x):=rfl;rw[e]at hl|-;refine cL.gW hr stepR_seq ?_;have h1:=ih1 x hxP hS (.code c2::k) hb hr ht hm hn0;cases hc1:ao c1 x t st with
  |no=>trivial
  |nx t1 st1=>
   rw[hc1]at h1 hl;have hl:(ao c2 x t1 st1).lim E.top:=hl;rcases wM (iQ c2 x hS.up t1 st1) hl with hno|hn
   ·show cL _ _ _ _ _ _ _ _ _ _ (ao c2 x t1 st1)
    rw[hno];trivial
   ·have⟨E1,a1,w1,s1,h2,h3,h4⟩:=h1 hn;have h5:=ih2 x hxP hS k hb s1.rel h2 h3 (Z3 hn0 s1.fr.size) (by rw[s1.top];grind);exact cL.pre s1 h4 h5
  |ex i t1 st1=>rw[hc1]at h1 hl;exact h1 hl
  |rt t1 st1=>rw[hc1]at h1 hl;exact h1 hl
 |cond c c1 c2 ih1 ih2=>
  intro x hxP hS E w st t a k hb hr ht hm hn0 hl;have e:ao (.cond c c1 c2) x t st=wB (ao c1 x) (ao c2 x) t st (ah t c):=rfl;rw[e]at hl|-;unfold wB at hl|-;have hcv:=u9 ht c;cases hv:(ah t c).gH with
  |none=>trivial
  |some v=>
   have hv':=AV.xZ hv;rw[hv']at hcv;generalize hev:a.eval c=cv at hcv;cases hcv;cases v with
   |true=>simp_all[cL.gW,stepR_cond]
   |false=>simp_all[cL.gW,stepR_cond]
 |block id c ih=>
  intro x hxP hS E w st t a k hb hr ht hm hn0 hl;have e:ao (.block id c) x t st=pL id (ao c x t st):=rfl;rw[e]at hl|-;refine cL.gW hr stepR_block ?_;have h1:=ih x hxP hS (.inBlock id::k) hb hr ht hm hn0;cases hc1:ao c x t st with
  |no=>trivial
  |nx t1 st1=>rw[hc1]at h1 hl;have⟨E1,a1,w1,s1,h2,h3,h4⟩:=h1 hl;exact⟨E1,a1,w1,s1,h2,h3,h4.trans (Q0 stepR_inBlock)⟩
  |rt t1 st1=>rw[hc1]at h1 hl;exact h1 hl
  |ex i t1 st1=>
   rw[hc1]at h1 hl;have e:pL id (.ex i t1 st1)=@Bool.rec (λ_=>Out) (.ex i t1 st1) (.nx t1 st1) (Nat.beq i id):=rfl;rw[e]at hl|-;cases hi:Nat.beq i id with
   |true=>
    rw[hi]at hl;have:i=id:=by simp_all
    subst this;have⟨E1,a1,w1,s1,h2,h3,h4⟩:=h1 hl;exact⟨E1,a1,w1,s1,h2,h3,h4 k (by simp[exitTo])⟩
   |false=>
    rw[hi]at hl;have hne:id≠i:=by rintro rfl;simp_all
    have⟨E1,a1,w1,s1,h2,h3,h4⟩:=h1 hl;exact⟨E1,a1,w1,s1,h2,h3,λk' hk=>h4 k' (by simpa[exitTo,hne]using hk)⟩
 |loop c ih=>
  intro x hxP hS E w st t a k hb hr ht hm hn0 hl;refine cL.gW hr stepR_loop ?_
  suffices H:∀n,∀{E:Env}{w:World}{st:St}{t:Tr AV}{a:Act},Rel E w.heap st->bX E x.nt t a.tmps->Marks n0 b.defers E w.heap st a.defers->n0<=w.heap.size->(aQ (ao c x) n t st).lim E.top->
    cL P ks n0 E x.nt b w st (lone (b.atR a (.code c::.inLoop c::k)) ks w) k (aQ (ao c x) n t st) from H x.n hr ht hm hn0 hl
  intro n;induction n with
  |zero=>intro E w st t a hr ht hm hn0 hl;trivial
  |succ n ihn=>
   intro E w st t a hr ht hm hn0 hl;have e:aQ (ao c x) (n+1) t st=bW (ao c x t st) (aQ (ao c x) n):=rfl;rw[e]at hl|-;have h1:=ih x hxP hS (.inLoop c::k) hb hr ht hm hn0;cases hc1:ao c x t st with
   |no=>trivial
   |nx t1 st1=>
    rw[hc1]at h1 hl;rcases wM (Ky (iQ c x hS.up) n t1 st1) hl with hno|hn
    ·show cL _ _ _ _ _ _ _ _ _ _ (aQ (ao c x) n t1 st1)
     rw[hno];trivial
    ·have⟨E1,a1,w1,s1,h2,h3,h4⟩:=h1 hn;have h5:=ihn s1.rel h2 h3 (Z3 hn0 s1.fr.size) (by rw[s1.top];exact hl);exact cL.pre s1 (h4.trans (Q0 stepR_inLoop)) h5
   |ex i t1 st1=>rw[hc1]at h1 hl;exact h1 hl
   |rt t1 st1=>rw[hc1]at h1 hl;exact h1 hl
 |rangeFunc f ps c1 c2 ih1 ih2=>
  intro x hxP hS E w st t a k hb hr ht hm hn0 hl;have e:ao (.rangeFunc f ps c1 c2) x t st=_root_.cond x.inR .no (rN x ps c1 c2 t st (ah t f)):=rfl;rw[e]at hl|-;cases hi:x.inR with
  |true=>trivial
  |false=>
   rw[hi]at hl hb;have hb':b.roundOf=none:=by
    cases h:b.roundOf with
    |none=>rfl
    |some l=>rw[h]at hb;cases hb
   exact abA hxP hS hb' hr ht hm hn0 hl
 |exit id=>intro x hxP hS E w st t a k hb hr ht hm hn0 hl;exact⟨E,a,w,.refl hr,ht,hm,λk' hk=>Q0 (stepR_exit hk)⟩
 |scope c ih=>intros;trivial
 |label l=>intro x hxP hS E w st t a k hb hr ht hm hn0 hl;exact⟨E,a,w,.refl hr,ht,hm,Q0 stepR_label⟩
 |goto l=>intros;trivial
 |ret=>intro x hxP hS E w st t a k hb hr ht hm hn0 hl;exact λhb=>⟨E,a,w,.code .ret::k,.refl hr,ht,hm,Q0 (stepR_ret hb)⟩
 |refuse why=>intros;trivial
theorem MO:∀{l h:List Oper}{d:Oper}{f:Operand},Dc l=So (h,d,f)->l=h++[d]/\uV d=So f
 |[],h,d,f,e=>by cases e
 |[o],h,d,f,e=>by have e:(match uV o with|some f=>So ([],o,f)|none=>No)=So (h,d,f):=e;grind
 |o::o'::l,h,d,f,e=>by
  have e:(match Dc (o'::l)with|some (h,d,f)=>So (o::h,d,f)|none=>No)=So (h,d,f):=e;split at e
  ·rename_i h' d' f' h1;have⟨k1,k2⟩:=MO h1;grind
  grind
theorem VY{d:Oper}(h:uV d=So f):d.guard=No/\∃c,d.op=.defer c/\c.callee=.value f/\c.args = #[]:=by grind[uV,MP]
theorem VZ{h:List Oper}{d:Oper}(e:oE c=So (ops,h,d,f)):∃id,c=.region id ops Ff/\ops.toList=h++[d]/\uV d=So f:=by
 unfold oE at e;split at e
 case h_2=>grind
 rename_i id ops';split at e
 case h_2=>grind
 rename_i h' d' f' h1;cases e;exact⟨id,rfl,MO h1⟩
theorem aaI(hS:bK P S):∀(l:List Oper) (i:Nat),(∀j,j<l.length->ops[i+j]? = l[j]?)->∀{E:Env}{w:World}{st:St}{t:Tr AV}{a:Act},Rel E w.heap st->bX E nt t a.tmps->
  (bw P S nt ops l t st).lim E.top->∀{t':Tr AV}{st':St},bw P S nt ops l t st=.nx t' st'->
  ∃E' a' w',aR E E' w w' st st'/\bX E' nt t' a'.tmps/\a'.defers=a.defers/\Steps P (lone (b.atR a (.inRegion ops (List.range' i l.length++rest)::k)) ks w) (lone (b.atR a' (.inRegion ops rest::k)) ks w'):=by
 intro l;induction l with
 |nil=>intro i hi E w st t a hr ht hl t' st' he;cases he;exact⟨E,a,w,.refl hr,ht,rfl,.refl _ _⟩
 |cons o l ih=>
  intro i hi E w st t a hr ht hl t' st' he;have hoi:ops[i]? = So o:=by simpa using hi 0 (by simp)
  have hi':∀j,j<l.length->ops[i+1+j]? = l[j]?:=by intro j hj;have:=hi (j+1) (by grind);grind
  have e:bw P S nt ops (o::l) t st=mc P S nt o t st (bw P S nt ops l) (gL ops t o):=rfl;rw[e]at hl he;have hrg:List.range' i (o::l).length++rest=i::(List.range' (i+1) l.length++rest):=by simp[V1]
  cases hg:gL ops t o with
  |none=>rw[hg]at he;cases he
  |some g=>
   rw[hg]at hl he;have hw:=DM ht hg;cases g with
   |false=>
    have e:mc P S nt o t st (bw P S nt ops l) (So Ff)=iz (dE nt t o.dst .un) λt=>bw P S nt ops l t st:=rfl
    rw[e]at hl he;cases hp:dE nt t o.dst .un with
    |none=>rw[hp]at he;cases he
    |some t1=>rw[hp]at hl he;simp[iz,Tr.seen_eq]at hl he;have ht1:bX E nt t1 (a.put o.dst undef).tmps:=tM ht hp .un;obtain⟨E',a',w',h1,h2,h3,h4⟩:=ih (i+1) hi' hr ht1 hl he;refine⟨E',a',w',h1,h2,by rw[h3,put_defers],(Q0 ?_).trans h4⟩;grind[stepR_op_skip]
   |true=>
    have e:mc P S nt o t st (bw P S nt ops l) (So Tt)=oS nt t o.dst (cC P S t st o) (bw P S nt ops l):=rfl;rw[e]at hl he;cases ho:cC P S t st o with
    |none=>rw[ho]at he;cases he
    |some p=>
     obtain⟨v,st1⟩:=p;rw[ho]at hl he;have e:oS nt t o.dst (So (v,st1)) (bw P S nt ops l)=iz (dE nt t o.dst v) λt=>bw P S nt ops l t st1:=rfl
     rw[e]at hl he;cases hp:dE nt t o.dst v with
     |none=>rw[hp]at he;cases he
     |some t1=>
      rw[hp]at hl he;simp[iz,Tr.seen_eq]at hl he;rcases wM (tZ hS.up l t1 st1) hl with hno|hn
      ·grind
      ·obtain⟨E',w',cv,hs,hc,hst⟩:=DH hoi hw (Eu ho) (IU hS hr (u9 ht) ho hn);have ht1:bX E' nt t1 (a.put o.dst cv).tmps:=tM (ht.mono hs.le) hp hc;obtain⟨E2,a2,w2,h1,h2,h3,h4⟩:=ih (i+1) hi' hs.rel ht1 (by rw[hs.top];grind) he;exact⟨E2,a2,w2,hs.trans h1,h2,by rw[h3,put_defers],hst.trans h4⟩
theorem acP{d:Oper}(hb:b.roundOf=No)(ho:ops[i]? = So d)(hop:uV d=So f)
  (hf:a.eval f=.func (.func g) F C):
  step P (lone (b.atR a (.inRegion ops (i::rest)::k)) cs w)=.next (lone (b.atR {tmps:=(a.put d.dst undef).tmps,defers:={target:=.fn (.func g) C,args:=F}::a.defers} (.inRegion ops rest::k)) cs w):=by
 have⟨hg,c,h1,h2,h3⟩:=VY hop;have hw:Region.wanted d (yielded ops a.tmps)=true:=by unfold Region.wanted;grind
 refine step_lone_go ?_;rw[stepGR_op ho hw,hb,Oper.semAt_none];have hres:(execOp a.eval d).run P w=.ok (.defer {target:=.fn (.func g) C,args:=F}) w:=by simp_all[execOp,resolve,Deferred.ofValue]
 have hfin:=Frame.finish_atR b {a with defers:={target:=.fn (.func g) C,args:=F}::a.defers} ops i rest k undef;have hput:({a with defers:={target:=.fn (.func g) C,args:=F}::a.defers}:Act).put d.dst undef={tmps:=(a.put d.dst undef).tmps,defers:={target:=.fn (.func g) C,args:=F}::a.defers}:=by cases hd:d.dst<;>simp[Act.put]
 simp_all[stepG.apply,Frame.atR]
theorem ab2{r:Nat}(h:w.heap[r]? = So (.deferred (So []))):(Instr.takeDeferred r).run P w=.ok [] {w with heap:=w.heap.setIfInBounds r (.deferred No)}:=by simp[Instr.takeDeferred,getObj,setObj,Sem.run,h]
theorem acQ{fr:Frame}{r:Nat}{ds:List Deferred}(hm:fr.mode=.returning)(hd:fr.defers={target:=.collected r,args:=#[]}::ds)(h:w.heap[r]? = So (.deferred (So []))):
  step P (lone fr cs w)=.next (lone {fr with defers:=ds} cs {w with heap:=w.heap.setIfInBounds r (.deferred No)}):=
 step_lone_go (by simp_all[stepG,unwind,ab2])
theorem FJ{E':Env}{st':St}{w0:World}(hr:Rel E w0.heap st){D:List Deferred}:∀(ms:List Deferred){fr:Frame}{w:World},fr.mode=.returning->fr.defers=ms++D->mC w0.heap.size E' w.heap st' ms->aR E E' w0 w st st'->
  ∃w2:World,aR E E' w0 w2 st st'/\Steps P (lone fr ks w) (lone {fr with defers:=D} ks w2)
 |[],fr,w,hm,hd,hk,hs=>⟨w,hs,by
   have:({fr with defers:=D}:Frame)=fr:=by have hd:fr.defers=D:=hd;rw[<-hd]
   rw[this];exact .refl _ _⟩
 |d::ds,fr,w,hm,hd,hk,hs=>by
  obtain⟨r,h0,rfl,h1,h2⟩:=hk.2 d (Q8 ..);have hs2:aR E E' w0 {w with heap:=w.heap.setIfInBounds r (.deferred No)} st st':=⟨hs.toStep.yK (.inr h0) h2 (.deferred No) (dZ.zd (by grind)),hs.os,hs.out⟩;have hk2:mC w0.heap.size E' (w.heap.setIfInBounds r (.deferred No)) st' ds:=by have hp:=hk.1;rw[List.pairwise_cons]at hp;refine⟨hp.2,λe he=>?_⟩;have⟨q,k0,k1,k2,k3⟩:=hk.2 e (J6 _ he);grind
  have⟨w2,k1,k2⟩:=FJ hr ds (fr:={fr with defers:=ds++D}) hm rfl hk2 hs2;exact⟨w2,k1,(Q0 (acQ hm hd h1)).trans k2⟩
def Ends(P:Program)(ks:List Frame)(E:Env)(nt:Nat)(b:Frame)(w:World)(st:St)(m:Machine):Out->Prop
 |.nx t st'=>∃E' a' w' todo,aR E E' w w' st st'/\bX E' nt t a'.tmps/\Steps P m (lone {b.atR a' todo with mode:=.returning,defers:=[]} ks w')
 |.rt t st'=>∃E' a' w' todo,aR E E' w w' st st'/\bX E' nt t a'.tmps/\Steps P m (lone {b.atR a' todo with mode:=.returning,defers:=[]} ks w')
 |_=>True
theorem Ends.pre{r:Out}(hm:Steps P m m1)(h:Ends P ks E nt b w st m1 r):Ends P ks E nt b w st m r:=by
 cases r with
 |nx t st'=>have⟨E',a',w',todo,h1,h2,h3⟩:=h;exact⟨E',a',w',todo,h1,h2,hm.trans h3⟩
 |rt t st'=>have⟨E',a',w',todo,h1,h2,h3⟩:=h;exact⟨E',a',w',todo,h1,h2,hm.trans h3⟩
 |_=>trivial
theorem Ends.gW{r:Out}(hm:step P m=.next m1)(h:Ends P ks E nt b w st m1 r):Ends P ks E nt b w st m r :=
 h.pre (Q0 hm)
theorem cL.JF{r:Out}(hb:b.roundOf=No)(h:cL P ks n0 E nt b w st m [] r)(hr:r=.nx t st'\/r=.rt t st'):
  ∃E' a' w' todo,aR E E' w w' st st'/\bX E' nt t a'.tmps/\Marks n0 b.defers E' w'.heap st' a'.defers/\Steps P m (lone {b.atR a' todo with mode:=.returning} ks w'):=by
 rcases hr with rfl|rfl
 ·have⟨E1,a1,w1,h1,h2,h3,h4⟩:=h;exact⟨E1,a1,w1,[],h1,h2,h3,h4.trans (Q0 (stepR_end hb))⟩
 ·exact h hb
section
variable {E0:Env}{s0:St}
theorem Hw{a':Act}{todo:List Item}(hr0:Rel E0 w0.heap s0)(hs:aR E0 E' w0 w' s0 st')(hm:mC w0.heap.size E' w'.heap st' a'.defers)
  (h:Steps P m (lone {b.atR a' todo with mode:=.returning} ks w')):∃w2,aR E0 E' w0 w2 s0 st'/\Steps P m (lone {b.atR a' todo with mode:=.returning,defers:=[]} ks w2):=by
 obtain⟨w2,k1,k2⟩:=FJ hr0 a'.defers (fr:={b.atR a' todo with mode:=.returning}) rfl (J1 _).symm hm hs;exact⟨w2,k1,h.trans k2⟩
theorem I6(hxP:x.P=P)(hS:bK P x.S)(hi:x.inR=b.roundOf.isSome)(hb:b.roundOf=No)(hbd:b.defers=[])(hr0:Rel E0 w0.heap s0)(hs:aR E0 E w0 w s0 st)(ht:bX E x.nt t a.tmps)
  (hm:mC w0.heap.size E w.heap st a.defers) (hl:(ao c x t st).lim E.top):Ends P ks E0 x.nt b w0 s0 (lone (b.atR a [.code c]) ks w) (ao c x t st):=by
 have hA:=uR (ks:=ks) c x hxP hS [] hi hs.rel ht ⟨a.defers,by grind,hm⟩ hs.fr.size hl;have fin:∀{t1:Tr AV}{st1:St},(ao c x t st=.nx t1 st1\/ao c x t st=.rt t1 st1)->st1.next<=E.top->∃E' a' w' todo,aR E0 E' w0 w' s0 st1/\bX E' x.nt t1 a'.tmps/\Steps P (lone (b.atR a [.code c]) ks w) (lone {b.atR a' todo with mode:=.returning,defers:=[]} ks w'):=by intro t1 st1 h _;have⟨E1,a1,w1,todo,h1,h2,⟨ms,h3,h4⟩,h5⟩:=hA.JF hb h;rw[hbd,J1]at h3;subst h3;have⟨w2,k1,k2⟩:=Hw hr0 (hs.trans h1) h4 h5;grind
 cases ho:ao c x t st with
 |nx t1 st1=>exact fin (.inl ho) (by rw[ho]at hl;exact hl)
 |rt t1 st1=>exact fin (.inr ho) (by rw[ho]at hl;exact hl)
 |_=>trivial
theorem VX(h:oD x t st3 v=.nx t4 st4):t4=t/\∃g first captured r fn cd,v=.f (.func g) first captured/\x.S.dcall g (first++captured) st3=So (r,st4)/\x.P.funcs[g]? = So fn/\fn.body=So cd:=by
 unfold oD at h;split at h
 case h_2=>grind
 rename_i g first captured
 cases hd:pR x.P x.S g (first++captured) st3 with
 |none=>rw[hd]at h;cases h
 |some p=>rw[hd]at h;cases h;grind[pR,Hr]
theorem MN:oD x t st3 v=.no\/∃t4 st4,oD x t st3 v=.nx t4 st4:=by
 unfold oD;split
 ·unfold wD;grind
 grind
theorem MQ(hS:bK x.P x.S)(hi:x.inR=b.roundOf.isSome)(hb:b.roundOf=No)(hr0:Rel E0 w0.heap s0)(hs:aR E0 E w0 w s0 st)(ht:bX E x.nt t a.tmps)
  (hm:mC w0.heap.size E w.heap st a.defers) {id:Nat}{h:List Oper}{d:Oper} (hops:ops.toList=h++[d]) (hop:uV d=So f) {t2 t3:Tr AV}
  (he:bw x.P x.S x.nt ops h t st=.nx t1 st1) (hp:dE x.nt t1 d.dst .un=So t2) (hc:ao c x t2 st1=.nx t3 st3\/ao c x t2 st1=.rt t3 st3) (hd:oD x t3 st3 (ah t1 f)=.nx t4 st4) (hl:st4.next<=E.top):
  ∃E' a' w' todo,aR E0 E' w0 w' s0 st4/\bX E' x.nt t4 a'.tmps/\Steps x.P (lone (b.atR a [.code (.region id ops Ff),.code c]) ks w) (lone {b.atR a' todo with mode:=.returning,defers:=[]} ks w'):=by
 obtain⟨rfl,g,first,captured,r,fn,cd,hv,hcall,hfn,hbody⟩:=VX hd;have hu1:st1.next<=st3.next:=by
  have hu:=iQ c x hS.up t2 st1;rcases hc with e|e
  ·exact hu.1 _ _ e
  ·exact hu.2.2 _ _ e
 have hu2:st3.next<=st4.next:=hS.up.dcall _ _ _ _ _ hcall;obtain⟨E1,a1,w1,s1,ht1,hdf,g1⟩:=aaI (ks:=ks) (b:=b) (k:=[.code c]) (rest:=[h.length]) hS h 0 (by
  intro j hj;have:ops.toList[j]? = h[j]?:=by grind
  grind) hs.rel ht (by rw[he];show st1.next<=E.top;omega) he
 have hod:ops[h.length]? = So d:=by rw[<-Q5,hops];simp
 have hcv:=u9 ht1 f;rw[hv]at hcv;generalize hev:a1.eval f=fv at hcv;cases hcv with
 |f _ _ _ vx vy _ hvx hvy=>
 let D:Deferred:={target:=.fn (.func g) vy.toArray,args:=vx.toArray}
 let a2:Act:={tmps:=(a1.put d.dst undef).tmps,defers:=D::a1.defers}
 have ht2:bX E1 x.nt t2 a2.tmps:=tM ht1 hp .un
 let b':Frame:={b with defers:=D::a1.defers}
 have e1:E1.top=E.top:=s1.top;have hA:=uR (ks:=ks) (b:=b') c x rfl hS [] hi s1.rel ht2 Marks.nil (Q1 _) (by
  rcases hc with e|e<;>rw[e]
  ·show st3.next<=E1.top;omega
  ·show st3.next<=E1.top;omega)
 obtain⟨E3,a3,w3,todo,s3,ht3,⟨ms,h3,h4⟩,g3⟩:=hA.JF (show b'.roundOf=No from hb) hc;obtain⟨w4,s4,g4⟩:=FJ s1.rel ms (fr:={b'.atR a3 todo with mode:=.returning}) rfl h3 h4 s3;obtain⟨E5,w5,cv,hk,s5,hcv⟩:=hS.dcall s4.rel ((hvx.mono s4.le).append (hvy.mono s4.le)) hcall (by rw[s4.top,e1];grind);have sAll:aR E0 E5 w0 w5 s0 st4:=((hs.trans s1).trans s4).trans s5;have hmk:mC w0.heap.size E5 w5.heap st4 a1.defers:=by rw[hdf];exact((hm.step s1.toStep).step s4.toStep).step s5.toStep
 obtain⟨w6,s6,g6⟩:=FJ hr0 a1.defers (fr:={b'.atR a3 todo with mode:=.returning,defers:=a1.defers}) rfl (J1 _).symm hmk sAll;refine⟨E5,a3,w6,todo,s6,ht3.mono s5.le,?_⟩;have hng':fn.name≠ "runtime.NumGoroutine":=by simpa using hS.ng g fn hfn
 have hinv:(invoke D.target D.args).run x.P w4=.ok (.enter g (vx++vy).toArray) w4:=by simp[D,invoke,callFunc,hfn,hng',hbody]
 refine(Q0 stepR_region).trans ?_;have hr1:List.range ops.size=List.range' 0 h.length++[h.length]:=by
  have:ops.size=h.length+1:=by rw[<-V7,hops];simp
  grind[V8,List.range'_concat]
 rw[hr1];refine g1.trans ?_;refine(Q0 (acP hb hod hop hev)).trans ?_;refine(Q0 stepR_region_end).trans ?_;refine g3.trans ?_;refine g4.trans ?_;refine(Q0 (step_defer (by simp) rfl rfl hinv)).trans ?_;obtain⟨fr,k1,k2,k3,k4⟩:=hk;refine k1.trans ?_;refine(Q0 (step_going_returned k3 k4)).trans ?_;exact g6
theorem Wa(hxP:x.P=P)(hS:bK P x.S)(hi:x.inR=b.roundOf.isSome)(hb:b.roundOf=No)(hr0:Rel E0 w0.heap s0)(hs:aR E0 E w0 w s0 st)(ht:bX E x.nt t a.tmps)
  (hm:mC w0.heap.size E w.heap st a.defers) {r:Code}{h:List Oper}{d:Oper} (hd:oE r=So (ops,h,d,f)) (hl:(vR x d f (ao c x) (bw x.P x.S x.nt ops h t st)).lim E.top):
  Ends P ks E0 x.nt b w0 s0 (lone (b.atR a [.code r,.code c]) ks w) (vR x d f (ao c x) (bw x.P x.S x.nt ops h t st)):=by
 subst hxP;obtain⟨id,rfl,hops,hop⟩:=VZ hd;unfold vR at hl|-;cases he:bw x.P x.S x.nt ops h t st with
 |nx t1 st1=>
  rw[he]at hl;simp only at hl|-;unfold Fh at hl|-;cases hp:dE x.nt t1 d.dst .un with
  |none=>trivial
  |some t2=>
   rw[hp]at hl;simp[Tr.seen_eq]at hl|-;cases hc:ao c x t2 st1 with
   |no=>trivial
   |ex i t3 st3=>trivial
   |nx t3 st3=>
    rw[hc]at hl;have e:pT x (ah t1 f) (.nx t3 st3)=oD x t3 st3 (ah t1 f):=rfl;rw[e]at hl|-;rcases MN with hd|⟨t4,st4,hd⟩
    ·rw[hd];trivial
    ·rw[hd]at hl|-;exact MQ hS hi hb hr0 hs ht hm hops hop he hp (.inl hc) hd hl
   |rt t3 st3=>
    rw[hc]at hl;have e:pT x (ah t1 f) (.rt t3 st3)=oD x t3 st3 (ah t1 f):=rfl;rw[e]at hl|-;rcases MN with hd|⟨t4,st4,hd⟩
    ·rw[hd];trivial
    ·rw[hd]at hl|-;exact MQ hS hi hb hr0 hs ht hm hops hop he hp (.inr hc) hd hl
 |_=>trivial
theorem adn(hxP:x.P=P)(hS:bK P x.S)(hi:x.inR=b.roundOf.isSome)(hb:b.roundOf=No)(hbd:b.defers=[])(hr0:Rel E0 w0.heap s0):∀(n:Nat) (c:Code){E:Env}{w:World}{st:St}{t:Tr AV}{a:Act},aR E0 E w0 w s0 st->bX E x.nt t a.tmps->
  mC w0.heap.size E w.heap st a.defers->(kM x n c t st).lim E.top->Ends P ks E0 x.nt b w0 s0 (lone (b.atR a [.code c]) ks w) (kM x n c t st):=by
 intro n;induction n with
 |zero=>
  intro c E w st t a hs ht hm hl;have e:kM x 0 c t st=ao c x t st:=by cases c<;>rfl
  grind[I6]
 |succ n ih=>
  intro c E w st t a hs ht hm hl;cases c with
  |seq r c=>
   unfold kM at hl|-;cases hd:oE r with
   |some p=>rw[hd]at hl;exact Ends.gW (stepR_seq) (Wa hxP hS hi hb hr0 hs ht hm hd hl)
   |none=>
    rw[hd]at hl;refine Ends.gW (stepR_seq) ?_;have h1:=uR (ks:=ks) r x hxP hS [.code c] hi hs.rel ht ⟨a.defers,by grind,hm⟩ hs.fr.size;cases hc1:ao r x t st with
    |no=>trivial
    |ex i t1 st1=>trivial
    |nx t1 st1=>
     rw[hc1]at h1 hl;have hl:(kM x n c t1 st1).lim E.top:=hl;rcases wM (SD hS.up n c t1 st1) hl with hno|hn
     ·simp_all[Ends]
     ·have⟨E1,a1,w1,s1,h2,⟨ms,h3,h3'⟩,h4⟩:=h1 hn;rw[hbd,J1]at h3;subst h3;exact Ends.pre h4 (ih c (hs.trans s1) h2 h3' (by rw[s1.top];grind))
    |rt t1 st1=>rw[hc1]at h1 hl;have⟨E1,a1,w1,todo,k1,k2,⟨ms,h3,h4⟩,h5⟩:=h1 hl hb;rw[hbd,J1]at h3;subst h3;have⟨w2,m1,m2⟩:=Hw hr0 (hs.trans k1) h4 h5;exact⟨E1,a1,w2,todo,m1,k2,m2⟩
  |_=>exact I6 hxP hS hi hb hbd hr0 hs ht hm hl
theorem adm(hxP:x.P=P)(hS:bK P x.S)(hi:x.inR=b.roundOf.isSome)(hb:b.roundOf=No)(hbd:b.defers=[])(hr:Rel E w.heap st)(ht:bX E x.nt t a.tmps)
  (ha:a.defers=[]) (hl:(qX x c t st).lim E.top):Ends P ks E x.nt b w st (lone (b.atR a [.code c]) ks w) (qX x c t st):=by
 have hm:mC w.heap.size E w.heap st a.defers:=by rw[ha];exact⟨List.Pairwise.nil,λ_ h=>by grind⟩
 unfold qX at hl|-;cases hd:defers 4 c with
 |false=>rw[hd]at hl;exact I6 hxP hS hi hb hbd hr (.refl hr) ht hm hl
 |true=>rw[hd]at hl;exact adn hxP hS hi hb hbd hr 4 c (.refl hr) ht hm hl
end
theorem Sj:∀(l:List AV) (n:Nat) (t:Tr AV) (x:Nat),ab (tmpsOf l n t) x=if n<=x then(match l[x-n]? with|some v=>v|none=>ab t x) else ab t x
 |[],n,t,x=>by simp_all
 |v::l,n,t,x=>by
  have e:tmpsOf (v::l) n t=tmpsOf l (n+1) (t.set n (So v)):=rfl;have hg:ab (t.set n (So v)) x=if x=n then v else ab t x:=by unfold ab;rw[Tr.cW];by_cases h:x=n<;>simp[h]
  rw[e,Sj l (n+1) (t.set n (So v)) x,hg];by_cases h1:n+1<=x
  ·have h2:n<=x:=by omega
   have h3:x≠n:=by omega
   have h4:x-n=(x-(n+1))+1:=by omega
   rw[if_pos h1,if_pos h2,if_neg h3,h4];rfl
  ·rw[if_neg h1];by_cases h2:x=n
   ·subst h2;simp
   ·rw[if_neg h2,if_neg (by omega)]
theorem MX(h:aH E az us)(hn:az.length<=nt):bX E nt (tmpsOf az 0 .lf) (us.toArray++Array.replicate (nt-us.toArray.size) undef):=by
 have hlen:=h.length;refine⟨by grind,λx=>?_⟩;rw[Sj];have hlf:ab (.lf:Tr AV) x=.un:=by simp_all
 rw[hlf,Z7];cases hx:az[x]? with
 |some v=>have⟨u,hu,hc⟩:=h.get x v hx;grind
 |none=>
  show Conc E .un _
  rw[Array.getElem?_append_right (by grind)];rw[V3];split<;>exact Conc.un
theorem Ul{t:TypeId}{u x:Value}(h:(Instr.loadAt t u).run P w=.ok x w'):(do loadVar t (<-asAddr u):Sem Value).run P w=.ok x w':=by
 have stk:∀s,(do let a <-(stuck s:Sem Addr);loadVar t a:Sem Value).run P w=.ok x w'->False:=by simp_all
 cases u with
 |pointer a=>
  cases a with
  |some a=>exact h
  |none=>exact(stk _ h).elim
 |_=>exact(stk _ h).elim
def JE(tmps:Array Value):ResultVar->Sem Value
 |.tmp t=>pure (tmps.getD t undef)
 |.cell a t=>do loadVar t (<-asAddr (tmps.getD a undef))
theorem Re(hr:Rel E w.heap st){t:Tr AV}{tmps:Array Value}(ht:bX E nt t tmps):∀{l:List ResultVar}{vs:List AV},aO (oW P t st) l=So vs->
  ∃us,(l.mapM (JE tmps)).run P w=.ok us w/\aH E vs us
 |[],vs,h=>by cases h;exact⟨[],by simp,.nil⟩
 |r::l,vs,h=>by
  unfold aO at h;cases hr1:oW P t st r with
  |none=>grind
  |some v=>
   rw[hr1]at h;cases hl:aO (oW P t st) l with
   |none=>grind
   |some vs'=>
    rw[hl]at h;cases h;have⟨us,h1,h2⟩:=Re hr ht hl;have:∃u,(JE tmps r).run P w=.ok u w/\Conc E v u:=by
     cases r with
     |tmp x=>refine⟨tmps.getD x undef,rfl,?_⟩;cases hr1;exact ht.2 x
     |cell a ty=>
      have hr1:(match t.get a with|some v=>loadAt P ty st v|none=>No)=So v:=hr1;have hc:=ht.2 a;unfold ab at hc;cases hg:t.get a with
      |none=>grind
      |some z=>rw[hg]at hr1 hc;have⟨u,k1,k2⟩:=Iy hr hr1 hc;exact⟨u,Ul k1,k2⟩
    have⟨u,k1,k2⟩:=this;refine⟨u::us,?_,.cons _ _ _ _ k2 h2⟩;simp_all
theorem Ra(hr:Rel E w.heap st)(ht:bX E nt t tmps)(h:nY P fn.results.toList t st=So (v,st')):
  st'=st/\∃u,(results fn tmps).run P w=.ok u w/\Conc E v u:=by
 unfold nY at h;have key:∀{vs:List AV},aO (oW P t st) fn.results.toList=So vs->∃us,(results fn tmps).run P w=.ok (if h:us.toArray.size=1 then us.toArray[0] else .tuple us.toArray) w/\aH E vs us:=by intro vs hp;have⟨us,h1,h2⟩:=Re hr ht hp;refine⟨us,?_,h2⟩;have e:results fn tmps=(do let vs <-fn.results.mapM (JE tmps);pure (if h:vs.size=1 then vs[0] else .tuple vs)):=rfl;simp_all[Array.mapM_eq_mapM_toList]
 split at h
 ·rename_i v' hp;have⟨us,h1,h2⟩:=key hp;cases h2 with
  |cons _ _ u us hu hus=>cases hus;grind
 ·rename_i vs hne hp;cases h;have⟨us,h1,h2⟩:=key hp;refine⟨rfl,.tuple us.toArray,?_,.tu _ _ h2⟩;have:us.toArray.size≠1:=by
   intro e;have e':vs.length=1:=by rw[h2.length];grind
   match vs,e' with
   |[v],_=>grind
  grind
 grind
theorem GT(hS:bK P S){kind:CallKind}{f:FuncId}(hr:Rel E w.heap st)(hc:aH E az us)(h:ib P S n f az st=So (v,st'))(hn:st'.next<=E.top):
  ∃E' w' cv,xP P kind ks f us.toArray w w' cv/\aR E E' w w' st st'/\Conc E' v cv:=by
 unfold ib at h;split at h
 ·grind
 rename_i fn hf;split at h
 ·grind
 rename_i c hbody;have⟨hlen,h⟩:=dm h;have hlen':az.length<=fn.ntmps:=by simp_all
 have ht:=MX hc hlen'
 let fb:Frame:={fn:=f,tmps:=us.toArray++Array.replicate (fn.ntmps-us.toArray.size) undef,todo:=[],defers:=[],mode:=.run,kind:=kind}
 let a0:Act:={tmps:=us.toArray++Array.replicate (fn.ntmps-us.toArray.size) undef,defers:=[]}
 have hent:Frame.enter P f us.toArray kind=fb.atR a0 [.code c]:=by grind[Frame.enter,Frame.atR]
 have hst1:∀{l:List ResultVar}{t:Tr AV}{st1:St},nY P l t st1=So (v,st')->st1=st':=by grind[nY]
 have fin:∀{t:Tr AV}{st1:St},nY P fn.results.toList t st1=So (v,st')->(∃E' a' w' todo,aR E E' w w' st st1/\bX E' fn.ntmps t a'.tmps/\Steps P (lone (fb.atR a0 [.code c]) ks w) (lone {fb.atR a' todo with mode:=.returning,defers:=[]} ks w'))->
   ∃E' w' cv,xP P kind ks f us.toArray w w' cv/\aR E E' w w' st st'/\Conc E' v cv:=by
  rintro t st1 hres ⟨E1,a1,w2,todo,k1,k2,k3⟩;obtain⟨rfl,u,k5,k4⟩:=Ra k1.rel k2 hres;refine⟨E1,w2,u,⟨{fb.atR a1 todo with mode:=.returning,defers:=[]},?_,rfl,rfl,rfl,rfl,fn,hf,k5⟩,k1,k4⟩;grind
 have hE:∀{o:Out},qX ⟨P,S,Ff,fn.ntmps,n⟩ c (tmpsOf az 0 .lf) st=o->o.lim E.top->Ends P ks E fn.ntmps fb w st (lone (fb.atR a0 [.code c]) ks w) o:=by intro o ho hl;subst ho;exact adm rfl hS rfl rfl rfl hr ht rfl hl
 unfold fN at h;split at h
 ·rename_i t st1 hev;have:=hst1 h;subst this;exact fin h (hE hev hn)
 ·rename_i t st1 hev;have:=hst1 h;subst this;exact fin h (hE hev hn)
 grind
theorem GR(hS:bK P S){f:FuncId}(hr:Rel E w.heap st)(hc:aH E az us)(h:ib P S n f az st=So (v,st'))(hn:st'.next<=E.top):
  ∃E' w' cv,jD P ks f us.toArray w w' cv/\aR E E' w w' st st'/\Conc E' v cv:=by
 obtain⟨E',w',cv,h1,h2,h3⟩:=GT hS hr hc h hn;exact⟨E',w',cv,h1.to,h2,h3⟩
theorem Fm(hng:zJ P)(hmx:P.follows .mixedOrders=Tt):∀n,bK P (self P n)
 |0=>⟨hng,hmx,BG P 0,λ_ _ h _=>(by cases h),λ_ _ _ _ _ _=>trivial,λ_ _ h _=>(by cases h)⟩
 |n+1=>⟨hng,hmx,BG P (n+1),λhr hc h hn=>GR (Fm hng hmx n) hr hc h hn,λ{ks E w st nt c t a b} k hb hr ht hm hl=>
   uR c ⟨P,self P n,Tt,nt,n⟩ rfl (Fm hng hmx n) k hb.symm hr ht hm (Q9 _) hl,λhr hc h hn=>GT (Fm hng hmx n) hr hc h hn⟩
def ay:St:=⟨.lf,.lf,0⟩
theorem qf(r:Nat):ay.get r=none:=by exact Tr.vm r
theorem acK(H:Array Obj)(top:Nat):Rel ⟨λ_=>No,λ_=>No,top⟩ H ay:=by
 have hal:∀r row,ay.alive r=So row->False:=λr row h=>by have:=Rel.kZ h;rw[qf]at this;grind
 have hlv:∀g:Nat,ay.live.get g=none:=λg=>Tr.vm g
 refine⟨λ_ _ h=>(by grind),λ_ _ _=>rfl,λr _=>qf r,λg _=>hlv g,λg al x h=>?_,λr row h=>(hal r row h).elim,λr row B h=>(hal r row h).elim,λr r' row row' B B' h=>(hal r row h).elim,λg al h=>?_,λr t r0 x h=>by rw[qf]at h;grind⟩
 ·rw[hlv]at h;cases h
 ·rw[hlv]at h;cases h
def JL(P:Program)(n:Nat)(f:FuncId):Bool :=
 match Wr P n f [] ay with
 |some (v,_)=>match v.gH with
  |some b=>b
  |none=>Ff
 |none=>Ff
theorem ab6(hng:zJ P)(hmx:P.follows .mixedOrders=Tt){f:FuncId}(h:JL P n f=Tt)(ks:List Frame)(w:World):
  ∃w',jD P ks f #[] w w' (.bool Tt)/\w'.os=w.os/\w'.output=w.output/\w.heap.size<=w'.heap.size/\∀i,i<w.heap.size->w'.heap[i]? = w.heap[i]?:=by
 unfold JL at h;split at h
 case h_2=>grind
 rename_i v st' he;split at h
 case h_2=>grind
 rename_i b hb;subst h;have hv:=AV.xZ hb;subst hv;obtain⟨E',w',cv,h1,h2,h3⟩:=(Fm hng hmx n).call (acK w.heap st'.next) .nil he (Q1 _);cases h3;refine⟨w',h1,h2.os,h2.out,h2.fr.size,λi hi=>h2.fr.keep i hi ?_⟩;rintro⟨r,row,B,ha,_,_⟩;grind
theorem Step.grow{H':Array Obj}(h:Rel E H st)(hs:H.size<=H'.size)(hk:∀b,b<H.size->H'[b]? = H[b]?):Step E E H H' st st:=by
 refine⟨.refl E,λ_ _ _ h=>h,rfl,⟨?_,h.fresh,h.freshRow,h.freshG,h.liveLt,?_,h.own,h.sep,h.ends,λr t r0 x hx=>(h.tys r t r0 x hx).mono (.refl E) (dZ.Ey hk)⟩,hs,λb hb _=>hk b hb,λ_ h=>.inr h⟩
 ·intro b o' hb;rw[hk b (h.wG hb)];exact h.imm b o' hb
 ·intro r row hr;have⟨B,hB,hR⟩:=h.rows r row hr;exact⟨B,hB,hR.mono (.refl E) (hk _ hR.lt)⟩
def xI(g:FuncId)(S:Self):Self :=
 ⟨λf az st=>@Bool.rec (λ_=>aD) (S.call f az st) (match az with|[]=>So (.b Tt,st)|_=>S.call f az st) (Nat.beq f g),S.code,S.dcall⟩
theorem aea(hS:bK P S)(hg:∀ks w,∃w',jD P ks g #[] w w' (.bool Tt)/\w'.os=w.os/\w'.output=w.output/\w.heap.size<=w'.heap.size/\∀i,i<w.heap.size->w'.heap[i]? = w.heap[i]?):bK P (xI g S):=by
 refine⟨hS.ng,hS.mixed,⟨λf az st=>?_,hS.up.code,hS.up.dcall⟩,λ{ks E w st st' f az us v} hr hc h hn=>?_,λ{ks E w st nt c t a b} k hb hr ht hm hl=>hS.code k hb hr ht hm hl,hS.dcall⟩
 ·unfold xI;simp only;cases Nat.beq f g with
  |false=>exact hS.up.call f az st
  |true=>
   cases az with
   |nil=>exact fp
   |cons a l=>exact hS.up.call f (a::l) st
 ·unfold xI at h;simp only at h;cases hb:Nat.beq f g with
  |false=>rw[hb]at h;exact hS.call hr hc h hn
  |true=>
   rw[hb]at h;cases az with
   |cons a l=>exact hS.call hr hc h hn
   |nil=>
    cases h;cases hc;have:f=g:=by simp_all
    subst this;have⟨w',h1,h2,h3,h4,h5⟩:=hg ks w;exact⟨E,w',.bool Tt,h1,⟨Step.grow hr h4 h5,h2,h3⟩,.b Tt⟩
theorem Vo{f:FuncId}{args:Array Value}(h:∀ks,∃w',jD P ks f args w w' (.bool Tt)/\w'.os=w.os/\w'.output=w.output/\w.heap.size<=w'.heap.size/\∀i,i<w.heap.size->w'.heap[i]? = w.heap[i]?):
  Calls P f args w λe w'=>e=.returned (.bool Tt)/\(∀may,w.keptBut w' may)/\∀i,i<w.heap.size->w'.heap[i]? = w.heap[i]?:=by
 intro cs;have⟨w',h1,h2,h3,h4,h5⟩:=h cs;have⟨fr,k1,k2,k3⟩:=h1;refine⟨.returned (.bool Tt),w',fr,⟨rfl,λmay=>⟨h2,h3,λi hi=>?_⟩,h5⟩,k1,k2,k3⟩;grind
theorem ab5(h:∀i,i<w.heap.size->w'.heap[i]? = w.heap[i]?){p:MemPlace}(hp:p.block<w.heap.size):w.sameAt w' p:=by
 cases p with
 |cell b off=>exact World.cell?_of_block (h b hp)
 |map b=>exact h b hp
def PN (P:Program):Bool:=P.funcs.all λfn=>!(fn.name == "runtime.NumGoroutine")
theorem IL(h:PN P=Tt):zJ P:=by intro f fn hf;have:=Array.all_eq_true_iff_forall_mem.1 h fn (Array.mem_of_getElem? hf);grind
section
variable {top:Nat}
def jv(H:Array Obj)(top:Nat):Env:=⟨λb=>H[b]?,λ_=>No,top⟩
theorem Og(H:Array Obj)(top:Nat):Rel (jv H top) H ay:=by
 have hal:∀r row,ay.alive r=So row->False:=λr row h=>by have:=Rel.kZ h;rw[qf]at this;grind
 have hlv:∀g:Nat,ay.live.get g=none:=λg=>Tr.vm g
 refine⟨λ_ _ h=>h,λ_ _ _=>rfl,λr _=>qf r,λg _=>hlv g,λg al x h=>?_,λr row h=>(hal r row h).elim,λr row B h=>(hal r row h).elim,λr r' row row' B B' h=>(hal r row h).elim,λg al h=>?_,λr t r0 x h=>by rw[qf]at h;grind⟩
 ·rw[hlv]at h;cases h
 ·rw[hlv]at h;cases h
theorem Of{a:Addr}{v:Value}(h:w.cell? a=So v):a.spot=No/\(jv w.heap top).cell a.block a.off=So v:=by
 unfold World.cell? at h;unfold Env.cell jv;simp only;split at h
 ·rename_i c t f hb;rw[hb];split at h
  ·cases h
  ·rename_i hs;exact⟨by simpa using hs,h⟩
 ·cases h
theorem Lm(a:Addr)(n:Nat):(a.add n).block=a.block:=by unfold Addr.add;grind
theorem Ln(a:Addr)(n:Nat):(a.add n).off=a.off+n:=by unfold Addr.add;grind
theorem Vu{a:Addr}{cs:List Value}(h:w.cells? base a n=So cs):cs.length=n/\(0<n->a.spot=No)/\∀j v,cs[j]? = So v->(jv w.heap top).cell a.block (a.off+j)=So v:=by
 unfold World.cells? at h;split at h
 ·have h1:=mapM_some_length h;have key:∀j v,cs[j]? = So v->w.cell? (a.add j)=So v:=by
   intro j v hj;have h2:=mapM_some_get h j j (by grind);grind
  refine⟨by grind,λhn=>?_,λj v hj=>?_⟩
  ·have hl:0<cs.length:=by grind
   have:=(Of (top:=top) (key 0 cs[0] (by grind))).1;exact this
  ·have:=(Of (top:=top) (key j v hj)).2;grind[Lm,Ln]
 grind
def Ct(P:Program):List Field->Nat->Nat->Prop
 |[],o,n=>o=n
 |f::fs,o,n=>f.offset=o/\Ct P fs (o+aq P f.type) n
def BV(P:Program):List Field->Nat->Nat->Bool
 |[],o,n=>Nat.beq o n
 |f::fs,o,n=>Nat.beq f.offset o&&BV P fs (o+aq P f.type) n
theorem Sk:∀{fs:List Field}{o n:Nat},BV P fs o n=Tt->Ct P fs o n
 |[],o,n,h=>V9 h
 |f::fs,o,n,h=>by simp only[BV,Z4]at h;exact⟨V9 h.1,Sk h.2⟩
def Typed(P:Program):Nat->TypeId->List AV->Prop
 |0,_,_=>False
 |k+1,t,l=>match P.underlying t with
  |some .bool=>∃b,l=[.b b]
  |some (.int q)=>∃n,l=[.i q n]/\q.min<=n/\n<=q.max
  |some .string=>∃bs:List Nat,l=[.s bs]/\(∀b∈bs,b<256)/\bs.length<=maxLen
  |some (.slice e)=>aq P e=0\/l=[.sn]\/∃els:List (List AV),l=[.rs els.flatten els.length (aq P e)]/\els.length<=maxLen/\∀x∈els,x.length=aq P e/\Typed P k e x
  |some (.struct fs)=>BV P fs.toList 0 (aq P t)=Tt->∃parts:List (List AV),l=parts.flatten/\parts.length=fs.toList.length/\∀(i:Nat) (f:Field) (p:List AV),fs.toList[i]? = So f->parts[i]? = So p->p.length=aq P f.type/\Typed P k f.type p
  |_=>True
theorem CL{E:Env}:∀cs:List Value,aH E (cs.map λ_=>.bad) cs
 |[]=>.nil
 |v::cs=>.cons _ _ _ _ (.bad v) (CL cs)
theorem BU(t:TypeId):aq P t=P.cellsOf t:=by grind[aq,Program.cellsOf]
section
variable {H:Type}{enc:TypeId×Value->H}{spare:Nat->Bool}{held:Bool}
theorem acZ{k:Nat}{cs:List Value}(ih:∀t cs d ps,DataW.trod enc P w base spare held k t cs=So (d,ps)->∃l,aH (jv w.heap top) l cs/\Typed P k t l):
  ∀(fs:List Field) (o n:Nat) (xs:List (DataW H×List MemPlace)),Ct P fs o n->cs.length=n->(fs.mapM λf=>DataW.trod enc P w base spare held k f.type ((cs.drop f.offset).take (P.cellsOf f.type)))=So xs ->
   ∃parts:List (List AV),aH (jv w.heap top) parts.flatten (cs.drop o)/\parts.length=fs.length/\∀(i:Nat) (f:Field) (p:List AV),fs[i]? = So f->parts[i]? = So p->p.length=aq P f.type/\Typed P k f.type p:=by
 intro fs;induction fs with
 |nil=>intro o n xs ht hc h;have:o=n:=ht;subst this;refine⟨[],?_,rfl,λi f p h=>by grind⟩;rw[X0 (by omega)];exact .nil
 |cons f fs ihf=>
  intro o n xs ht hc h;have⟨h1,h2⟩:=ht;rw[List.mapM_cons]at h;cases ha:DataW.trod enc P w base spare held k f.type ((cs.drop f.offset).take (P.cellsOf f.type))with
  |none=>grind
  |some x=>
   rw[ha]at h;cases hb:(fs.mapM λf=>DataW.trod enc P w base spare held k f.type ((cs.drop f.offset).take (P.cellsOf f.type)))with
   |none=>grind
   |some ys=>
    have⟨l,c1,c2⟩:=ih _ _ x.1 x.2 ha;have⟨parts,p1,p2,p3⟩:=ihf _ n ys h2 hc hb;rw[h1]at c1;have hle:∀(gs:List Field) (a b:Nat),Ct P gs a b->a<=b:=by
     intro gs;induction gs with
     |nil=>intro a b h;exact Nat.le_of_eq h
     |cons g gs ihg=>intro a b h;have:=ihg _ _ h.2;omega
    have hn:=hle _ _ _ h2;have hl:l.length=aq P f.type:=by rw[c1.length,List.length_take,List.length_drop,<-BU];omega
    refine⟨l::parts,?_,by grind,λi g p hg hp=>?_⟩
    ·have e:cs.drop o=(cs.drop o).take (P.cellsOf f.type)++cs.drop (o+aq P f.type):=by
      grind[BU,List.drop_drop,List.take_append_drop]
     rw[e,X4];exact c1.append p1
    grind
theorem acr{k:Nat}{a:Addr}(ih:∀t cs d ps,DataW.trod enc P w base spare held k t cs=So (d,ps)->∃l,aH (jv w.heap top) l cs/\Typed P k t l):
  ∀(xs:List (DataW H×List MemPlace)) (i0:Nat),(∀i x,xs[i]? = So x->(w.cells? base (a.add ((i0+i)*P.cellsOf e)) (P.cellsOf e)).bind (DataW.trod enc P w base spare held k e)=So x)->
   ∃(els:List (List AV)) (vs:List Value),els.length=xs.length/\(∀x∈els,x.length=aq P e/\Typed P k e x)/\aH (jv w.heap top) els.flatten vs/\
    (i0=0->0<xs.length->0<P.cellsOf e->a.spot=No)/\∀j v,vs[j]? = So v->(jv w.heap top).cell a.block (a.off+i0*P.cellsOf e+j)=So v:=by
 intro xs;induction xs with
 |nil=>intro i0 h;exact⟨[],[],rfl,λx hx=>(by grind),.nil,λ_ h=>(by grind),λj v hj=>by grind⟩
 |cons x xs ihx=>
  intro i0 h;obtain⟨els,vs,k1,k2,k3,-,k4⟩:=ihx (i0+1) (λi y hy=>by have:=h (i+1) y (by grind);grind);have h0:=h 0 x rfl;rw[X5]at h0;cases hc:w.cells? base (a.add (i0*P.cellsOf e)) (P.cellsOf e)with
  |none=>grind
  |some cs=>
   rw[hc]at h0;have⟨c1,cs0,c2⟩:=Vu (top:=top) hc;have⟨l,d1,d2⟩:=ih e cs x.1 x.2 h0;have hl:l.length=aq P e:=by rw[d1.length,c1,BU]
   refine⟨l::els,cs++vs,by grind,?_,?_,λh0 _ hz=>?_,λj v hj=>?_⟩
   ·intro y hy;rcases Q2.1 hy with rfl|hy
    ·exact⟨hl,d2⟩
    ·exact k2 y hy
   ·exact d1.append k3
   ·have:=cs0 hz;rw[h0,X6]at this;exact this
   grind[Lm,Ln]
theorem adp:∀(k:Nat) (t:TypeId) (cs:List Value) (d:DataW H) (ps:List MemPlace),
  DataW.trod enc P w base spare held k t cs=So (d,ps)->∃l,aH (jv w.heap top) l cs/\Typed P k t l:=by
 intro k;induction k with
 |zero=>intro t cs d ps h;cases h
 |succ k ih=>
  intro t cs d ps h;cases hu:P.underlying t with
  |none=>exact⟨_,CL cs,by simp[Typed,hu]⟩
  |some u=>
   cases u with
   |bool=>
    rw[J3]at h;simp[hu]at h;split at h<;>first|(rename_i e;cases e;done)|skip
    all_goals first
     |(rename_i b hb;exact⟨[.b b],.cons _ _ _ _ (.b b) .nil,by grind[Typed]⟩)
     |grind
     |skip
   |int q=>
    rw[J3]at h;simp[hu]at h;split at h<;>first|(rename_i e;cases e;done)|skip
    ·rename_i e;cases e;split at h
     ·rename_i hq;obtain⟨rfl,hw⟩:=hq;simp[Lit.wf]at hw;exact⟨[.i _ _],.cons _ _ _ _ (.i _ _) .nil,by grind[Typed]⟩
     grind
    grind
   |string=>
    rw[J3]at h;simp[hu]at h;split at h<;>first|(rename_i e;cases e;done)|skip
    ·rename_i s e;split at h
     ·rename_i hs;refine⟨[.s (s.data.toList.map UInt8.toNat)],.cons _ _ _ _ (.s s) .nil,?_⟩;simp only[Typed,hu];refine⟨_,rfl,λb hb=>?_,by simp_all⟩;obtain⟨x,-,rfl⟩:=J4.1 hb;exact x.toNat_lt
     grind
    grind
   |slice e=>
    rw[J3]at h;simp[hu]at h;split at h<;>first|(rename_i e;cases e;done)|skip
    ·exact⟨[.sn],.cons _ _ _ _ .sn .nil,by grind[Typed]⟩
    ·rename_i e' a len cap he;cases he;split at h
     ·rename_i hlen;by_cases hz:aq P e=0
      ·exact⟨[.bad],.cons _ _ _ _ (.bad _) .nil,by simp only[Typed,hu];exact .inl hz⟩
      ·cases hm:(List.mapM (λi=>(w.cells? base (a.add (i*P.cellsOf e)) (P.cellsOf e)).bind (DataW.trod enc P w base spare held k e)) (List.range len))with
       |none=>rw[hm]at h;cases h
       |some xs=>
        have hxl:=mapM_some_length hm;rw[List.length_range]at hxl;obtain⟨els,vs,k1,k2,k3,k4,k5⟩:=acr ih xs 0 λi x hx=>by
         have hi:i<len:=by have:=(V2.1 hx).1;omega
         have:=mapM_some_get hm i i (by simp[hi]);rw[hx]at this;rw[J5];exact this
        rw[X6,X5]at k5;have hlx:els.length=len:=by rw[k1,hxl]
        refine⟨[.rs els.flatten els.length (aq P e)],.cons _ _ _ _ ?_ .nil,by simp only[Typed,hu];exact .inr (.inr ⟨els,rfl,by omega,k2⟩)⟩;rw[hlx];by_cases h0:len=0
        ·rw[h0];exact .rs0 _ _ _ _
        ·have hsp:=k4 rfl (by omega) (by rw[<-BU];omega);obtain⟨b,o,sp⟩:=a;have:sp=none:=hsp;subst this;exact .rs _ _ _ _ b o vs hlen.2.1 k5 k3
     ·cases h
    grind
   |struct fs=>
    by_cases htl:BV P fs.toList 0 (aq P t)=Tt
    case neg=>exact⟨_,CL cs,by simp[Typed,hu];exact λhh=>absurd hh htl⟩
    rw[J3]at h;simp only[hu]at h;split at h
    ·rename_i hc;cases hm:(fs.toList.mapM λf=>DataW.trod enc P w base spare held k f.type ((cs.drop f.offset).take (P.cellsOf f.type)))with
     |none=>rw[hm]at h;cases h
     |some xs=>obtain⟨parts,p1,p2,p3⟩:=acZ ih fs.toList 0 (aq P t) xs (Sk htl) (by rw[BU];exact hc) hm;rw[List.drop_zero]at p1;exact⟨_,p1,by simp only[Typed,hu];exact λ_=>⟨parts,rfl,p2,p3⟩⟩
    ·cases h
   |_=>exact⟨_,CL cs,by simp[Typed,hu]⟩
theorem Uk{r:Reach}{b0:Nat}{w1:World}{t:TypeId}{v:Value}{d:DataW H}{ps:List MemPlace}(hval:Value.okWide P w1 r b0 t v)(hd:DataW.Trod enc P w base spare held t v d ps)
  (top:Nat):∃k av l,Conc (jv w.heap top) av v/\Typed P k t l/\(l=[av]\/av=.ag l):=by
 obtain⟨k,hk⟩:=hd;obtain⟨l,h1,h2⟩:=adp k t _ d ps hk;by_cases hag:∃cs,v=.agg cs
 ·obtain⟨cs,rfl⟩:=hag;exact⟨k,.ag l,l,by simpa using Conc.ag l cs.toList h1,h2,.inr rfl⟩
 ·have hc:v.cells = #[v]:=by
   cases v<;>first|rfl|grind
  rw[hc]at h1;cases h1 with
  |cons a l u us c1 c2=>cases c2;grind
end
theorem Yg(H:Array Obj)(a b:Nat):(jv H a).le (jv H b):=⟨λ_ _ h=>h,λ_ _ h=>h⟩
theorem mG{f:FuncId}{xs:List AV}(h:P.funcs[f]? = So fn)(hb:fn.body=So c)(hn:xs.length<=fn.ntmps)(hd:defers 4 c=false:=by rfl):
  ib P S n f xs st=fN P fn.results.toList (ao c ⟨P,S,Ff,fn.ntmps,n⟩ (tmpsOf xs 0 .lf) st):=by
 simp_all[ib,Nat.ble_eq_true_of_le,Wq]
end
def yZ(P:Program)(W:Self->Self)(n:Nat):Self :=
 @Nat.rec (λ_=>Self) ⟨λ_ _ _=>No,λ_ _ _ _=>.no,λ_ _ _=>No⟩ (λn s=>W ⟨ib P s n,λnt c t st=>ao c ⟨P,s,Tt,nt,n⟩ t st,ib P s n⟩) n
theorem vJ(hng:zJ P)(hmx:P.follows .mixedOrders=Tt){W:Self->Self}(hW:∀S,bK P S->bK P (W S)):∀n,bK P (yZ P W n)
 |0=>⟨hng,hmx,⟨λ_ _ _=>bu,λ_ _ _ _=>eZ,λ_ _ _=>bu⟩,λ_ _ h _=>(by cases h),λ_ _ _ _ _ _=>trivial,λ_ _ h _=>(by cases h)⟩
 |n+1=>hW _ ⟨hng,hmx,⟨λ_ _ _=>FL (vJ hng hmx hW n).up,λnt c t st=>iQ c ⟨P,yZ P W n,Tt,nt,n⟩ (vJ hng hmx hW n).up t st,λ_ _ _=>FL (vJ hng hmx hW n).up⟩,λhr hc h hn=>GR (vJ hng hmx hW n) hr hc h hn,λ{ks E w st nt c t a b} k hb hr ht hm hl=>
   uR c ⟨P,yZ P W n,Tt,nt,n⟩ rfl (vJ hng hmx hW n) k hb.symm hr ht hm (Q9 _) hl,λhr hc h hn=>GT (vJ hng hmx hW n) hr hc h hn⟩
section
variable {l:List Oper}
@[simp] theorem ahk:cj P S nt ops [] t st=So [⟨t,st,.un,Ff⟩]:=rfl
@[simp] theorem ahi{d:Option Tmp}:cj P S nt ops (⟨d,op,ty,pos,af,No⟩::l) t st=rT nt t st d (cO op P S t st) (cj P S nt ops l):=rfl
@[simp] theorem ahj{d:Option Tmp}{b:Bool}:cj P S nt ops (⟨d,op,ty,pos,af,So (j,b)⟩::l) t st =
  match tj ops t j b with
  |some Tt=>rT nt t st d (cO op P S t st) (cj P S nt ops l)
  |some Ff=>lL ⟨t,st,.un,Ff⟩ (dE nt t d .un) λt=>cj P S nt ops l t st
  |none=>none:=rfl
@[simp] theorem ahh{d:Option Tmp}{k:Tr AV->St->Option (List Rec)}:rT nt t st d (So (v,st')) k=lL ⟨t,st,v,Tt⟩ (dE nt t d v) λt=>k t st':=rfl
@[simp] theorem ahg{k:Tr AV->Option (List Rec)}:lL r (So t) k=tF r (k t):=rfl
@[simp] theorem agE{l:List Rec}:tF r (So l)=So (r::l):=rfl
theorem QS{q:Rec}(h1:R[j]? = So r)(h2:R[p]? = So q)(h3:ops[j]? = So o){u:AV}(h4:cO o.op P S r.t q.st=So (u,s))(h5:pI 4 r.v u=Tt):recheck P S ops R (j,p)=true:=by grind[recheck,E8,Fk,cC]
theorem cZ{q:Rec}(h1:R[j]? = So r)(h2:R[p]? = So q)(h3:ops[j]? = So o)(h4:cO o.op P S r.t q.st=So (r.v,s)):recheck P S ops R (j,p)=true:=by grind[recheck,E8,Fk,cC,MZ]
theorem LN(k:IntKind)(n:Int):pI 4 (.i k n) (.i k n)=true:=by simp[pI,tv,rh]
theorem EK{cs:List AV}{o:Nat}(h:aN P ty=Tt)(ha:cw P ty=Ff):part P ty cs o=oneOf (cut cs o 1):=by unfold part;simp_all
@[simp] theorem agK{a:Operand}:cO (.box ty a) P S t st=lh st (ah t a).cells:=rfl
@[simp] theorem aeN(l:List AV):lh st (So l)=So (.p st.next 0,st.aj l):=rfl
@[simp] theorem aeK(l:List AV):uA (So l)=So (.ag l):=rfl
theorem uU:∀(l:List AV) (o n:Nat),o+n<=l.length->cut l o n=So ((l.drop o).take n)
 |l,0,n,h=>by grind[eV,Km]
 |[],o+1,n,h=>by grind
 |v::l,o+1,n,h=>by rw[VW,uU l o n (by grind)];simp
theorem acX{c:Bool}{x y:List Nat}:Go.Ev.binOp P ty c .eql (.s x) (.s y)=So (.b (leq x y)):=rfl
@[simp] theorem agY{as1:Array Operand}{ts:Array TypeId}:cO (.call {callee:=.builtin .max,args:=as1,argTypes:=ts}) P S t st=x7 P st ts.toList (args t as1.toList):=rfl
theorem max_zero{ts:List TypeId}(m:Int):x7 P st ts [.i .i64 0,.i .i64 m]=So (.i .i64 (m.toNat:Int),st):=by
 show So (AV.i .i64 (@Bool.rec (λ_=>Int) 0 m (lH 0 m)),st)=_
 rw[nM];by_cases h:(0:Int)<m
 ·rw[decide_eq_true h];grind
 ·rw[decide_eq_false h];grind
end
theorem ey{A B A' B':List Nat}{a b c:St}(h:Kp A B a b)(k:Kp A' B' b c)(hA:∀x,x∈A'->a.next<=x)(hB:∀x,x∈B'->a.next<=x):Kp A B a c :=
 ⟨Z3 h.next k.next,λr h1 h2=>(k.get r (Q7 h1 h.next) λhh=>absurd (hA r hh) (X7.2 h1)).trans (h.get r h1 h2),λg h1 h2=>
  (k.live g (Q7 h1 h.next) λhh=>absurd (hB g hh) (X7.2 h1)).trans (h.live g h1 h2)⟩
theorem Bk:∀(l:List AV) (i:Nat) (v:AV),aW l i [v]=l.set i v
 |[],0,v=>rfl
 |x::l,0,v=>by simp
 |[],i+1,v=>rfl
 |x::l,i+1,v=>by simp[Bk l i v]
mutual
inductive Ex where
 |mk (k:Int) (nm:List Nat) (num:Int) (ps:AV) (b a l:aa)
inductive aa where
 |nil (f:Bool)
 |cons (p:List AV) (x:Ex) (l:aa)
end
def aa.list:aa->List (List AV×Ex)
 |.nil _=>[]
 |.cons p x l=>(p,x)::l.list
def Ex.kind:Ex->Int
 |.mk k _ _ _ _ _ _=>k
def sU(k:Int):Bool:=decide (k=1)||(decide (k=2)||decide (k=3))
def Ex.atom(x:Ex):Bool:=sU x.kind
mutual
def Ex.cells:Ex->List AV
 |.mk k nm num ps b a l=>[.i .i64 k,.s nm,.i .i64 num,ps,b.slice 8,a.slice 7,l.slice 11]
def aa.slice:aa->Nat->AV
 |.nil Tt,_=>.sn
 |.nil Ff,z=>.rs [] 0 z
 |.cons p x l,z=>.rs (p++x.cells++l.flat) (l.len+1) z
def aa.flat:aa->List AV
 |.nil _=>[]
 |.cons p x l=>p++x.cells++l.flat
def aa.len:aa->Nat
 |.nil _=>0
 |.cons _ _ l=>l.len+1
end
mutual
def Ex.size:Ex->Nat
 |.mk _ _ _ _ b a l=>1+b.size+a.size+l.size
def aa.size:aa->Nat
 |.nil _=>0
 |.cons _ x l=>x.size+l.size
end
mutual
def Ex.depth:Ex->Nat
 |.mk _ _ _ _ b a l=>1+max b.depth (max a.depth l.depth)
def aa.depth:aa->Nat
 |.nil _=>0
 |.cons _ x l=>max x.depth l.depth
end
def aa.pre(m:Nat)(l:aa):Prop:=∀p∈l.list,p.1.length=m
mutual
def Ex.Wf:Ex->Prop
 |.mk k _ _ ps b a l=>(-9223372036854775808<=k/\k<=9223372036854775807)/\(b.pre 1/\a.pre 0/\l.pre 4)/\(b.Wf/\a.Wf/\l.Wf)/\bR ps=Tt
def aa.Wf:aa->Prop
 |.nil _=>True
 |.cons p x l=>(x.Wf/\bH p=Tt)/\l.Wf
end
theorem aa.sq:∀{l:aa},l.Wf->∀p∈l.list,p.2.Wf/\bH p.1=Tt
 |.nil _,_,p,hp=>by simp[aa.list]at hp
 |.cons q x l,h,p,hp=>by
  rcases Q2.1 hp with rfl|hp
  ·exact h.1
  ·exact aa.sq h.2 p hp
theorem Ex.ind{C:Ex->Prop}(h:∀k nm num ps b a l,(∀p∈aa.list b,C p.2)->(∀p∈aa.list a,C p.2)->(∀p∈aa.list l,C p.2)->C (.mk k nm num ps b a l)):∀x,C x :=
 Ex.rec (λk nm num ps b a l hb ha hl=>h k nm num ps b a l hb ha hl)
  (λf p hp=>by simp[aa.list]at hp) (λq x l hx hl p hp=>by
   rcases Q2.1 hp with rfl|hp
   ·exact hx
   ·exact hl p hp)
theorem Ex.bp:∀x:Ex,x.cells.length=7
 |.mk ..=>by simp[Ex.cells]
theorem aa.As:∀l:aa,l.flat=(l.list.map λp=>p.1++p.2.cells).flatten
 |.nil _=>rfl
 |.cons p x l=>by simp[aa.flat,aa.list,aa.As l]
theorem aa.aF:∀l:aa,l.len=l.list.length
 |.nil _=>rfl
 |.cons p x l=>by simp[aa.len,aa.list,aa.aF l]
theorem aa.size_eq:∀l:aa,l.size=(l.list.map λp=>p.2.size).sum
 |.nil _=>rfl
 |.cons p x l=>by simp[aa.size,aa.list,aa.size_eq l]
theorem Ex.size_pos:∀x:Ex,1<=x.size
 |.mk ..=>by simp[Ex.size];omega
theorem aa.cq:∀l:aa,l.len<=l.size
 |.nil _=>Q1 _
 |.cons p x l=>by have:=x.size_pos;have:=aa.cq l;simp[aa.len,aa.size];omega
theorem aa.dX:∀{l:aa}{p:List AV×Ex},p∈l.list->p.2.size<=l.size
 |.nil _,p,h=>by simp[aa.list]at h
 |.cons q x l,p,h=>by
  simp[aa.size];rcases Q2.1 h with rfl|h
  ·grind
  ·have:=aa.dX h;omega
theorem aa.tc:∀{l:aa}{p:List AV×Ex},p∈l.list->p.2.depth<=l.depth
 |.nil _,p,h=>by simp[aa.list]at h
 |.cons q x l,p,h=>by
  simp[aa.depth];rcases Q2.1 h with rfl|h
  ·grind
  ·have:=aa.tc h;omega
theorem aa.bU(l:aa)(z:Nat):lenOf (l.slice z)=So l.len:=by
 cases l with
 |nil f=>cases f<;>simp[aa.slice,aa.len]<;>rfl
 |cons p x l=>rfl
theorem aa.bV(l:aa)(z:Nat):kO (l.slice z)=false:=by
 cases l with
 |nil f=>cases f<;>simp[aa.slice]<;>rfl
 |cons p x l=>rfl
theorem aa.dR{l:aa}(h:i<l.len):l.slice z=.rs l.flat l.len z:=by
 cases l with
 |nil f=>simp[aa.len]at h
 |cons p x l=>simp[aa.slice,aa.flat,aa.len]
theorem NA{z:Nat}:∀(L:List (List AV×Ex)) (i:Nat) (h:i<L.length),(∀p∈L,p.1.length+7=z)->
  ((L.map λp=>p.1++p.2.cells).flatten).drop (i*z)=L[i].1++(L[i].2.cells++((L.drop (i+1)).map λp=>p.1++p.2.cells).flatten)
 |p::L,0,_,_=>by simp
 |p::L,i+1,h,hz=>by
  have:=NA L i (by grind) λq hq=>hz q (J6 _ hq)
  have hp:=hz p (Q8 ..);have hl:(p.1++p.2.cells).length=z:=by rw[List.length_append,p.2.bp];omega
  have e:z+i*z-(p.1++p.2.cells).length=i*z:=by omega
  rw[show(i+1)*z=z+i*z by grind,List.map_cons,X4,List.drop_append,e,X0 (by omega),List.nil_append];grind
def dM(L:List (List AV×Ex))(i:Nat):Nat:=((L.take i).map λp=>p.2.size).sum
theorem mv(L:List (List AV×Ex)):dM L 0=0:=by simp[dM]
theorem gX{L:List (List AV×Ex)}(h:i<L.length):dM L (i+1)=dM L i+L[i].2.size:=by grind[List.take_append_getElem,dM]
theorem qh(L:List (List AV×Ex)):∀i,i<=L.length->i<=dM L i
 |0,_=>Q9 _
 |i+1,h=>by have h1:=qh L i (by omega);have h2:=(L[i]'(by omega)).2.size_pos;grind[gX]
theorem mq(l:aa):dM l.list l.list.length=l.size:=by simp[dM,aa.size_eq]
theorem mV(l r:List AV):takeN l.length (l++r)=So l:=by grind[Km]
theorem pc(x:Ex)(r:List AV):takeN 7 (x.cells++r)=So x.cells:=by
 have:=mV x.cells r
 rwa [x.bp]at this
theorem eK{l:aa}{m:Nat}(hp:l.pre m)(hz:m+7=z)(hi:i<l.list.length):∃r,l.flat.drop (i*z)=l.list[i].1++(l.list[i].2.cells++r)/\l.list[i].1.length=m:=by rw[aa.As];refine⟨_,NA l.list i hi λp h=>by rw[hp p h];grind,hp _ (List.getElem_mem hi)⟩
theorem aa.Ag:∀{l:aa}{D:Nat},(∀j (h:j<l.list.length),l.list[j].2.depth<=D)->l.depth<=D
 |.nil _,D,_=>Q9 _
 |.cons p x l,D,h=>by
  have h0:x.depth<=D:=h 0 (by simp[aa.list]);have h1:l.depth<=D:=aa.Ag λj hj=>h (j+1) (by simpa[aa.list]using hj)
  simp[aa.depth];omega
theorem aa.RP(l:aa)(z:Nat):bR (l.slice z)=true:=by
 cases l with
 |nil f=>cases f<;>simp[aa.slice]
 |cons p x l=>simp[aa.slice]
theorem Ex.eU:∀{x:Ex},x.Wf->bH x.cells=Tt
 |.mk k nm num ps b a l,h=>by simp_all[Ex.Wf,Ex.cells,aa.RP]
theorem jk{l m:List AV}(h1:bH l=Tt)(h2:bH m=Tt):bH (l++m)=true:=by
 induction l with
 |nil=>grind
 |cons v l ih=>simp_all
theorem nU{α:Type}:∀{l vs:List α},vs.length=l.length->over l vs=vs
 |[],[],_=>rfl
 |x::l,v::vs,h=>by rw[aaL,nU (by simpa using h)]
theorem bJ{z cells:List AV}(hl:cells.length=z.length)(hs:bH cells=Tt):∃s',wt (s.aj z) s.next 0 cells=So s'/\s'.ce s.next=So (cells,s.next,[s.next])/\Kp [] [] s s'/\s.next<s'.next:=by have hw:=c9 (bq (st:=s) z) 0 cells (by omega) hs;rw[pY,nU hl]at hw;exact⟨_,hw,dA _ _ _,ey (.aj [] [] z) (.aG (A:=[s.next]) (B:=[s.next]) (by simp) (by simp)) (by simp) (by simp),V4 _⟩
theorem aB:cO (.alloc e) P S t st=lh st (bt P e):=rfl
theorem aC(h:aN P ty=Tt)(hs:aq P ty=n):∀(st:St) (r o:Nat) (l:List AV),l.length=n->storeAt P ty st (.p r o) (.ag l)=wt st r o l:=by
 intro st r o l hl;show vO P ty st r o (AV.ag l).cells=_
 simp[vO,h,hs,hl]
