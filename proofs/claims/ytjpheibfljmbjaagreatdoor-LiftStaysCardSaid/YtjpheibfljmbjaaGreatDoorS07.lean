/- A part of the proof. -/
import Derived.Test.YtjpheibfljmbjaaGreatDoorS06
import Derived.Carry
open Go.Steps renaming one->Q0
open Go.DataW renaming trod->Q1
open List renaming mem_cons->Q2, append_nil->Q6, range'->Q9, range_eq_range'->Z4, mem_cons_self->Z7, mem_cons_of_mem->Z8, range->Z9, drop_eq_nil_of_le->V1, flatten_cons->V2
open Nat renaming le_refl->Q3, beq->Q4, zero_le->J1, lt_of_lt_of_le->J3, le_trans->J6, eq_of_beq_eq_true->V0, add_zero->V3, zero_mul->V4, not_le->V6
open Go.DataW.trod renaming eq_def->Q7
open Go.Frame renaming atR->Q8, enter->J4
open Go.Instr renaming endLoop->J5, takeDeferred->Z6
open Array renaming replicate->J8
open Go.Sem renaming run_bind->J9
open Go.Deferred renaming ofValue->Z3
open Go.Region renaming wanted->Z5
open List.Pairwise renaming cons->V7, nil->V8
noncomputable section
namespace Go.Ev
variable {A X' al rest : List Nat}{C tmps : Array Value}{E E' F : Env}{G : FuncId->Bool}{H : Array Obj}{P : Program}{R : List Rec}{S S0 : Self}{a : Act}{af : Array Edge}{as l p xs ys : List AV}{b : Frame}{base g i j m n n0 nt o r z : Nat}{c : Code}{cs ks : List Frame}{d : Oper}{e ty : TypeId}{f : Operand}{fn : Func}{h : List Oper}{k : List Item}{m1 : Machine}{op : Op}{ops : Array Oper}{pos : String}{ps : Array Tmp}{q : Rec}{s st st' st3 st4 : St}{t t4 : Tr AV}{u : Value}{us : List Value}{v : AV}{w w' w0 : World}{x : Ctx}
theorem Tx{l:Nat}{v:Value}:(b.atR a (.inRangeFunc l::k)).finish v=b.atR a (.endRangeFunc l::k):=rfl
theorem VO{x y:Code}{g:FuncId}{F:Array Value}(hb:b.roundOf=none)(hf:a.eval f=.func (.func g) F C)
  (hc:(callFunc g (F.push (.func (.yield (w.heap.size+1)) #[] #[])++C)).run P { w with heap:=(w.heap.push (.deferred (some []))).push (.loop { state:=.ready,pending:=none,fn:=b.fn,tmps:=a.tmps,params:=ps,assign:=x,body:=y,defers:=w.heap.size }) }=.ok (.enter g (F.push (.func (.yield (w.heap.size+1)) #[] #[])++C)) { w with heap:=(w.heap.push (.deferred (some []))).push (.loop { state:=.ready,pending:=none,fn:=b.fn,tmps:=a.tmps,params:=ps,assign:=x,body:=y,defers:=w.heap.size }) }):
  step P (lone (b.atR a (.code (.rangeFunc f ps x y)::k)) cs w) =
   .next (lone (J4 P g (F.push (.func (.yield (w.heap.size+1)) #[] #[])++C) .normal) (b.atR { a with defers:={ target:=.collected w.heap.size,args:=#[] }::a.defers } (.inRangeFunc (w.heap.size+1)::k)::cs)
    { w with heap:=(w.heap.push (.deferred (some []))).push (.loop { state:=.ready,pending:=none,fn:=b.fn,tmps:=a.tmps,params:=ps,assign:=x,body:=y,defers:=w.heap.size }) }):=by
 refine step_lone_go ?_;have he:=fun d=>Frame.eval_atR b { a with defers:=d } (.inRangeFunc (w.heap.size+1)::k)
 have hf':∀ d,Frame.eval { fn:=b.fn,tmps:=a.tmps,todo:=.inRangeFunc (w.heap.size+1)::k,defers:=d,mode:=.run,kind:=b.kind,roundOf:=none } f=.func (.func g) F C:=by intro d;cases f<;>exact hf
 have hev:∀ (fr:Frame) (v:Value),fr.eval (.const v)=v:=fun _ _=>rfl
 have hc':(callFunc g (F.push (.func (.yield (w.heap.size+1)) #[] #[])++C)).run P ((w.alloc (.deferred (some []))).alloc (.loop { state:=.ready,pending:=none,fn:=b.fn,tmps:=a.tmps,params:=ps,assign:=x,body:=y,defers:=w.heap.size }))=.ok (.enter g (F.push (.func (.yield (w.heap.size+1)) #[] #[])++C)) ((w.alloc (.deferred (some []))).alloc (.loop { state:=.ready,pending:=none,fn:=b.fn,tmps:=a.tmps,params:=ps,assign:=x,body:=y,defers:=w.heap.size })):=hc;simp[stepG,stepG.exec,stepG.apply,Q8,hb,Sem.runT_eq,Instr.enterLoop,J9,resolve,hf',hev,Z3,invoke,hc'];rfl
theorem Vm{l:Nat}(h:(J5 l).run P w=.ok none w'):
  step P (lone (b.atR a (.endRangeFunc l::k)) cs w)=.next (lone (b.atR a k) cs w'):=
 step_lone_go (by simp_all[stepG,stepG.exec,Q8])
theorem Vs(hxP:x.P=P)(hS:cq P x.S){ca cb:Code}(hb:b.roundOf=none)(hr:Rel E w.heap st)(ht:cJ E x.nt t a.tmps)
  (hm:Marks n0 b.defers E w.heap st a.defers) (hn0:n0<=w.heap.size) (hl:(rh x ps ca cb t st (ai t f)).lim E.top):
  dF P ks n0 E x.nt b w st (lone (b.atR a (.code (.rangeFunc f ps ca cb)::k)) ks w) k (rh x ps ca cb t st (ai t f)):=by
 subst hxP;unfold rh at hl|-;split
 case h_2=>trivial
 rename_i g first captured hf
 have hcf:=vw ht f;rw[hf]at hcf;rw[hf]at hl;simp only at hl;cases hcf':qA x.P x.S g (first++([.f (.yield st.next) [] []]++captured)) (st.new (.lp t x.nt ps.toList ca cb)) with
 |none=>trivial
 |some p =>
  obtain⟨v,st'⟩:=p;rw[hcf']at hl;simp only at hl|-;unfold AD at hl|-;split
  case h_2=>trivial
  rename_i t' nt' ps' xa xb hg;rw[hg]at hl;have hn:st'.next<=E.top:=hl;have hup:=PS hS.up _ _ hcf';have hup':st.next+1<=st'.next:=hup;generalize hev:a.eval f=fv at hcf;cases hcf with
  |f _ _ _ vx vy _ hvx hvy =>
   let mk:Deferred:={ target:=.collected w.heap.size,args:=#[] }
   let lpo:Obj:=.loop { state:=.ready,pending:=none,fn:=b.fn,tmps:=a.tmps,params:=ps,assign:=ca,body:=cb,defers:=w.heap.size }
   let w1:World:={ w with heap:=w.heap.push (.deferred (some [])) }
   let w2:World:={ w with heap:=(w.heap.push (.deferred (some []))).push lpo }
   have s1:bt E E w w1 st st:=.of (Step.other hr _);have hsz:(w.heap.push (.deferred (some []))).size=w.heap.size+1:=by simp
   let B:fy:=⟨(w.heap.push (.deferred (some []))).size,0,0⟩
   have s2:bt E (E.bind st.next B) w1 w2 st (st.new (.lp t x.nt ps.toList ca cb)):=by
    refine bt.of <| Step.newRow s1.rel (by omega) lpo _ (fun _ _ e=>by grind) (fun F hF=>⟨b.fn,a.tmps,w.heap.size,?_,ht.mono hF⟩)
    simp[lpo]
   have s12:=s1.trans s2;have hBphi:(E.bind st.next B).phi st.next=some B:=Env.fj;have hy:Conc (E.bind st.next B) (.f (.yield st.next) [] []) (.func (.yield (w.heap.size+1)) #[] #[]):=by have:=Conc.yi st.next B hBphi;grind
   obtain⟨E3,w3,cv,s3,hcv,hrun,hcall⟩:=JK hS s2.rel ((hvx.mono s12.le).append (aP.append (.cons _ _ _ _ hy .nil) (hvy.mono s12.le))) hcf' (by rw[s12.top];grind);have sAll:=s12.trans s3;have hB3:E3.phi st.next=some B:=s3.le.phi _ _ hBphi;have halive:st'.alive st.next=some (.lp t' nt' ps' xa xb):=by unfold St.alive;grind
   obtain⟨B',hB',f',tmps',d',hH',hT'⟩:=s3.rel.rows _ _ halive;rw[hB3]at hB';cases hB';have hun:=P9 s3.rel halive (fun _ _ e=>by grind) hB3;have hBge:w.heap.size<=B.b:=by grind
   let lpx:Obj:=.loop { state:=.exhausted,pending:=none,fn:=f',tmps:=tmps',params:=ps'.toArray,assign:=xa,body:=xb,defers:=d' }
   let w4:World:={ w3 with heap:=w3.heap.setIfInBounds B.b lpx }
   have sD:Step E E3 w.heap w3.heap st (st'.drop st.next):=sAll.toStep.trans (Step.drop s3.rel _);have s4:bt E E3 w w4 st (st'.drop st.next):=⟨sD.zA (.inr hBge) hun lpx (fI.yj (by grind)),sAll.os,sAll.out⟩;have hend:(J5 (w.heap.size+1)).run x.P w3=.ok none w4:=by
    have hH'':w3.heap[w.heap.size+1]? = some (.loop { state:=.ready,pending:=none,fn:=f',tmps:=tmps',params:=ps'.toArray,assign:=xa,body:=xb,defers:=d' }):=by grind
    have e:B.b=w.heap.size+1:=hsz;simp[J5,J9,DS hH'',Result.andThen_ok,GN hH'',w4,lpx,e]
   have hmkun:¬ mw E st w.heap.size:=by rintro⟨r,row,C,ha,hC,hb'⟩;obtain⟨C',hC',hR⟩:=hr.rows _ _ ha;rw[hC]at hC';cases hC';have:=hR.lt;omega
   obtain⟨ms,hms,hm⟩:=hm;have hmk2:nO n0 (E.bind st.next B) w2.heap (st.new (.lp t x.nt ps.toList ca cb)) (mk::ms):=by
    refine⟨V7 ?_ hm.1,?_⟩
    ·intro e he hme;obtain⟨r,_,h1,h2,_⟩:=hm.2 e he;grind
    ·intro e he;rcases Q2.1 he with rfl|he
     ·refine⟨w.heap.size,hn0,rfl,?_,?_⟩
      ·grind
      ·refine s2.un ?_ (hr.Gj (Q3 _) hmkun);grind
     ·exact(hm.step s12.toStep).2 e he
   have hmk4:Marks n0 b.defers E3 w4.heap (st'.drop st.next) (mk::a.defers):=by have h3:=(hmk2.step s3.toStep).step (Step.drop s3.rel st.next);refine⟨mk::ms,by grind,h3.1,fun e he=>?_⟩;obtain⟨r,h0,h1,h2,h4⟩:=h3.2 e he;grind
   refine⟨E3,{ a with defers:=mk::a.defers },w4,s4,ht.mono sAll.le,hmk4,?_⟩;have hargs:(vx++([Value.func (Fn.yield (w.heap.size+1)) #[] #[]]++vy)).toArray=vx.toArray.push (.func (.yield (w.heap.size+1)) #[] #[])++vy.toArray:=by simp
   rw[hargs]at hrun hcall;refine(Q0 (VO hb hev ?_)).trans ?_
   ·grind
   ·obtain⟨fr,h1,h2,h3⟩:=hcall;refine h1.trans ?_;refine(Q0 (step_leave_returned h3)).trans ?_;rw[Tx];exact Q0 (Vm hend)
theorem acj(hS:cq x.P x.S){id:Nat}(hr:Rel E w.heap st)(ht:cJ E x.nt t a.tmps)(hm:Marks n0 b.defers E w.heap st a.defers)
  (hl:(bR x.P x.S x.nt ops ops.toList t st).lim E.top):dF x.P ks n0 E x.nt b w st (lone (b.atR a (.code (.region id ops false)::k)) ks w) k (bR x.P x.S x.nt ops ops.toList t st):=by
 have h:=FW (ks:=ks) (k:=k) hS ops.toList 0 rfl hr ht hm hl;refine dF.ir hr ?_ h;grind[Z4,stepR_region]
theorem vo:∀ (c:Code) (x:Ctx),x.P=P->cq P x.S->∀ {E:Env}{w:World}{st:St}{t:Tr AV}{a:Act}(k:List Item),x.inR=b.roundOf.isSome->Rel E w.heap st->cJ E x.nt t a.tmps->Marks n0 b.defers E w.heap st a.defers->
  n0<=w.heap.size->(ao c x t st).lim E.top->dF P ks n0 E x.nt b w st (lone (b.atR a (.code c::k)) ks w) k (ao c x t st):=by
 intro c;induction c with
 |skip =>intro x hxP hS E w st t a k hb hr ht hm hn0 hl;exact⟨E,a,w,.refl hr,ht,hm,Q0 stepR_skip⟩
 |region id ops draw =>
  intro x hxP hS E w st t a k hb hr ht hm hn0 hl;cases draw with
  |true=>subst hxP;exact Yc hS hr ht hm hl
  |false =>subst hxP;exact acj hS hr ht hm hl
 |seq c1 c2 ih1 ih2 =>
  intro x hxP hS E w st t a k hb hr ht hm hn0 hl;have e:ao (.seq c1 c2) x t st=bT (ao c1 x t st) (ao c2 x):=rfl;rw[e]at hl|-;refine dF.ir hr stepR_seq ?_;have h1:=ih1 x hxP hS (.code c2::k) hb hr ht hm hn0;cases hc1:ao c1 x t st with
  |no=>trivial
  |nx t1 st1 =>
   rw[hc1]at h1 hl;have hl:(ao c2 x t1 st1).lim E.top:=hl;rcases wz (jd c2 x hS.up t1 st1) hl with hno|hn
   ·show dF _ _ _ _ _ _ _ _ _ _ (ao c2 x t1 st1)
    rw[hno];trivial
   ·obtain⟨E1,a1,w1,s1,h2,h3,h4⟩:=h1 hn;have h5:=ih2 x hxP hS k hb s1.rel h2 h3 (J6 hn0 s1.fr.size) (by rw[s1.top];grind);exact dF.pre s1 h4 h5
  |ex i t1 st1 =>rw[hc1]at h1 hl;exact h1 hl
  |rt t1 st1 =>rw[hc1]at h1 hl;exact h1 hl
 |cond c c1 c2 ih1 ih2 =>
  intro x hxP hS E w st t a k hb hr ht hm hn0 hl;have e:ao (.cond c c1 c2) x t st=su (ao c1 x) (ao c2 x) t st (ai t c):=rfl;rw[e]at hl|-;unfold su at hl|-;have hcv:=vw ht c;cases hv:(ai t c).gV with
  |none=>trivial
  |some v =>
   have hv':=AV.zi hv;rw[hv']at hcv;generalize hev:a.eval c=cv at hcv;cases hcv;cases v with
   |true=>simp_all[dF.ir,stepR_cond]
   |false=>simp_all[dF.ir,stepR_cond]
 |block id c ih =>
  intro x hxP hS E w st t a k hb hr ht hm hn0 hl;have e:ao (.block id c) x t st=qk id (ao c x t st):=rfl;rw[e]at hl|-;refine dF.ir hr stepR_block ?_;have h1:=ih x hxP hS (.inBlock id::k) hb hr ht hm hn0;cases hc1:ao c x t st with
  |no=>trivial
  |nx t1 st1 =>rw[hc1]at h1 hl;obtain⟨E1,a1,w1,s1,h2,h3,h4⟩:=h1 hl;exact⟨E1,a1,w1,s1,h2,h3,h4.trans (Q0 stepR_inBlock)⟩
  |rt t1 st1 =>rw[hc1]at h1 hl;exact h1 hl
  |ex i t1 st1 =>
   rw[hc1]at h1 hl;have e:qk id (.ex i t1 st1)=@Bool.rec (fun _=>Out) (.ex i t1 st1) (.nx t1 st1) (Q4 i id):=rfl;rw[e]at hl|-;cases hi:Q4 i id with
   |true =>
    rw[hi]at hl;have:i=id:=by simp_all
    subst this;obtain⟨E1,a1,w1,s1,h2,h3,h4⟩:=h1 hl;exact⟨E1,a1,w1,s1,h2,h3,h4 k (by simp[exitTo])⟩
   |false =>
    rw[hi]at hl;have hne:id≠i:=by rintro rfl;simp_all
    obtain⟨E1,a1,w1,s1,h2,h3,h4⟩:=h1 hl;exact⟨E1,a1,w1,s1,h2,h3,fun k' hk=>h4 k' (by simpa[exitTo,hne]using hk)⟩
 |loop c ih =>
  intro x hxP hS E w st t a k hb hr ht hm hn0 hl;refine dF.ir hr stepR_loop ?_
  suffices H:∀ n,∀ {E:Env} {w:World} {st:St} {t:Tr AV} {a:Act},Rel E w.heap st->cJ E x.nt t a.tmps->Marks n0 b.defers E w.heap st a.defers->n0<=w.heap.size->(bf (ao c x) n t st).lim E.top->
    dF P ks n0 E x.nt b w st (lone (b.atR a (.code c::.inLoop c::k)) ks w) k (bf (ao c x) n t st) from H x.n hr ht hm hn0 hl
  intro n;induction n with
  |zero=>intro E w st t a hr ht hm hn0 hl;trivial
  |succ n ihn =>
   intro E w st t a hr ht hm hn0 hl;have e:bf (ao c x) (n+1) t st=bT (ao c x t st) (bf (ao c x) n):=rfl;rw[e]at hl|-;have h1:=ih x hxP hS (.inLoop c::k) hb hr ht hm hn0;cases hc1:ao c x t st with
   |no=>trivial
   |nx t1 st1 =>
    rw[hc1]at h1 hl;rcases wz (HD (jd c x hS.up) n t1 st1) hl with hno|hn
    ·show dF _ _ _ _ _ _ _ _ _ _ (bf (ao c x) n t1 st1)
     rw[hno];trivial
    ·obtain⟨E1,a1,w1,s1,h2,h3,h4⟩:=h1 hn;have h5:=ihn s1.rel h2 h3 (J6 hn0 s1.fr.size) (by rw[s1.top];exact hl);exact dF.pre s1 (h4.trans (Q0 stepR_inLoop)) h5
   |ex i t1 st1 =>rw[hc1]at h1 hl;exact h1 hl
   |rt t1 st1 =>rw[hc1]at h1 hl;exact h1 hl
 |rangeFunc f ps c1 c2 ih1 ih2 =>
  intro x hxP hS E w st t a k hb hr ht hm hn0 hl;have e:ao (.rangeFunc f ps c1 c2) x t st=_root_.cond x.inR .no (rh x ps c1 c2 t st (ai t f)):=rfl;rw[e]at hl|-;cases hi:x.inR with
  |true=>trivial
  |false =>
   rw[hi]at hl hb;have hb':b.roundOf=none:=by
    cases h:b.roundOf with
    |none=>rfl
    |some l=>rw[h]at hb;cases hb
   exact Vs hxP hS hb' hr ht hm hn0 hl
 |exit id =>intro x hxP hS E w st t a k hb hr ht hm hn0 hl;exact⟨E,a,w,.refl hr,ht,hm,fun k' hk=>Q0 (stepR_exit hk)⟩
 |scope c ih=>intros;trivial
 |label l =>intro x hxP hS E w st t a k hb hr ht hm hn0 hl;exact⟨E,a,w,.refl hr,ht,hm,Q0 stepR_label⟩
 |goto l=>intros;trivial
 |ret =>intro x hxP hS E w st t a k hb hr ht hm hn0 hl;exact fun hb=>⟨E,a,w,.code .ret::k,.refl hr,ht,hm,Q0 (stepR_ret hb)⟩
 |refuse why=>intros;trivial
theorem OA:∀ {l h:List Oper}{d:Oper}{f:Operand},CM l=some (h,d,f)->l=h++[d]/\uQ d=some f
 |[],h,d,f,e=>by cases e
 |[o],h,d,f,e=>by have e:(match uQ o with|some f=>some ([],o,f)|none=>none)=some (h,d,f):=e;grind
 |o::o'::l,h,d,f,e=>by
  have e:(match CM (o'::l) with|some (h,d,f)=>some (o::h,d,f)|none=>none)=some (h,d,f):=e;split at e
  ·rename_i h' d' f' h1;obtain⟨k1,k2⟩:=OA h1;grind
  grind
theorem Zl(h:uQ d=some f):d.guard=none/\∃ c,d.op=.defer c/\c.callee=.value f/\c.args = #[]:=by grind[uQ,Pw]
theorem S3(e:yO c=some (ops,h,d,f)):∃ id,c=.region id ops false/\ops.toList=h++[d]/\uQ d=some f:=by
 unfold yO at e;split at e
 case h_2=>grind
 rename_i id ops';split at e
 case h_2=>grind
 rename_i h' d' f' h1;cases e;exact⟨id,rfl,OA h1⟩
theorem Rz(hS:cq P S):∀ (l:List Oper) (i:Nat),(∀ j,j<l.length->ops[i+j]? = l[j]?)->∀ {E:Env}{w:World}{st:St}{t:Tr AV}{a:Act},Rel E w.heap st->cJ E nt t a.tmps->
  (bR P S nt ops l t st).lim E.top->∀ {t':Tr AV} {st':St},bR P S nt ops l t st=.nx t' st'->
  ∃ E' a' w',bt E E' w w' st st'/\cJ E' nt t' a'.tmps/\a'.defers=a.defers/\Steps P (lone (b.atR a (.inRegion ops (Q9 i l.length++rest)::k)) ks w) (lone (b.atR a' (.inRegion ops rest::k)) ks w'):=by
 intro l;induction l with
 |nil =>intro i hi E w st t a hr ht hl t' st' he;cases he;exact⟨E,a,w,.refl hr,ht,rfl,.refl _ _⟩
 |cons o l ih =>
  intro i hi E w st t a hr ht hl t' st' he;have hoi:ops[i]? = some o:=by simpa using hi 0 (by simp)
  have hi':∀ j,j<l.length->ops[i+1+j]? = l[j]?:=by intro j hj;have:=hi (j+1) (by grind);grind
  have e:bR P S nt ops (o::l) t st=nJ P S nt o t st (bR P S nt ops l) (gj ops t o):=rfl;rw[e]at hl he;have hrg:Q9 i (o::l).length++rest=i::(Q9 (i+1) l.length++rest):=by simp[List.range'_succ]
  cases hg:gj ops t o with
  |none=>rw[hg]at he;cases he
  |some g =>
   rw[hg]at hl he;have hw:=IE ht hg;cases g with
   |false =>
    have e:nJ P S nt o t st (bR P S nt ops l) (some false)=kJ (eN nt t o.dst .un) fun t=>bR P S nt ops l t st:=rfl
    rw[e]at hl he;cases hp:eN nt t o.dst .un with
    |none=>rw[hp]at he;cases he
    |some t1 =>rw[hp]at hl he;simp[kJ,Tr.seen_eq]at hl he;have ht1:cJ E nt t1 (a.put o.dst undef).tmps:=vH ht hp .un;obtain⟨E',a',w',h1,h2,h3,h4⟩:=ih (i+1) hi' hr ht1 hl he;refine⟨E',a',w',h1,h2,by rw[h3,put_defers],(Q0 ?_).trans h4⟩;grind[stepR_op_skip]
   |true =>
    have e:nJ P S nt o t st (bR P S nt ops l) (some true)=qB nt t o.dst (da P S t st o) (bR P S nt ops l):=rfl;rw[e]at hl he;cases ho:da P S t st o with
    |none=>rw[ho]at he;cases he
    |some p =>
     obtain⟨v,st1⟩:=p;rw[ho]at hl he;have e:qB nt t o.dst (some (v,st1)) (bR P S nt ops l)=kJ (eN nt t o.dst v) fun t=>bR P S nt ops l t st1:=rfl
     rw[e]at hl he;cases hp:eN nt t o.dst v with
     |none=>rw[hp]at he;cases he
     |some t1 =>
      rw[hp]at hl he;simp[kJ,Tr.seen_eq]at hl he;rcases wz (vP hS.up l t1 st1) hl with hno|hn
      ·grind
      ·obtain⟨E',w',cv,hs,hc,hst⟩:=Ea hoi hw (EH ho) (Gi hS hr (vw ht) ho hn);have ht1:cJ E' nt t1 (a.put o.dst cv).tmps:=vH (ht.mono hs.le) hp hc;obtain⟨E2,a2,w2,h1,h2,h3,h4⟩:=ih (i+1) hi' hs.rel ht1 (by rw[hs.top];grind) he;exact⟨E2,a2,w2,hs.trans h1,h2,by rw[h3,put_defers],hst.trans h4⟩
theorem YH{g:FuncId}{F:Array Value}(hb:b.roundOf=none)(ho:ops[i]? = some d)(hop:uQ d=some f)
  (hf:a.eval f=.func (.func g) F C):
  step P (lone (b.atR a (.inRegion ops (i::rest)::k)) cs w)=.next (lone (b.atR { tmps:=(a.put d.dst undef).tmps,defers:={ target:=.fn (.func g) C,args:=F }::a.defers } (.inRegion ops rest::k)) cs w):=by
 obtain⟨hg,c,h1,h2,h3⟩:=Zl hop;have hw:Z5 d (yielded ops a.tmps)=true:=by unfold Z5;grind
 refine step_lone_go ?_;rw[stepGR_op ho hw,hb,Oper.semAt_none];have hres:(execOp a.eval d).run P w=.ok (.defer { target:=.fn (.func g) C,args:=F }) w:=by simp_all[execOp,resolve,Z3]
 have hfin:=Frame.finish_atR b { a with defers:={ target:=.fn (.func g) C,args:=F }::a.defers } ops i rest k undef;have hput:({ a with defers:={ target:=.fn (.func g) C,args:=F }::a.defers }:Act).put d.dst undef={ tmps:=(a.put d.dst undef).tmps,defers:={ target:=.fn (.func g) C,args:=F }::a.defers }:=by cases hd:d.dst<;>simp[Act.put]
 simp_all[stepG.apply,Q8]
theorem RD(h:w.heap[r]? = some (.deferred (some []))):(Z6 r).run P w=.ok [] { w with heap:=w.heap.setIfInBounds r (.deferred none) }:=by simp[Z6,getObj,setObj,Sem.run,h]
theorem Ub{fr:Frame}{ds:List Deferred}(hm:fr.mode=.returning)(hd:fr.defers={ target:=.collected r,args:=#[] }::ds)(h:w.heap[r]? = some (.deferred (some []))):
  step P (lone fr cs w)=.next (lone { fr with defers:=ds } cs { w with heap:=w.heap.setIfInBounds r (.deferred none) }):=
 step_lone_go (by simp_all[stepG,unwind,RD])
theorem ER{E':Env}{st':St}{w0:World}(hr:Rel E w0.heap st){D:List Deferred}:∀ (ms:List Deferred){fr:Frame}{w:World},fr.mode=.returning->fr.defers=ms++D->nO w0.heap.size E' w.heap st' ms->bt E E' w0 w st st'->
  ∃ w2:World,bt E E' w0 w2 st st'/\Steps P (lone fr ks w) (lone { fr with defers:=D } ks w2)
 |[],fr,w,hm,hd,hk,hs=>⟨w,hs,by
   have:({ fr with defers:=D }:Frame)=fr:=by have hd:fr.defers=D:=hd;rw[<-hd]
   rw[this];exact .refl _ _⟩
 |d::ds,fr,w,hm,hd,hk,hs=>by
  obtain⟨r,h0,rfl,h1,h2⟩:=hk.2 d (Z7 ..);have hs2:bt E E' w0 { w with heap:=w.heap.setIfInBounds r (.deferred none) } st st':=⟨hs.toStep.zA (.inr h0) h2 (.deferred none) (fI.yj (by grind)),hs.os,hs.out⟩;have hk2:nO w0.heap.size E' (w.heap.setIfInBounds r (.deferred none)) st' ds:=by have hp:=hk.1;rw[List.pairwise_cons]at hp;refine⟨hp.2,fun e he=>?_⟩;obtain⟨q,k0,k1,k2,k3⟩:=hk.2 e (Z8 _ he);grind
  obtain⟨w2,k1,k2⟩:=ER hr ds (fr:={ fr with defers:=ds++D }) hm rfl hk2 hs2;exact⟨w2,k1,(Q0 (Ub hm hd h1)).trans k2⟩
def Ends(P:Program)(ks:List Frame)(E:Env)(nt:Nat)(b:Frame)(w:World)(st:St)(m:Machine):Out->Prop
 |.nx t st'=>∃ E' a' w' todo,bt E E' w w' st st'/\cJ E' nt t a'.tmps/\Steps P m (lone { b.atR a' todo with mode:=.returning,defers:=[] } ks w')
 |.rt t st'=>∃ E' a' w' todo,bt E E' w w' st st'/\cJ E' nt t a'.tmps/\Steps P m (lone { b.atR a' todo with mode:=.returning,defers:=[] } ks w')
 |_=>True
theorem Ends.pre{m:Machine}{r:Out}(hm:Steps P m m1)(h:Ends P ks E nt b w st m1 r):Ends P ks E nt b w st m r:=by
 cases r with
 |nx t st'=>obtain⟨E',a',w',todo,h1,h2,h3⟩:=h;exact⟨E',a',w',todo,h1,h2,hm.trans h3⟩
 |rt t st'=>obtain⟨E',a',w',todo,h1,h2,h3⟩:=h;exact⟨E',a',w',todo,h1,h2,hm.trans h3⟩
 |_=>trivial
theorem Ends.ir{m:Machine}{r:Out}(hm:step P m=.next m1)(h:Ends P ks E nt b w st m1 r):Ends P ks E nt b w st m r :=
 h.pre (Q0 hm)
theorem dF.II{m:Machine}{r:Out}(hb:b.roundOf=none)(h:dF P ks n0 E nt b w st m [] r)(hr:r=.nx t st'\/r=.rt t st'):
  ∃ E' a' w' todo,bt E E' w w' st st'/\cJ E' nt t a'.tmps/\Marks n0 b.defers E' w'.heap st' a'.defers/\Steps P m (lone { b.atR a' todo with mode:=.returning } ks w'):=by
 rcases hr with rfl|rfl
 ·obtain⟨E1,a1,w1,h1,h2,h3,h4⟩:=h;exact⟨E1,a1,w1,[],h1,h2,h3,h4.trans (Q0 (stepR_end hb))⟩
 ·exact h hb
section
variable {E0 : Env}{s0 : St}
theorem FF{m:Machine}{a':Act}{todo:List Item}(hr0:Rel E0 w0.heap s0)(hs:bt E0 E' w0 w' s0 st')(hm:nO w0.heap.size E' w'.heap st' a'.defers)
  (h:Steps P m (lone { b.atR a' todo with mode:=.returning } ks w')):∃ w2,bt E0 E' w0 w2 s0 st'/\Steps P m (lone { b.atR a' todo with mode:=.returning,defers:=[] } ks w2):=by
 obtain⟨w2,k1,k2⟩:=ER hr0 a'.defers (fr:={ b.atR a' todo with mode:=.returning }) rfl (Q6 _).symm hm hs;exact⟨w2,k1,h.trans k2⟩
theorem GJ(hxP:x.P=P)(hS:cq P x.S)(hi:x.inR=b.roundOf.isSome)(hb:b.roundOf=none)(hbd:b.defers=[])(hr0:Rel E0 w0.heap s0)(hs:bt E0 E w0 w s0 st)(ht:cJ E x.nt t a.tmps)
  (hm:nO w0.heap.size E w.heap st a.defers) (hl:(ao c x t st).lim E.top):Ends P ks E0 x.nt b w0 s0 (lone (b.atR a [.code c]) ks w) (ao c x t st):=by
 have hA:=vo (ks:=ks) c x hxP hS [] hi hs.rel ht ⟨a.defers,by grind,hm⟩ hs.fr.size hl;have fin:∀ {t1:Tr AV} {st1:St},(ao c x t st=.nx t1 st1\/ao c x t st=.rt t1 st1)->st1.next<=E.top->∃ E' a' w' todo,bt E0 E' w0 w' s0 st1/\cJ E' x.nt t1 a'.tmps/\Steps P (lone (b.atR a [.code c]) ks w) (lone { b.atR a' todo with mode:=.returning,defers:=[] } ks w'):=by intro t1 st1 h _;obtain⟨E1,a1,w1,todo,h1,h2,⟨ms,h3,h4⟩,h5⟩:=hA.II hb h;rw[hbd,Q6]at h3;subst h3;obtain⟨w2,k1,k2⟩:=FF hr0 (hs.trans h1) h4 h5;grind
 cases ho:ao c x t st with
 |nx t1 st1=>exact fin (.inl ho) (by rw[ho]at hl;exact hl)
 |rt t1 st1=>exact fin (.inr ho) (by rw[ho]at hl;exact hl)
 |_=>trivial
theorem aao(h:pQ x t st3 v=.nx t4 st4):t4=t/\∃ g first captured r fn cd,v=.f (.func g) first captured/\x.S.dcall g (first++captured) st3=some (r,st4)/\x.P.funcs[g]? = some fn/\fn.body=some cd:=by
 unfold pQ at h;split at h
 case h_2=>grind
 rename_i g first captured
 cases hd:Ef x.P x.S g (first++captured) st3 with
 |none=>rw[hd]at h;cases h
 |some p =>rw[hd]at h;cases h;grind[Ef,FZ]
theorem MU:pQ x t st3 v=.no\/∃ t4 st4,pQ x t st3 v=.nx t4 st4:=by
 unfold pQ;split
 ·unfold HE;grind
 grind
theorem N1(hS:cq x.P x.S)(hi:x.inR=b.roundOf.isSome)(hb:b.roundOf=none)(hr0:Rel E0 w0.heap s0)(hs:bt E0 E w0 w s0 st)(ht:cJ E x.nt t a.tmps)
  (hm:nO w0.heap.size E w.heap st a.defers) {id:Nat} (hops:ops.toList=h++[d]) (hop:uQ d=some f) {t1 t2 t3:Tr AV} {st1:St}
  (he:bR x.P x.S x.nt ops h t st=.nx t1 st1) (hp:eN x.nt t1 d.dst .un=some t2) (hc:ao c x t2 st1=.nx t3 st3\/ao c x t2 st1=.rt t3 st3) (hd:pQ x t3 st3 (ai t1 f)=.nx t4 st4) (hl:st4.next<=E.top):
  ∃ E' a' w' todo,bt E0 E' w0 w' s0 st4/\cJ E' x.nt t4 a'.tmps/\Steps x.P (lone (b.atR a [.code (.region id ops false),.code c]) ks w) (lone { b.atR a' todo with mode:=.returning,defers:=[] } ks w'):=by
 obtain⟨rfl,g,first,captured,r,fn,cd,hv,hcall,hfn,hbody⟩:=aao hd;have hu1:st1.next<=st3.next:=by
  have hu:=jd c x hS.up t2 st1;rcases hc with e|e
  ·exact hu.1 _ _ e
  ·exact hu.2.2 _ _ e
 have hu2:st3.next<=st4.next:=hS.up.dcall _ _ _ _ _ hcall;obtain⟨E1,a1,w1,s1,ht1,hdf,g1⟩:=Rz (ks:=ks) (b:=b) (k:=[.code c]) (rest:=[h.length]) hS h 0 (by
  intro j hj;have:ops.toList[j]? = h[j]?:=by grind
  grind) hs.rel ht (by rw[he];show st1.next<=E.top;omega) he
 have hod:ops[h.length]? = some d:=by rw[<-Array.getElem?_toList,hops];simp
 have hcv:=vw ht1 f;rw[hv]at hcv;generalize hev:a1.eval f=fv at hcv;cases hcv with
 |f _ _ _ vx vy _ hvx hvy =>
 let D:Deferred:={ target:=.fn (.func g) vy.toArray,args:=vx.toArray }
 let a2:Act:={ tmps:=(a1.put d.dst undef).tmps,defers:=D::a1.defers }
 have ht2:cJ E1 x.nt t2 a2.tmps:=vH ht1 hp .un
 let b':Frame:={ b with defers:=D::a1.defers }
 have e1:E1.top=E.top:=s1.top;have hA:=vo (ks:=ks) (b:=b') c x rfl hS [] hi s1.rel ht2 Marks.nil (Q3 _) (by
  rcases hc with e|e<;>rw[e]
  ·show st3.next<=E1.top;omega
  ·show st3.next<=E1.top;omega)
 obtain⟨E3,a3,w3,todo,s3,ht3,⟨ms,h3,h4⟩,g3⟩:=hA.II (show b'.roundOf=none from hb) hc;obtain⟨w4,s4,g4⟩:=ER s1.rel ms (fr:={ b'.atR a3 todo with mode:=.returning }) rfl h3 h4 s3;obtain⟨E5,w5,cv,hk,s5,hcv⟩:=hS.dcall s4.rel ((hvx.mono s4.le).append (hvy.mono s4.le)) hcall (by rw[s4.top,e1];grind);have sAll:bt E0 E5 w0 w5 s0 st4:=((hs.trans s1).trans s4).trans s5;have hmk:nO w0.heap.size E5 w5.heap st4 a1.defers:=by rw[hdf];exact((hm.step s1.toStep).step s4.toStep).step s5.toStep
 obtain⟨w6,s6,g6⟩:=ER hr0 a1.defers (fr:={ b'.atR a3 todo with mode:=.returning,defers:=a1.defers }) rfl (Q6 _).symm hmk sAll;refine⟨E5,a3,w6,todo,s6,ht3.mono s5.le,?_⟩;have hng':fn.name≠ "runtime.NumGoroutine":=by simpa using hS.ng g fn hfn
 have hinv:(invoke D.target D.args).run x.P w4=.ok (.enter g (vx++vy).toArray) w4:=by simp[D,invoke,callFunc,hfn,hng',hbody]
 refine(Q0 stepR_region).trans ?_;have hr1:Z9 ops.size=Q9 0 h.length++[h.length]:=by
  have:ops.size=h.length+1:=by rw[<-Array.length_toList,hops];simp
  grind[Z4,List.range'_concat]
 rw[hr1];refine g1.trans ?_;refine(Q0 (YH hb hod hop hev)).trans ?_;refine(Q0 stepR_region_end).trans ?_;refine g3.trans ?_;refine g4.trans ?_;refine(Q0 (step_defer (by simp) rfl rfl hinv)).trans ?_;obtain⟨fr,k1,k2,k3,k4⟩:=hk;refine k1.trans ?_;refine(Q0 (step_going_returned k3 k4)).trans ?_;exact g6
theorem XV(hxP:x.P=P)(hS:cq P x.S)(hi:x.inR=b.roundOf.isSome)(hb:b.roundOf=none)(hr0:Rel E0 w0.heap s0)(hs:bt E0 E w0 w s0 st)(ht:cJ E x.nt t a.tmps)
  (hm:nO w0.heap.size E w.heap st a.defers) {r:Code} (hd:yO r=some (ops,h,d,f)) (hl:(AT x d f (ao c x) (bR x.P x.S x.nt ops h t st)).lim E.top):
  Ends P ks E0 x.nt b w0 s0 (lone (b.atR a [.code r,.code c]) ks w) (AT x d f (ao c x) (bR x.P x.S x.nt ops h t st)):=by
 subst hxP;obtain⟨id,rfl,hops,hop⟩:=S3 hd;unfold AT at hl|-;cases he:bR x.P x.S x.nt ops h t st with
 |nx t1 st1 =>
  rw[he]at hl;simp only at hl|-;unfold Ip at hl|-;cases hp:eN x.nt t1 d.dst .un with
  |none=>trivial
  |some t2 =>
   rw[hp]at hl;simp[Tr.seen_eq]at hl|-;cases hc:ao c x t2 st1 with
   |no=>trivial
   |ex i t3 st3=>trivial
   |nx t3 st3 =>
    rw[hc]at hl;have e:Aq x (ai t1 f) (.nx t3 st3)=pQ x t3 st3 (ai t1 f):=rfl;rw[e]at hl|-;rcases MU with hd|⟨t4,st4,hd⟩
    ·rw[hd];trivial
    ·rw[hd]at hl|-;exact N1 hS hi hb hr0 hs ht hm hops hop he hp (.inl hc) hd hl
   |rt t3 st3 =>
    rw[hc]at hl;have e:Aq x (ai t1 f) (.rt t3 st3)=pQ x t3 st3 (ai t1 f):=rfl;rw[e]at hl|-;rcases MU with hd|⟨t4,st4,hd⟩
    ·rw[hd];trivial
    ·rw[hd]at hl|-;exact N1 hS hi hb hr0 hs ht hm hops hop he hp (.inr hc) hd hl
 |_=>trivial
theorem aa9(hxP:x.P=P)(hS:cq P x.S)(hi:x.inR=b.roundOf.isSome)(hb:b.roundOf=none)(hbd:b.defers=[])(hr0:Rel E0 w0.heap s0):∀ (n:Nat) (c:Code){E:Env}{w:World}{st:St}{t:Tr AV}{a:Act},bt E0 E w0 w s0 st->cJ E x.nt t a.tmps->
  nO w0.heap.size E w.heap st a.defers->(tN x n c t st).lim E.top->Ends P ks E0 x.nt b w0 s0 (lone (b.atR a [.code c]) ks w) (tN x n c t st):=by
 intro n;induction n with
 |zero =>
  intro c E w st t a hs ht hm hl;have e:tN x 0 c t st=ao c x t st:=by cases c<;>rfl
  grind[GJ]
 |succ n ih =>
  intro c E w st t a hs ht hm hl;cases c with
  |seq r c =>
   unfold tN at hl|-;cases hd:yO r with
   |some p =>rw[hd]at hl;exact Ends.ir (stepR_seq) (XV hxP hS hi hb hr0 hs ht hm hd hl)
   |none =>
    rw[hd]at hl;refine Ends.ir (stepR_seq) ?_;have h1:=vo (ks:=ks) r x hxP hS [.code c] hi hs.rel ht ⟨a.defers,by grind,hm⟩ hs.fr.size;cases hc1:ao r x t st with
    |no=>trivial
    |ex i t1 st1=>trivial
    |nx t1 st1 =>
     rw[hc1]at h1 hl;have hl:(tN x n c t1 st1).lim E.top:=hl;rcases wz (Oq hS.up n c t1 st1) hl with hno|hn
     ·simp_all[Ends]
     ·obtain⟨E1,a1,w1,s1,h2,⟨ms,h3,h3'⟩,h4⟩:=h1 hn;rw[hbd,Q6]at h3;subst h3;exact Ends.pre h4 (ih c (hs.trans s1) h2 h3' (by rw[s1.top];grind))
    |rt t1 st1 =>rw[hc1]at h1 hl;obtain⟨E1,a1,w1,todo,k1,k2,⟨ms,h3,h4⟩,h5⟩:=h1 hl hb;rw[hbd,Q6]at h3;subst h3;obtain⟨w2,m1,m2⟩:=FF hr0 (hs.trans k1) h4 h5;exact⟨E1,a1,w2,todo,m1,k2,m2⟩
  |_=>exact GJ hxP hS hi hb hbd hr0 hs ht hm hl
theorem S2(hxP:x.P=P)(hS:cq P x.S)(hi:x.inR=b.roundOf.isSome)(hb:b.roundOf=none)(hbd:b.defers=[])(hr:Rel E w.heap st)(ht:cJ E x.nt t a.tmps)
  (ha:a.defers=[]) (hl:(ui x c t st).lim E.top):Ends P ks E x.nt b w st (lone (b.atR a [.code c]) ks w) (ui x c t st):=by
 have hm:nO w.heap.size E w.heap st a.defers:=by rw[ha];exact⟨V8,fun _ h=>by grind⟩
 unfold ui at hl|-;cases hd:defers 4 c with
 |false=>rw[hd]at hl;exact GJ hxP hS hi hb hbd hr (.refl hr) ht hm hl
 |true=>rw[hd]at hl;exact aa9 hxP hS hi hb hbd hr 4 c (.refl hr) ht hm hl
end
theorem PO:∀ (l:List AV) (n:Nat) (t:Tr AV) (x:Nat),ab (tmpsOf l n t) x=if n<=x then(match l[x-n]? with|some v=>v|none=>ab t x) else ab t x
 |[],n,t,x=>by simp_all
 |v::l,n,t,x=>by
  have e:tmpsOf (v::l) n t=tmpsOf l (n+1) (t.set n (some v)):=rfl;have hg:ab (t.set n (some v)) x=if x=n then v else ab t x:=by unfold ab;rw[Tr.eh];by_cases h:x=n<;>simp[h]
  rw[e,PO l (n+1) (t.set n (some v)) x,hg];by_cases h1:n+1<=x
  ·have h2:n<=x:=by omega
   have h3:x≠n:=by omega
   have h4:x-n=(x-(n+1))+1:=by omega
   rw[if_pos h1,if_pos h2,if_neg h3,h4];rfl
  ·rw[if_neg h1];by_cases h2:x=n
   ·subst h2;simp
   ·rw[if_neg h2,if_neg (by omega)]
theorem Lx(h:aP E as us)(hn:as.length<=nt):cJ E nt (tmpsOf as 0 .lf) (us.toArray++J8 (nt-us.toArray.size) undef):=by
 have hlen:=h.length;refine⟨by grind,fun x=>?_⟩;rw[PO];have hlf:ab (.lf:Tr AV) x=.un:=by simp_all
 rw[hlf,Array.getD_eq_getD_getElem?];cases hx:as[x]? with
 |some v =>obtain⟨u,hu,hc⟩:=h.get x v hx;grind
 |none =>
  show Conc E .un _
  rw[Array.getElem?_append_right (by grind)];rw[Array.getElem?_replicate];split<;>exact Conc.un
theorem aa6{t:TypeId}{x:Value}(h:(Instr.loadAt t u).run P w=.ok x w'):(do loadVar t (<-asAddr u):Sem Value).run P w=.ok x w':=by
 have stk:∀ s,(do let a <-(stuck s:Sem Addr);loadVar t a:Sem Value).run P w=.ok x w'->False:=by simp_all
 cases u with
 |pointer a =>
  cases a with
  |some a=>exact h
  |none=>exact(stk _ h).elim
 |_=>exact(stk _ h).elim
def Gf(tmps:Array Value):ResultVar->Sem Value
 |.tmp t=>pure (tmps.getD t undef)
 |.cell a t=>do loadVar t (<-asAddr (tmps.getD a undef))
theorem OB(hr:Rel E w.heap st){t:Tr AV}{tmps:Array Value}(ht:cJ E nt t tmps):∀ {l:List ResultVar}{vs:List AV},aF (oT P t st) l=some vs->
  ∃ us,(l.mapM (Gf tmps)).run P w=.ok us w/\aP E vs us
 |[],vs,h=>by cases h;exact⟨[],by simp,.nil⟩
 |r::l,vs,h=>by
  unfold aF at h;cases hr1:oT P t st r with
  |none=>grind
  |some v =>
   rw[hr1]at h;cases hl:aF (oT P t st) l with
   |none=>grind
   |some vs' =>
    rw[hl]at h;cases h;obtain⟨us,h1,h2⟩:=OB hr ht hl;have:∃ u,(Gf tmps r).run P w=.ok u w/\Conc E v u:=by
     cases r with
     |tmp x =>refine⟨tmps.getD x undef,rfl,?_⟩;cases hr1;exact ht.2 x
     |cell a ty =>
      have hr1:(match t.get a with|some v=>loadAt P ty st v|none=>none)=some v:=hr1;have hc:=ht.2 a;unfold ab at hc;cases hg:t.get a with
      |none=>grind
      |some z =>rw[hg]at hr1 hc;obtain⟨u,k1,k2⟩:=I6 hr hr1 hc;exact⟨u,aa6 k1,k2⟩
    obtain⟨u,k1,k2⟩:=this;refine⟨u::us,?_,.cons _ _ _ _ k2 h2⟩;simp_all
theorem Mq(hr:Rel E w.heap st)(ht:cJ E nt t tmps)(h:oj P fn.results.toList t st=some (v,st')):
  st'=st/\∃ u,(results fn tmps).run P w=.ok u w/\Conc E v u:=by
 unfold oj at h;have key:∀ {vs:List AV},aF (oT P t st) fn.results.toList=some vs->∃ us,(results fn tmps).run P w=.ok (if h:us.toArray.size=1 then us.toArray[0] else .tuple us.toArray) w/\aP E vs us:=by intro vs hp;obtain⟨us,h1,h2⟩:=OB hr ht hp;refine⟨us,?_,h2⟩;have e:results fn tmps=(do let vs <-fn.results.mapM (Gf tmps);pure (if h:vs.size=1 then vs[0] else .tuple vs)):=rfl;simp_all[Array.mapM_eq_mapM_toList]
 split at h
 ·rename_i v' hp;obtain⟨us,h1,h2⟩:=key hp;cases h2 with
  |cons _ _ u us hu hus =>cases hus;grind
 ·rename_i vs hne hp;cases h;obtain⟨us,h1,h2⟩:=key hp;refine⟨rfl,.tuple us.toArray,?_,.tu _ _ h2⟩;have:us.toArray.size≠1:=by
   intro e;have e':vs.length=1:=by rw[h2.length];grind
   match vs,e' with
   |[v],_=>grind
  grind
 grind
theorem I5(hS:cq P S){kind:CallKind}{f:FuncId}(hr:Rel E w.heap st)(hc:aP E as us)(h:ke P S n f as st=some (v,st'))(hn:st'.next<=E.top):
  ∃ E' w' cv,yP P kind ks f us.toArray w w' cv/\bt E E' w w' st st'/\Conc E' v cv:=by
 unfold ke at h;split at h
 ·grind
 rename_i fn hf;split at h
 ·grind
 rename_i c hbody;obtain⟨hlen,h⟩:=eY h;have hlen':as.length<=fn.ntmps:=by simp_all
 have ht:=Lx hc hlen'
 let fb:Frame:={ fn:=f,tmps:=us.toArray++J8 (fn.ntmps-us.toArray.size) undef,todo:=[],defers:=[],mode:=.run,kind:=kind }
 let a0:Act:={ tmps:=us.toArray++J8 (fn.ntmps-us.toArray.size) undef,defers:=[] }
 have hent:J4 P f us.toArray kind=fb.atR a0 [.code c]:=by grind[J4,Q8]
 have hst1:∀ {l:List ResultVar} {t:Tr AV} {st1:St},oj P l t st1=some (v,st')->st1=st':=by grind[oj]
 have fin:∀ {t:Tr AV} {st1:St},oj P fn.results.toList t st1=some (v,st')->(∃ E' a' w' todo,bt E E' w w' st st1/\cJ E' fn.ntmps t a'.tmps/\Steps P (lone (fb.atR a0 [.code c]) ks w) (lone { fb.atR a' todo with mode:=.returning,defers:=[] } ks w'))->
   ∃ E' w' cv,yP P kind ks f us.toArray w w' cv/\bt E E' w w' st st'/\Conc E' v cv:=by
  rintro t st1 hres ⟨E1,a1,w2,todo,k1,k2,k3⟩;obtain⟨rfl,u,k5,k4⟩:=Mq k1.rel k2 hres;refine⟨E1,w2,u,⟨{ fb.atR a1 todo with mode:=.returning,defers:=[] },?_,rfl,rfl,rfl,rfl,fn,hf,k5⟩,k1,k4⟩;grind
 have hE:∀ {o:Out},ui ⟨P,S,false,fn.ntmps,n⟩ c (tmpsOf as 0 .lf) st=o->o.lim E.top->Ends P ks E fn.ntmps fb w st (lone (fb.atR a0 [.code c]) ks w) o:=by intro o ho hl;subst ho;exact S2 rfl hS rfl rfl rfl hr ht rfl hl
 unfold eE at h;split at h
 ·rename_i t st1 hev;have:=hst1 h;subst this;exact fin h (hE hev hn)
 ·rename_i t st1 hev;have:=hst1 h;subst this;exact fin h (hE hev hn)
 grind
theorem Jl(hS:cq P S){f:FuncId}(hr:Rel E w.heap st)(hc:aP E as us)(h:ke P S n f as st=some (v,st'))(hn:st'.next<=E.top):
  ∃ E' w' cv,lQ P ks f us.toArray w w' cv/\bt E E' w w' st st'/\Conc E' v cv:=by
 obtain⟨E',w',cv,h1,h2,h3⟩:=I5 hS hr hc h hn;exact⟨E',w',cv,h1.to,h2,h3⟩
theorem En(hng:As P)(hmx:P.follows .mixedOrders=true):∀ n,cq P (self P n)
 |0=>⟨hng,hmx,Ak P 0,fun _ _ h _=>(by cases h),fun _ _ _ _ _ _=>trivial,fun _ _ h _=>(by cases h)⟩
 |n+1=>⟨hng,hmx,Ak P (n+1),fun hr hc h hn=>Jl (En hng hmx n) hr hc h hn,fun {ks E w st nt c t a b} k hb hr ht hm hl =>
   vo c ⟨P,self P n,true,nt,n⟩ rfl (En hng hmx n) k hb.symm hr ht hm (J1 _) hl,fun hr hc h hn=>I5 (En hng hmx n) hr hc h hn⟩
def aK:St:=⟨.lf,.lf,0⟩
theorem qz(r:Nat):aK.get r=none:=by exact Tr.uy r
theorem Yi(H:Array Obj)(top:Nat):Rel ⟨fun _=>none,fun _=>none,top⟩ H aK:=by
 have hal:∀ r row,aK.alive r=some row->False:=fun r row h=>by have:=Rel.pc h;rw[qz]at this;grind
 have hlv:∀ g:Nat,aK.live.get g=none:=fun g=>Tr.uy g
 refine⟨fun _ _ h=>(by grind),fun _ _ _=>rfl,fun r _=>qz r,fun g _=>hlv g,fun g al x h=>?_,fun r row h=>(hal r row h).elim,fun r row B h=>(hal r row h).elim,fun r r' row row' B B' h=>(hal r row h).elim,fun g al h=>?_,fun r t r0 x h=>by rw[qz]at h;grind⟩
 ·rw[hlv]at h;cases h
 ·rw[hlv]at h;cases h
def Hq(P:Program)(n:Nat)(f:FuncId):Bool :=
 match Ui P n f [] aK with
 |some (v,_)=>match v.gV with
  |some b=>b
  |none=>false
 |none=>false
theorem Ta(hng:As P)(hmx:P.follows .mixedOrders=true){f:FuncId}(h:Hq P n f=true)(ks:List Frame)(w:World):
  ∃ w',lQ P ks f #[] w w' (.bool true)/\w'.os=w.os/\w'.output=w.output/\w.heap.size<=w'.heap.size/\∀ i,i<w.heap.size->w'.heap[i]? = w.heap[i]?:=by
 unfold Hq at h;split at h
 case h_2=>grind
 rename_i v st' he;split at h
 case h_2=>grind
 rename_i b hb;subst h;have hv:=AV.zi hb;subst hv;obtain⟨E',w',cv,h1,h2,h3⟩:=(En hng hmx n).call (Yi w.heap st'.next) .nil he (Q3 _);cases h3;refine⟨w',h1,h2.os,h2.out,h2.fr.size,fun i hi=>h2.fr.keep i hi ?_⟩;rintro⟨r,row,B,ha,_,_⟩;grind
theorem Step.grow{H':Array Obj}(h:Rel E H st)(hs:H.size<=H'.size)(hk:∀ b,b<H.size->H'[b]? = H[b]?):Step E E H H' st st:=by
 refine⟨.refl E,fun _ _ _ h=>h,rfl,⟨?_,h.fresh,h.freshRow,h.freshG,h.liveLt,?_,h.own,h.sep,h.ends,fun r t r0 x hx=>(h.tys r t r0 x hx).mono (.refl E) (fI.H5 hk)⟩,hs,fun b hb _=>hk b hb,fun _ h=>.inr h⟩
 ·intro b o' hb;rw[hk b (h.xh hb)];exact h.imm b o' hb
 ·intro r row hr;obtain⟨B,hB,hR⟩:=h.rows r row hr;exact⟨B,hB,hR.mono (.refl E) (hk _ hR.lt)⟩
def fH(g:FuncId)(S:Self):Self :=
 ⟨fun f as st=>@Bool.rec (fun _=>aR) (S.call f as st) (match as with|[]=>some (.b true,st)|_=>S.call f as st) (Q4 f g),S.code,S.dcall⟩
theorem aaj{g:FuncId}(hS:cq P S)(hg:∀ ks w,∃ w',lQ P ks g #[] w w' (.bool true)/\w'.os=w.os/\w'.output=w.output/\w.heap.size<=w'.heap.size/\∀ i,i<w.heap.size->w'.heap[i]? = w.heap[i]?):cq P (fH g S):=by
 refine⟨hS.ng,hS.mixed,⟨fun f as st=>?_,hS.up.code,hS.up.dcall⟩,fun {ks E w st st' f as us v} hr hc h hn=>?_,fun {ks E w st nt c t a b} k hb hr ht hm hl=>hS.code k hb hr ht hm hl,hS.dcall⟩
 ·unfold fH;simp only;cases Q4 f g with
  |false=>exact hS.up.call f as st
  |true =>
   cases as with
   |nil=>exact gR
   |cons a l=>exact hS.up.call f (a::l) st
 ·unfold fH at h;simp only at h;cases hb:Q4 f g with
  |false=>rw[hb]at h;exact hS.call hr hc h hn
  |true =>
   rw[hb]at h;cases as with
   |cons a l=>exact hS.call hr hc h hn
   |nil =>
    cases h;cases hc;have:f=g:=by simp_all
    subst this;obtain⟨w',h1,h2,h3,h4,h5⟩:=hg ks w;exact⟨E,w',.bool true,h1,⟨Step.grow hr h4 h5,h2,h3⟩,.b true⟩
theorem XT{f:FuncId}{args:Array Value}(h:∀ ks,∃ w',lQ P ks f args w w' (.bool true)/\w'.os=w.os/\w'.output=w.output/\w.heap.size<=w'.heap.size/\∀ i,i<w.heap.size->w'.heap[i]? = w.heap[i]?):
  Calls P f args w fun e w'=>e=.returned (.bool true)/\(∀ may,w.keptBut w' may)/\∀ i,i<w.heap.size->w'.heap[i]? = w.heap[i]?:=by
 intro cs;obtain⟨w',h1,h2,h3,h4,h5⟩:=h cs;obtain⟨fr,k1,k2,k3⟩:=h1;refine⟨.returned (.bool true),w',fr,⟨rfl,fun may=>⟨h2,h3,fun i hi=>?_⟩,h5⟩,k1,k2,k3⟩;grind
theorem Wt(h:∀ i,i<w.heap.size->w'.heap[i]? = w.heap[i]?){p:MemPlace}(hp:p.block<w.heap.size):w.sameAt w' p:=by
 cases p with
 |cell b off=>exact World.cell?_of_block (h b hp)
 |map b=>exact h b hp
def Lj (P:Program):Bool:=P.funcs.all fun fn=>!(fn.name == "runtime.NumGoroutine")
theorem Gv(h:Lj P=true):As P:=by intro f fn hf;have:=Array.all_eq_true_iff_forall_mem.1 h fn (Array.mem_of_getElem? hf);grind
variable {top : Nat}
def jF(H:Array Obj)(top:Nat):Env:=⟨fun b=>H[b]?,fun _=>none,top⟩
theorem KP(H:Array Obj)(top:Nat):Rel (jF H top) H aK:=by
 have hal:∀ r row,aK.alive r=some row->False:=fun r row h=>by have:=Rel.pc h;rw[qz]at this;grind
 have hlv:∀ g:Nat,aK.live.get g=none:=fun g=>Tr.uy g
 refine⟨fun _ _ h=>h,fun _ _ _=>rfl,fun r _=>qz r,fun g _=>hlv g,fun g al x h=>?_,fun r row h=>(hal r row h).elim,fun r row B h=>(hal r row h).elim,fun r r' row row' B B' h=>(hal r row h).elim,fun g al h=>?_,fun r t r0 x h=>by rw[qz]at h;grind⟩
 ·rw[hlv]at h;cases h
 ·rw[hlv]at h;cases h
theorem OF{a:Addr}{v:Value}(h:w.cell? a=some v):a.spot=none/\(jF w.heap top).cell a.block a.off=some v:=by
 unfold World.cell? at h;unfold Env.cell jF;simp only;split at h
 ·rename_i c t f hb;rw[hb];split at h
  ·cases h
  ·rename_i hs;exact⟨by simpa using hs,h⟩
 ·cases h
theorem Nz(a:Addr)(n:Nat):(a.add n).block=a.block:=by unfold Addr.add;grind
theorem JZ(a:Addr)(n:Nat):(a.add n).off=a.off+n:=by unfold Addr.add;grind
theorem Tz{a:Addr}{cs:List Value}(h:w.cells? base a n=some cs):cs.length=n/\(0<n->a.spot=none)/\∀ j v,cs[j]? = some v->(jF w.heap top).cell a.block (a.off+j)=some v:=by
 unfold World.cells? at h;split at h
 ·have h1:=mapM_some_length h;have key:∀ j v,cs[j]? = some v->w.cell? (a.add j)=some v:=by
   intro j v hj;have h2:=mapM_some_get h j j (by grind);grind
  refine⟨by grind,fun hn=>?_,fun j v hj=>?_⟩
  ·have hl:0<cs.length:=by grind
   have:=(OF (top:=top) (key 0 cs[0] (by grind))).1;exact this
  ·have:=(OF (top:=top) (key j v hj)).2;grind[Nz,JZ]
 grind
def Fj(P:Program):List Field->Nat->Nat->Prop
 |[],o,n=>o=n
 |f::fs,o,n=>f.offset=o/\Fj P fs (o+aD P f.type) n
def Bp(P:Program):List Field->Nat->Nat->Bool
 |[],o,n=>Q4 o n
 |f::fs,o,n=>Q4 f.offset o&&Bp P fs (o+aD P f.type) n
theorem Ns:∀ {fs:List Field}{o n:Nat},Bp P fs o n=true->Fj P fs o n
 |[],o,n,h=>V0 h
 |f::fs,o,n,h=>by simp only[Bp,Bool.and_eq_true]at h;exact⟨V0 h.1,Ns h.2⟩
def Typed(P:Program):Nat->TypeId->List AV->Prop
 |0,_,_=>False
 |k+1,t,l=>match P.underlying t with
  |some .bool=>∃ b,l=[.b b]
  |some (.int q)=>∃ n,l=[.i q n]/\q.min<=n/\n<=q.max
  |some .string=>∃ bs:List Nat,l=[.s bs]/\(∀ b∈bs,b<256)/\bs.length<=maxLen
  |some (.slice e)=>aD P e=0\/l=[.sn]\/∃ els:List (List AV),l=[.rs els.flatten els.length (aD P e)]/\els.length<=maxLen/\∀ x∈els,x.length=aD P e/\Typed P k e x
  |some (.struct fs)=>Bp P fs.toList 0 (aD P t)=true->∃ parts:List (List AV),l=parts.flatten/\parts.length=fs.toList.length/\∀ (i:Nat) (f:Field) (p:List AV),fs.toList[i]? = some f->parts[i]? = some p->p.length=aD P f.type/\Typed P k f.type p
  |_=>True
theorem Cb{E:Env}:∀ cs:List Value,aP E (cs.map fun _=>.bad) cs
 |[]=>.nil
 |v::cs=>.cons _ _ _ _ (.bad v) (Cb cs)
theorem Aa(t:TypeId):aD P t=P.cellsOf t:=by grind[aD,Program.cellsOf]
section
variable {H : Type}{enc : TypeId× Value->H}{spare : Nat->Bool}{held : Bool}
theorem RS{k:Nat}{cs:List Value}(ih:∀ t cs d ps,Q1 enc P w base spare held k t cs=some (d,ps)->∃ l,aP (jF w.heap top) l cs/\Typed P k t l):
  ∀ (fs:List Field) (o n:Nat) (xs:List (DataW H× List MemPlace)),Fj P fs o n->cs.length=n->(fs.mapM fun f=>Q1 enc P w base spare held k f.type ((cs.drop f.offset).take (P.cellsOf f.type)))=some xs ->
   ∃ parts:List (List AV),aP (jF w.heap top) parts.flatten (cs.drop o)/\parts.length=fs.length/\∀ (i:Nat) (f:Field) (p:List AV),fs[i]? = some f->parts[i]? = some p->p.length=aD P f.type/\Typed P k f.type p:=by
 intro fs;induction fs with
 |nil =>intro o n xs ht hc h;have:o=n:=ht;subst this;refine⟨[],?_,rfl,fun i f p h=>by grind⟩;rw[V1 (by omega)];exact .nil
 |cons f fs ihf =>
  intro o n xs ht hc h;obtain⟨h1,h2⟩:=ht;rw[List.mapM_cons]at h;cases ha:Q1 enc P w base spare held k f.type ((cs.drop f.offset).take (P.cellsOf f.type)) with
  |none=>grind
  |some x =>
   rw[ha]at h;cases hb:(fs.mapM fun f=>Q1 enc P w base spare held k f.type ((cs.drop f.offset).take (P.cellsOf f.type))) with
   |none =>grind
   |some ys =>
    obtain⟨l,c1,c2⟩:=ih _ _ x.1 x.2 ha;obtain⟨parts,p1,p2,p3⟩:=ihf _ n ys h2 hc hb;rw[h1]at c1;have hle:∀ (gs:List Field) (a b:Nat),Fj P gs a b->a<=b:=by
     intro gs;induction gs with
     |nil=>intro a b h;exact Nat.le_of_eq h
     |cons g gs ihg=>intro a b h;have:=ihg _ _ h.2;omega
    have hn:=hle _ _ _ h2;have hl:l.length=aD P f.type:=by rw[c1.length,List.length_take,List.length_drop,<-Aa];omega
    refine⟨l::parts,?_,by grind,fun i g p hg hp=>?_⟩
    ·have e:cs.drop o=(cs.drop o).take (P.cellsOf f.type)++cs.drop (o+aD P f.type):=by
      grind[Aa,List.drop_drop,List.take_append_drop]
     rw[e,V2];exact c1.append p1
    grind
theorem Um{k:Nat}{a:Addr}(ih:∀ t cs d ps,Q1 enc P w base spare held k t cs=some (d,ps)->∃ l,aP (jF w.heap top) l cs/\Typed P k t l):
  ∀ (xs:List (DataW H× List MemPlace)) (i0:Nat),(∀ i x,xs[i]? = some x->(w.cells? base (a.add ((i0+i)*P.cellsOf e)) (P.cellsOf e)).bind (Q1 enc P w base spare held k e)=some x)->
   ∃ (els:List (List AV)) (vs:List Value),els.length=xs.length/\(∀ x∈els,x.length=aD P e/\Typed P k e x)/\aP (jF w.heap top) els.flatten vs/\
    (i0=0->0<xs.length->0<P.cellsOf e->a.spot=none)/\∀ j v,vs[j]? = some v->(jF w.heap top).cell a.block (a.off+i0*P.cellsOf e+j)=some v:=by
 intro xs;induction xs with
 |nil=>intro i0 h;exact⟨[],[],rfl,fun x hx=>(by grind),.nil,fun _ h=>(by grind),fun j v hj=>by grind⟩
 |cons x xs ihx =>
  intro i0 h;obtain⟨els,vs,k1,k2,k3,-,k4⟩:=ihx (i0+1) (fun i y hy=>by have:=h (i+1) y (by grind);grind);have h0:=h 0 x rfl;rw[V3]at h0;cases hc:w.cells? base (a.add (i0*P.cellsOf e)) (P.cellsOf e) with
  |none=>grind
  |some cs =>
   rw[hc]at h0;obtain⟨c1,cs0,c2⟩:=Tz (top:=top) hc;obtain⟨l,d1,d2⟩:=ih e cs x.1 x.2 h0;have hl:l.length=aD P e:=by rw[d1.length,c1,Aa]
   refine⟨l::els,cs++vs,by grind,?_,?_,fun h0 _ hz=>?_,fun j v hj=>?_⟩
   ·intro y hy;rcases Q2.1 hy with rfl|hy
    ·exact⟨hl,d2⟩
    ·exact k2 y hy
   ·exact d1.append k3
   ·have:=cs0 hz;rw[h0,V4]at this;exact this
   grind[Nz,JZ]
theorem Sp:∀ (k:Nat) (t:TypeId) (cs:List Value) (d:DataW H) (ps:List MemPlace),
  Q1 enc P w base spare held k t cs=some (d,ps)->∃ l,aP (jF w.heap top) l cs/\Typed P k t l:=by
 intro k;induction k with
 |zero=>intro t cs d ps h;cases h
 |succ k ih =>
  intro t cs d ps h;cases hu:P.underlying t with
  |none=>exact⟨_,Cb cs,by simp[Typed,hu]⟩
  |some u =>
   cases u with
   |bool =>
    rw[Q7]at h;simp[hu]at h;split at h<;>first|(rename_i e;cases e;done)|skip
    all_goals first
     |(rename_i b hb;exact⟨[.b b],.cons _ _ _ _ (.b b) .nil,by grind[Typed]⟩)
     |grind
     |skip
   |int q =>
    rw[Q7]at h;simp[hu]at h;split at h<;>first|(rename_i e;cases e;done)|skip
    ·rename_i e;cases e;split at h
     ·rename_i hq;obtain⟨rfl,hw⟩:=hq;simp[Lit.wf]at hw;exact⟨[.i _ _],.cons _ _ _ _ (.i _ _) .nil,by grind[Typed]⟩
     grind
    grind
   |string =>
    rw[Q7]at h;simp[hu]at h;split at h<;>first|(rename_i e;cases e;done)|skip
    ·rename_i s e;split at h
     ·rename_i hs;refine⟨[.s (s.data.toList.map UInt8.toNat)],.cons _ _ _ _ (.s s) .nil,?_⟩;simp only[Typed,hu];refine⟨_,rfl,fun b hb=>?_,by simp_all⟩;obtain⟨x,-,rfl⟩:=List.mem_map.1 hb;exact x.toNat_lt
     grind
    grind
   |slice e =>
    rw[Q7]at h;simp[hu]at h;split at h<;>first|(rename_i e;cases e;done)|skip
    ·exact⟨[.sn],.cons _ _ _ _ .sn .nil,by grind[Typed]⟩
    ·rename_i e' a len cap he;cases he;split at h
     ·rename_i hlen;by_cases hz:aD P e=0
      ·exact⟨[.bad],.cons _ _ _ _ (.bad _) .nil,by simp only[Typed,hu];exact .inl hz⟩
      ·cases hm:(List.mapM (fun i=>(w.cells? base (a.add (i*P.cellsOf e)) (P.cellsOf e)).bind (Q1 enc P w base spare held k e)) (Z9 len)) with
       |none=>rw[hm]at h;cases h
       |some xs =>
        have hxl:=mapM_some_length hm;rw[List.length_range]at hxl;obtain⟨els,vs,k1,k2,k3,k4,k5⟩:=Um ih xs 0 fun i x hx=>by
         have hi:i<len:=by have:=(List.getElem?_eq_some_iff.1 hx).1;omega
         have:=mapM_some_get hm i i (by simp[hi]);rw[hx]at this;rw[Nat.zero_add];exact this
        rw[V4,V3]at k5;have hlx:els.length=len:=by rw[k1,hxl]
        refine⟨[.rs els.flatten els.length (aD P e)],.cons _ _ _ _ ?_ .nil,by simp only[Typed,hu];exact .inr (.inr ⟨els,rfl,by omega,k2⟩)⟩;rw[hlx];by_cases h0:len=0
        ·rw[h0];exact .rs0 _ _ _ _
        ·have hsp:=k4 rfl (by omega) (by rw[<-Aa];omega);obtain⟨b,o,sp⟩:=a;have:sp=none:=hsp;subst this;exact .rs _ _ _ _ b o vs hlen.2.1 k5 k3
     ·cases h
    grind
   |struct fs =>
    by_cases htl:Bp P fs.toList 0 (aD P t)=true
    case neg=>exact⟨_,Cb cs,by simp[Typed,hu];exact fun hh=>absurd hh htl⟩
    rw[Q7]at h;simp only[hu]at h;split at h
    ·rename_i hc;cases hm:(fs.toList.mapM fun f=>Q1 enc P w base spare held k f.type ((cs.drop f.offset).take (P.cellsOf f.type))) with
     |none=>rw[hm]at h;cases h
     |some xs =>obtain⟨parts,p1,p2,p3⟩:=RS ih fs.toList 0 (aD P t) xs (Ns htl) (by rw[Aa];exact hc) hm;rw[List.drop_zero]at p1;exact⟨_,p1,by simp only[Typed,hu];exact fun _=>⟨parts,rfl,p2,p3⟩⟩
    ·cases h
   |_=>exact⟨_,Cb cs,by simp[Typed,hu]⟩
theorem T7{r:Reach}{b0:Nat}{w1:World}{t:TypeId}{v:Value}{d:DataW H}{ps:List MemPlace}(hval:Value.okWide P w1 r b0 t v)(hd:DataW.Trod enc P w base spare held t v d ps)
  (top:Nat):∃ k av l,Conc (jF w.heap top) av v/\Typed P k t l/\(l=[av]\/av=.ag l):=by
 obtain⟨k,hk⟩:=hd;obtain⟨l,h1,h2⟩:=Sp k t _ d ps hk;by_cases hag:∃ cs,v=.agg cs
 ·obtain⟨cs,rfl⟩:=hag;exact⟨k,.ag l,l,by simpa using Conc.ag l cs.toList h1,h2,.inr rfl⟩
 ·have hc:v.cells = #[v]:=by
   cases v<;>first|rfl|grind
  rw[hc]at h1;cases h1 with
  |cons a l u us c1 c2 =>cases c2;grind
end
theorem Xd(H:Array Obj)(a b:Nat):(jF H a).le (jF H b):=⟨fun _ _ h=>h,fun _ _ h=>h⟩
theorem rQ{f:FuncId}(h:P.funcs[f]? = some fn)(hb:fn.body=some c)(hn:xs.length<=fn.ntmps)(hd:defers 4 c=false:=by rfl):
  ke P S n f xs st=eE P fn.results.toList (ao c ⟨P,S,false,fn.ntmps,n⟩ (tmpsOf xs 0 .lf) st):=by
 simp_all[ke,Nat.ble_eq_true_of_le,T4]
def xI(P:Program)(W:Self->Self)(n:Nat):Self :=
 @Nat.rec (fun _=>Self) ⟨fun _ _ _=>none,fun _ _ _ _=>.no,fun _ _ _=>none⟩ (fun n s=>W ⟨ke P s n,fun nt c t st=>ao c ⟨P,s,true,nt,n⟩ t st,ke P s n⟩) n
theorem vt(hng:As P)(hmx:P.follows .mixedOrders=true){W:Self->Self}(hW:∀ S,cq P S->cq P (W S)):∀ n,cq P (xI P W n)
 |0=>⟨hng,hmx,⟨fun _ _ _=>bF,fun _ _ _ _=>fx,fun _ _ _=>bF⟩,fun _ _ h _=>(by cases h),fun _ _ _ _ _ _=>trivial,fun _ _ h _=>(by cases h)⟩
 |n+1=>hW _ ⟨hng,hmx,⟨fun _ _ _=>Dt (vt hng hmx hW n).up,fun nt c t st=>jd c ⟨P,xI P W n,true,nt,n⟩ (vt hng hmx hW n).up t st,fun _ _ _=>Dt (vt hng hmx hW n).up⟩,fun hr hc h hn=>Jl (vt hng hmx hW n) hr hc h hn,fun {ks E w st nt c t a b} k hb hr ht hm hl =>
   vo c ⟨P,xI P W n,true,nt,n⟩ rfl (vt hng hmx hW n) k hb.symm hr ht hm (J1 _) hl,fun hr hc h hn=>I5 (vt hng hmx hW n) hr hc h hn⟩
section
variable {l : List Oper}
@[simp] theorem ac5:bI P S nt ops [] t st=some [⟨t,st,.un,false⟩]:=rfl
@[simp] theorem afc{d:Option Tmp}:bI P S nt ops (⟨d,op,ty,pos,af,none⟩::l) t st=o8 nt t st d (bH op P S t st) (bI P S nt ops l):=rfl
@[simp] theorem adV{d:Option Tmp}{b:Bool}:bI P S nt ops (⟨d,op,ty,pos,af,some (j,b)⟩::l) t st =
  match rH ops t j b with
  |some true=>o8 nt t st d (bH op P S t st) (bI P S nt ops l)
  |some false=>lh ⟨t,st,.un,false⟩ (eN nt t d .un) fun t=>bI P S nt ops l t st
  |none=>none:=rfl
@[simp] theorem adT{d:Option Tmp}{k:Tr AV->St->Option (List Rec)}:o8 nt t st d (some (v,st')) k=lh ⟨t,st,v,true⟩ (eN nt t d v) fun t=>k t st':=rfl
@[simp] theorem adj{r:Rec}{k:Tr AV->Option (List Rec)}:lh r (some t) k=tD r (k t):=rfl
@[simp] theorem adI{r:Rec}{l:List Rec}:tD r (some l)=some (r::l):=rfl
theorem JG{p:Nat}{r:Rec}{o:Oper}(h1:R[j]? = some r)(h2:R[p]? = some q)(h3:ops[j]? = some o){u:AV}(h4:bH o.op P S r.t q.st=some (u,s))(h5:qv 4 r.v u=true):recheck P S ops R (j,p)=true:=by grind[recheck,Fi,Eg,da]
theorem bV{p:Nat}{r:Rec}{o:Oper}(h1:R[j]? = some r)(h2:R[p]? = some q)(h3:ops[j]? = some o)(h4:bH o.op P S r.t q.st=some (r.v,s)):recheck P S ops R (j,p)=true:=by grind[recheck,Fi,Eg,da,PJ]
theorem OS(k:IntKind)(n:Int):qv 4 (.i k n) (.i k n)=true:=by simp[qv,ud,ru]
theorem Dj{cs:List AV}(h:bp P ty=true)(ha:et P ty=false):part P ty cs o=oneOf (cut cs o 1):=by unfold part;simp_all
@[simp] theorem afw{a:Operand}:bH (.box ty a) P S t st=mY st (ai t a).cells:=rfl
@[simp] theorem afb(l:List AV):mY st (some l)=some (.p st.next 0,st.aw l):=rfl
@[simp] theorem aej(l:List AV):xM (some l)=some (.ag l):=rfl
theorem lJ:∀ (l:List AV) (o n:Nat),o+n<=l.length->cut l o n=some ((l.drop o).take n)
 |l,0,n,h=>by grind[cQ,Hy]
 |[],o+1,n,h=>by grind
 |v::l,o+1,n,h=>by rw[Tt,lJ l o n (by grind)];simp
theorem aau{c:Bool}{x y:List Nat}:Go.Ev.binOp P ty c .eql (.s x) (.s y)=some (.b (leq x y)):=rfl
@[simp] theorem ac0{as1:Array Operand}{ts:Array TypeId}:bH (.call { callee:=.builtin .max,args:=as1,argTypes:=ts }) P S t st=yX P st ts.toList (args t as1.toList):=rfl
theorem max_zero{ts:List TypeId}(m:Int):yX P st ts [.i .i64 0,.i .i64 m]=some (.i .i64 (m.toNat:Int),st):=by
 show some (AV.i .i64 (@Bool.rec (fun _=>Int) 0 m (oe 0 m)),st)=_
 rw[pH];by_cases h:(0:Int)<m
 ·rw[decide_eq_true h];grind
 ·rw[decide_eq_false h];grind
end
theorem dz{B A' B':List Nat}{a b c:St}(h:Kp A B a b)(k:Kp A' B' b c)(hA:∀ x,x∈A'->a.next<=x)(hB:∀ x,x∈B'->a.next<=x):Kp A B a c :=
 ⟨J6 h.next k.next,fun r h1 h2=>(k.get r (J3 h1 h.next) fun hh=>absurd (hA r hh) (V6.2 h1)).trans (h.get r h1 h2),fun g h1 h2 =>
  (k.live g (J3 h1 h.next) fun hh=>absurd (hB g hh) (V6.2 h1)).trans (h.live g h1 h2)⟩
theorem Cx:∀ (l:List AV) (i:Nat) (v:AV),bO l i [v]=l.set i v
 |[],0,v=>rfl
 |x::l,0,v=>by simp
 |[],i+1,v=>rfl
 |x::l,i+1,v=>by simp[Cx l i v]
mutual
inductive Ex where
 |mk (k:Int) (nm:List Nat) (num:Int) (ps:AV) (b a l:ae)
inductive ae where
 |nil (f:Bool)
 |cons (p:List AV) (x:Ex) (l:ae)
end
def ae.list:ae->List (List AV× Ex)
 |.nil _=>[]
 |.cons p x l=>(p,x)::l.list
def Ex.kind:Ex->Int
 |.mk k _ _ _ _ _ _=>k
def nF(k:Int):Bool:=decide (k=1)||(decide (k=2)||decide (k=3))
def Ex.atom(x:Ex):Bool:=nF x.kind
mutual
def Ex.cells:Ex->List AV
 |.mk k nm num ps b a l=>[.i .i64 k,.s nm,.i .i64 num,ps,b.slice 8,a.slice 7,l.slice 11]
def ae.slice:ae->Nat->AV
 |.nil true,_=>.sn
 |.nil false,z=>.rs [] 0 z
 |.cons p x l,z=>.rs (p++x.cells++l.flat) (l.len+1) z
def ae.flat:ae->List AV
 |.nil _=>[]
 |.cons p x l=>p++x.cells++l.flat
def ae.len:ae->Nat
 |.nil _=>0
 |.cons _ _ l=>l.len+1
end
mutual
def Ex.size:Ex->Nat
 |.mk _ _ _ _ b a l=>1+b.size+a.size+l.size
def ae.size:ae->Nat
 |.nil _=>0
 |.cons _ x l=>x.size+l.size
end
mutual
def Ex.depth:Ex->Nat
 |.mk _ _ _ _ b a l=>1+max b.depth (max a.depth l.depth)
def ae.depth:ae->Nat
 |.nil _=>0
 |.cons _ x l=>max x.depth l.depth
end
def ae.pre(m:Nat)(l:ae):Prop:=∀ p∈l.list,p.1.length=m
mutual
def Ex.Wf:Ex->Prop
 |.mk k _ _ ps b a l=>(-9223372036854775808<=k/\k<=9223372036854775807)/\(b.pre 1/\a.pre 0/\l.pre 4)/\(b.Wf/\a.Wf/\l.Wf)/\bS ps=true
def ae.Wf:ae->Prop
 |.nil _=>True
 |.cons p x l=>(x.Wf/\bq p=true)/\l.Wf
end
theorem ae.sH:∀ {l:ae},l.Wf->∀ p∈l.list,p.2.Wf/\bq p.1=true
 |.nil _,_,p,hp=>by simp[ae.list]at hp
 |.cons q x l,h,p,hp=>by
  rcases Q2.1 hp with rfl|hp
  ·exact h.1
  ·exact ae.sH h.2 p hp
theorem Ex.ind{C:Ex->Prop}(h:∀ k nm num ps b a l,(∀ p∈ae.list b,C p.2)->(∀ p∈ae.list a,C p.2)->(∀ p∈ae.list l,C p.2)->C (.mk k nm num ps b a l)):∀ x,C x :=
 Ex.rec (fun k nm num ps b a l hb ha hl=>h k nm num ps b a l hb ha hl)
  (fun f p hp=>by simp[ae.list]at hp) (fun q x l hx hl p hp=>by
   rcases Q2.1 hp with rfl|hp
   ·exact hx
   ·exact hl p hp)
theorem Ex.aO:∀ x:Ex,x.cells.length=7
 |.mk ..=>by simp[Ex.cells]
theorem ae.sU:∀ l:ae,l.flat=(l.list.map fun p=>p.1++p.2.cells).flatten
 |.nil _=>rfl
 |.cons p x l=>by simp[ae.flat,ae.list,ae.sU l]
theorem ae.aC:∀ l:ae,l.len=l.list.length
 |.nil _=>rfl
 |.cons p x l=>by simp[ae.len,ae.list,ae.aC l]
theorem ae.size_eq:∀ l:ae,l.size=(l.list.map fun p=>p.2.size).sum
 |.nil _=>rfl
 |.cons p x l=>by simp[ae.size,ae.list,ae.size_eq l]
theorem Ex.size_pos:∀ x:Ex,1<=x.size
 |.mk ..=>by simp[Ex.size];omega
theorem ae.bZ:∀ l:ae,l.len<=l.size
 |.nil _=>Q3 _
 |.cons p x l=>by have:=x.size_pos;have:=ae.bZ l;simp[ae.len,ae.size];omega
theorem ae.dU:∀ {l:ae}{p:List AV× Ex},p∈l.list->p.2.size<=l.size
 |.nil _,p,h=>by simp[ae.list]at h
 |.cons q x l,p,h=>by
  simp[ae.size];rcases Q2.1 h with rfl|h
  ·grind
  ·have:=ae.dU h;omega
theorem ae.BF:∀ {l:ae}{p:List AV× Ex},p∈l.list->p.2.depth<=l.depth
 |.nil _,p,h=>by simp[ae.list]at h
 |.cons q x l,p,h=>by
  simp[ae.depth];rcases Q2.1 h with rfl|h
  ·grind
  ·have:=ae.BF h;omega
theorem ae.bK(l:ae)(z:Nat):lenOf (l.slice z)=some l.len:=by
 cases l with
 |nil f=>cases f<;>simp[ae.slice,ae.len]<;>rfl
 |cons p x l=>rfl
theorem ae.bJ(l:ae)(z:Nat):lH (l.slice z)=false:=by
 cases l with
 |nil f=>cases f<;>simp[ae.slice]<;>rfl
 |cons p x l=>rfl
theorem ae.cZ{l:ae}(h:i<l.len):l.slice z=.rs l.flat l.len z:=by
 cases l with
 |nil f=>simp[ae.len]at h
 |cons p x l=>simp[ae.slice,ae.flat,ae.len]
theorem ae.Mw(l:ae)(z:Nat):(l.slice z).cells=some [l.slice z]:=by
 cases l with
 |nil f=>cases f<;>simp[ae.slice]
 |cons p x l=>simp[ae.slice]
theorem Pr{z:Nat}:∀ (L:List (List AV× Ex)) (i:Nat) (h:i<L.length),(∀ p∈L,p.1.length+7=z)->
  ((L.map fun p=>p.1++p.2.cells).flatten).drop (i*z)=L[i].1++(L[i].2.cells++((L.drop (i+1)).map fun p=>p.1++p.2.cells).flatten)
 |p::L,0,_,_=>by simp
 |p::L,i+1,h,hz=>by
  have:=Pr L i (by grind) fun q hq=>hz q (Z8 _ hq)
  have hp:=hz p (Z7 ..);have hl:(p.1++p.2.cells).length=z:=by rw[List.length_append,p.2.aO];omega
  have e:z+i*z-(p.1++p.2.cells).length=i*z:=by omega
  rw[show(i+1)*z=z+i*z by grind,List.map_cons,V2,List.drop_append,e,V1 (by omega),List.nil_append];grind
def eu(L:List (List AV× Ex))(i:Nat):Nat:=((L.take i).map fun p=>p.2.size).sum
theorem mB(L:List (List AV× Ex)):eu L 0=0:=by simp[eu]
theorem fY{L:List (List AV× Ex)}(h:i<L.length):eu L (i+1)=eu L i+L[i].2.size:=by grind[List.take_append_getElem,eu]
theorem qy(L:List (List AV× Ex)):∀ i,i<=L.length->i<=eu L i
 |0,_=>J1 _
 |i+1,h=>by have h1:=qy L i (by omega);have h2:=(L[i]'(by omega)).2.size_pos;grind[fY]
theorem mP(l:ae):eu l.list l.list.length=l.size:=by simp[eu,ae.size_eq]
theorem nP(l r:List AV):takeN l.length (l++r)=some l:=by grind[Hy]
theorem oS(x:Ex)(r:List AV):takeN 7 (x.cells++r)=some x.cells:=by
 have:=nP x.cells r
 rwa [x.aO]at this
theorem eR{l:ae}(hp:l.pre m)(hz:m+7=z)(hi:i<l.list.length):∃ r,l.flat.drop (i*z)=l.list[i].1++(l.list[i].2.cells++r)/\l.list[i].1.length=m:=by rw[ae.sU];refine⟨_,Pr l.list i hi fun p h=>by rw[hp p h];grind,hp _ (List.getElem_mem hi)⟩
theorem ae.Ax:∀ {l:ae}{D:Nat},(∀ j (h:j<l.list.length),l.list[j].2.depth<=D)->l.depth<=D
 |.nil _,D,_=>J1 _
 |.cons p x l,D,h=>by
  have h0:x.depth<=D:=h 0 (by simp[ae.list]);have h1:l.depth<=D:=ae.Ax fun j hj=>h (j+1) (by simpa[ae.list]using hj)
  simp[ae.depth];omega
theorem ae.yu(l:ae)(z:Nat):bS (l.slice z)=true:=by
 cases l with
 |nil f=>cases f<;>simp[ae.slice]
 |cons p x l=>simp[ae.slice]
theorem Ex.dH:∀ {x:Ex},x.Wf->bq x.cells=true
 |.mk k nm num ps b a l,h=>by simp_all[Ex.Wf,Ex.cells,ae.yu]
theorem gX{m:List AV}(h1:bq l=true)(h2:bq m=true):bq (l++m)=true:=by
 induction l with
 |nil=>grind
 |cons v l ih =>simp_all
theorem jG{α:Type}:∀ {l vs:List α},vs.length=l.length->over l vs=vs
 |[],[],_=>rfl
 |x::l,v::vs,h=>by rw[Zu,jG (by simpa using h)]
theorem cO{z cells:List AV}(hl:cells.length=z.length)(hs:bq cells=true):∃ s',wt (s.aw z) s.next 0 cells=some s'/\s'.ce s.next=some (cells,s.next,[s.next])/\Kp [] [] s s'/\s.next<s'.next:=by have hw:=bP (cz (st:=s) z) 0 cells (by omega) hs;rw[gZ,jG hl]at hw;exact⟨_,hw,cj _ _ _,dz (.aw [] [] z) (.ax (A:=[s.next]) (B:=[s.next]) (by simp) (by simp)) (by simp) (by simp),Nat.lt_succ_self _⟩
theorem aJ:bH (.alloc e) P S t st=mY st (bm P e):=rfl
theorem aI(h:bp P ty=true)(hs:aD P ty=n):∀ (st:St) (r o:Nat) (l:List AV),l.length=n->storeAt P ty st (.p r o) (.ag l)=wt st r o l:=by
 intro st r o l hl;show wg P ty st r o (AV.ag l).cells=_
 simp[wg,h,hs,hl]
mutual
def bg:AV->Bool
 |.bad=>true
 |.un=>true
 |.b _=>true
 |.i _ _=>true
 |.s _=>true
 |.p _ _=>false
 |.pn=>true
 |.gp _=>true
 |.rp c=>aQ c
 |.sl _ _ _ _ _=>false
 |.sn=>true
 |.rs c _ _=>aQ c
 |.m _=>false
 |.mn=>true
 |.f fn x y=>ou fn&&(aQ x&&aQ y)
 |.fn0=>true
 |.ifc _ v=>bg v
 |.if0=>true
 |.ag l=>aQ l
 |.tu l=>aQ l
 |.c _=>false
 |.cn=>true
def aQ:List AV->Bool
 |[]=>true
 |v::l=>bg v&&aQ l
end
theorem JQ(h:∀ b o,E.imm b=some o->F.imm b=some o){b:Nat}{v:Value}(e:E.cell b o=some v):F.cell b o=some v:=by grind[Env.cell]
mutual
theorem Bs{E F:Env}(h:∀ b o,E.imm b=some o->F.imm b=some o):∀ {v:AV}{u:Value},Conc E v u->bg v=true->Conc F v u
 |_,_,.bad v,_=>.bad v
 |_,_,.un,_=>.un
 |_,_,.b x,_=>.b x
 |_,_,.i k n,_=>.i k n
 |_,_,.s bs,_=>.s bs
 |_,_,.p r o B e,k=>by simp[bg]at k
 |_,_,.pn,_=>.pn
 |_,_,.gp g,_=>.gp g
 |_,_,.rp c b o vs e hc,k=>.rp c b o vs (fun j v hv=>JQ h (e j v hv)) (ub h hc (by simpa[bg]using k))
 |_,_,.slk r o n z c a hn e,k=>by simp[bg]at k
 |_,_,.slu r o n z c a hn e,k=>by simp[bg]at k
 |_,_,.sn,_=>.sn
 |_,_,.rs c n z q b o vs hn e hc,k=>.rs c n z q b o vs hn (fun j v hv=>JQ h (e j v hv)) (ub h hc (by simpa[bg]using k))
 |_,_,.rs0 c z a q,_=>.rs0 c z a q
 |_,_,.m r B e,k=>by simp[bg]at k
 |_,_,.mn,_=>.mn
 |_,_,.f fn x y vx vy hf hx hy,k=>.f fn x y vx vy hf (ub h hx (by simp[bg]at k;grind)) (ub h hy (by simp[bg]at k;grind))
 |_,_,.yi r B e,k=>by simp[bg,ou]at k
 |_,_,.fn0,_=>.fn0
 |_,_,.ifc t v u e,k=>.ifc t v u (Bs h e (by simpa[bg]using k))
 |_,_,.if0,_=>.if0
 |_,_,.ag l vs e,k=>.ag l vs (ub h e (by simpa[bg]using k))
 |_,_,.tu l vs e,k=>.tu l vs (ub h e (by simpa[bg]using k))
 |_,_,.c r B e,k=>by simp[bg]at k
 |_,_,.cn,_=>.cn
theorem ub{E F:Env}(h:∀ b o,E.imm b=some o->F.imm b=some o):∀ {v:List AV}{u:List Value},aP E v u->aQ v=true->aP F v u
 |_,_,.nil,_=>.nil
 |_,_,.cons v l u us e t,k=>.cons v l u us (Bs h e (by simp[aQ]at k;grind)) (ub h t (by simp[aQ]at k;grind))
end
def ej(f:AV->Option AV):List AV->Option (List AV)
 |[]=>some []
 |v::l=>match f v with
  |some v'=>match ej f l with
   |some l'=>some (v'::l')
   |none=>none
  |none=>none
def Gb(X:List Nat)(st:St)(r g:Nat):Bool:=decide (r<st.next)&&decide (g<st.next)&&decide (r∉X)&&decide (g∉X)
def lY(X:List Nat)(st:St)(r:Nat):Option (List AV):=
 match st.ce r with
 |some (l,g,_)=>if Gb X st r g=true then some l else none
 |none=>none
def gJ(X:List Nat):Nat->St->AV->Option AV
 |0,_,_=>none
 |d+1,st,v=>if bg v=true then some v else match v with
  |.p r o=>match lY X st r with
   |some l=>match ej (gJ X d st) (l.drop o) with
    |some c=>some (.rp c)
    |none=>none
   |none=>none
  |.sl r o n z _=>if n=0 then some (.rs [] 0 z) else match lY X st r with
   |some l=>match ej (gJ X d st) ((l.drop o).take (n*z)) with
    |some c=>some (.rs c n z)
    |none=>none
   |none=>none
  |.ag l=>match ej (gJ X d st) l with
   |some l'=>some (.ag l')
   |none=>none
  |.tu l=>match ej (gJ X d st) l with
   |some l'=>some (.tu l')
   |none=>none
  |_=>none
theorem acR{f:AV->Option AV}:∀ {l l':List AV},ej f l=some l'->l'.length=l.length
 |[],l',h=>by cases h;rfl
 |v::l,l',h=>by
  simp[ej]at h;cases hv:f v with
  |none=>grind
  |some v' =>
   rw[hv]at h;cases hl:ej f l with
   |none=>grind
   |some l2 =>rw[hl]at h;cases h;simp[acR hl]
theorem rD{f:AV->Option AV}{E F:Env}(hf:∀ v u v',Conc E v u->f v=some v'->Conc F v' u):∀ {l l':List AV}{us:List Value},aP E l us->ej f l=some l'->aP F l' us
 |[],l',us,hc,h=>by cases h;cases hc;exact .nil
 |v::l,l',us,hc,h=>by
  simp[ej]at h;cases hc with
  |cons _ _ u us h1 h2 =>
  cases hv:f v with
  |none=>grind
  |some v' =>
   rw[hv]at h;cases hl:ej f l with
   |none=>grind
   |some l2 =>rw[hl]at h;cases h;exact .cons _ _ _ _ (hf _ _ _ h1 hv) (rD hf h2 hl)
theorem ET{X:List Nat}(h:lY X st r=some l):∃ g al,st.ce r=some (l,g,al)/\r<st.next/\g<st.next/\r∉X/\g∉X:=by grind[lY,Gb]
theorem CD{X:List Nat}(h:st.ce r=some (l,g,al))(h1:r<st.next)(h2:g<st.next)(h3:r∉X)(h4:g∉X):lY X st r=some l:=by grind[lY,Gb]
theorem N3(hr:Rel E H st)(hc:st.ce r=some (l,g,al)){B:fy}(hB:E.phi r=some B):
  ∃ vs:List Value,aP E l vs/\∀ (top j:Nat) (v:Value),vs[j]? = some v->(jF H top).cell B.b (j+B.d)=some v:=by
 obtain⟨ha,-,-,-⟩:=St.pR hc;obtain⟨B',hB',cs,t,fz,h1,h2,h3,h4,h5⟩:=hr.rows _ _ ha;grind[Env.cell,jF]
theorem Zt{X:List Nat}(hr:Rel E H st)(top:Nat):∀ (d:Nat) (v:AV) (u:Value) (v':AV),Conc E v u->gJ X d st v=some v'->Conc (jF H top) v' u:=by
 intro d;induction d with
 |zero=>intro v u v' _ h;cases h
 |succ d ih =>
  intro v u v' hc h;unfold gJ at h;by_cases hp:bg v=true
  ·rw[if_pos hp]at h;cases h;exact Bs (fun b o hb=>hr.imm b o hb) hc hp
  ·rw[if_neg hp]at h;cases v<;>simp at h<;>first|(cases h)|skip
   case p r o =>
    cases hl:lY X st r with
    |none=>grind
    |some l =>
     rw[hl]at h;simp only at h;cases hk:ej (gJ X d st) (l.drop o) with
     |none=>grind
     |some c =>
      rw[hk]at h;cases h;obtain⟨g,al,hce,-⟩:=ET hl;cases hc with
      |p _ _ B hB =>
      obtain⟨vs,k1,k2⟩:=N3 hr hce hB;refine .rp c B.b (o+B.d) (vs.drop o) (fun j v hv=>?_) (rD ih (k1.drop o) hk);grind
   case sl r o n z c =>
    by_cases hn:n=0
    ·subst hn;cases h;cases hc with
     |slk _ _ _ _ c a _ _=>exact .rs0 _ _ _ _
     |slu _ _ _ _ c a _ _=>exact .rs0 _ _ _ _
    ·rw[if_neg hn]at h;cases hl:lY X st r with
     |none=>grind
     |some l =>
      rw[hl]at h;simp only at h;cases hk:ej (gJ X d st) ((l.drop o).take (n*z)) with
      |none=>grind
      |some c' =>
       obtain⟨g,al,hce,-⟩:=ET hl;have key:∀ (B:fy),E.phi r=some B->∀ k,n<=k->Conc (jF H top) (.rs c' n z) (.slice (some ⟨B.b,o+B.d,none⟩) n k):=by intro B hB k hnk;obtain⟨vs,k1,k2⟩:=N3 hr hce hB;refine .rs c' n z k B.b (o+B.d) ((vs.drop o).take (n*z)) hnk (fun j v hv=>?_) (rD ih ((k1.drop o).take (n*z)) hk);grind
       cases hc with
       |slk _ _ _ _ q a hnq hB =>grind
       |slu _ _ _ _ q a hnq hB =>grind
   case ag l =>
    cases hk:ej (gJ X d st) l with
    |none=>grind
    |some c =>
     rw[hk]at h;cases h;cases hc with
     |ag _ vs e=>exact .ag _ _ (rD ih e hk)
   case tu l =>
    cases hk:ej (gJ X d st) l with
    |none=>grind
    |some c =>
     rw[hk]at h;cases h;cases hc with
     |tu _ vs e=>exact .tu _ _ (rD ih e hk)
theorem mA{f g:AV->Option AV}(hf:∀ v v',f v=some v'->g v=some v'):∀ {l l':List AV},ej f l=some l'->ej g l=some l'
 |[],l',h=>h
 |v::l,l',h=>by
  simp[ej]at h|-;cases hv:f v with
  |none=>grind
  |some v' =>
   cases hl:ej f l with
   |none=>grind
   |some l2 =>rw[mA hf hl];grind
theorem yq{X:List Nat}(hce:∀ r l,lY X st r=some l->lY X' st' r=some l):∀ (d d':Nat),d<=d'->∀ (v v':AV),gJ X d st v=some v'->gJ X' d' st' v=some v':=by
 intro d;induction d with
 |zero=>intro d' _ v v' h;cases h
 |succ d ih =>
  intro d' hd v v' h;obtain⟨d',rfl⟩:∃ e,d'=e+1:=⟨d'-1,by omega⟩;have ih':=ih d' (by omega);unfold gJ at h|-;by_cases hp:bg v=true
  ·grind
  ·rw[if_neg hp]at h|-;cases v<;>simp at h|-<;>first|(cases h)|skip
   case p r o =>
    cases hl:lY X st r with
    |none=>grind
    |some l =>
     rw[hl]at h;rw[hce _ _ hl];simp only at h|-;cases hk:ej (gJ X d st) (l.drop o) with
     |none=>grind
     |some c=>rw[mA ih' hk];grind
   case sl r o n z c =>
    by_cases hn:n=0
    ·grind
    ·cases hl:lY X st r with
     |none=>grind
     |some l =>
      rw[hl]at h;rw[hce _ _ hl];simp only at h|-;cases hk:ej (gJ X d st) ((l.drop o).take (n*z)) with
      |none=>grind
      |some c=>rw[mA ih' hk];grind
   case ag l =>
    cases hk:ej (gJ X d st) l with
    |none=>grind
    |some c=>rw[mA ih' hk];grind
   case tu l =>
    cases hk:ej (gJ X d st) l with
    |none=>grind
    |some c=>rw[mA ih' hk];grind
theorem aad{X B:List Nat}(k:Kp A B st st')(h1:∀ x,x∈A->x∈X)(h2:∀ x,x∈B->x∈X)(h:lY X st r=some l):lY X st' r=some l:=by obtain⟨g,al,hc,r1,g1,r2,g2⟩:=ET h;exact CD (k.ce hc r1 g1 (fun hh=>r2 (h1 _ hh)) (fun hh=>g2 (h2 _ hh))) (J3 r1 k.next) (J3 g1 k.next) r2 g2
theorem VS{X:List Nat}(hs:∀ x,x∈X'->x∈X)(h:lY X st r=some l):lY X' st r=some l:=by grind[ET,CD]
def gF(X:List Nat)(st:St)(v v':AV):Prop:=∃ d,gJ X d st v=some v'
def gH(X:List Nat)(st:St)(l l':List AV):Prop:=∃ d,ej (gJ X d st) l=some l'
section
variable {X B : List Nat}{v' : AV}{l' : List AV}
theorem gF.keep(h:gF X st v v')(k:Kp A B st st')(h1:∀ x,x∈A->x∈X)(h2:∀ x,x∈B->x∈X):gF X st' v v':=by obtain⟨d,h⟩:=h;exact⟨d,yq (fun r l=>aad k h1 h2) d d (Q3 _) _ _ h⟩
theorem gH.sub(h:gH X st l l')(hs:∀ x,x∈X'->x∈X):gH X' st l l':=by obtain⟨d,h⟩:=h;exact⟨d,mA (yq (fun r l=>VS hs) d d (Q3 _)) h⟩
theorem gF.pure(h:bg v=true):gF X st v v:=⟨1,by unfold gJ;grind⟩
theorem gH.nil:gH X st [] []:=⟨0,rfl⟩
theorem gH.cons(h:gF X st v v')(k:gH X st l l'):gH X st (v::l) (v'::l'):=by obtain⟨d,h⟩:=h;obtain⟨e,k⟩:=k;refine⟨max d e,?_⟩;simp[ej];rw[yq (fun r l h=>h) d (max d e) (by omega) _ _ h,mA (yq (fun r l h=>h) e (max d e) (by omega)) k]
theorem gH.pure:∀ {l:List AV},aQ l=true->gH X st l l
 |[],_=>.nil
 |v::l,h=>by simp[aQ]at h;exact .cons (.pure h.1) (.pure h.2)
theorem gF.ag(h:gH X st l l'):gF X st (.ag l) (.ag l'):=by
 obtain⟨d,h⟩:=h;refine⟨d+1,?_⟩;unfold gJ;by_cases hp:bg (.ag l)=true
 ·have e:l'=l:=by
   have hp':aQ l=true:=by simpa[bg]using hp
   clear hp
   revert l'
   induction l with
   |nil=>intro l' h;cases h;rfl
   |cons v l ih =>
    intro l' h;simp[aQ]at hp';simp[ej]at h;cases d with
    |zero=>simp[gJ]at h
    |succ d =>
    have:gJ X (d+1) st v=some v:=by unfold gJ;grind
    grind
  grind
 grind
theorem gF.ptr(hc:st.ce r=some (l,g,al))(h1:r<st.next)(h2:g<st.next)(h3:r∉X)(h4:g∉X)(h:gH X st l l'):gF X st (.p r 0) (.rp l'):=by obtain⟨d,h⟩:=h;refine⟨d+1,?_⟩;unfold gJ;rw[if_neg (by simp[bg])];simp[CD hc h1 h2 h3 h4,h]
theorem gF.slice{c:Option Nat}(hc:st.ce r=some (l,g,al))(hl:n*z=l.length)(h1:r<st.next)(h2:g<st.next)(h3:r∉X)(h4:g∉X)(h:gH X st l l')(hn:n≠0):gF X st (.sl r 0 n z c) (.rs l' n z):=by obtain⟨d,h⟩:=h;refine⟨d+1,?_⟩;unfold gJ;rw[if_neg (by simp[bg])];simp[if_neg hn,CD hc h1 h2 h3 h4,hl,h]
theorem gF.tP{c:Option Nat}:gF X st (.sl r o 0 z c) (.rs [] 0 z):=⟨1,by grind[gJ,bg]⟩
end
open Classical in
def ya(st:St)(xs:List AV):Option (List AV):=if h:∃ ys,gH [] st xs ys then some h.choose else none
theorem Yf(h:ya st xs=some ys):gH [] st xs ys:=by
 unfold ya at h;split at h
 ·rename_i hh;cases h;exact hh.choose_spec
 ·cases h
theorem gH.uniq{X:List Nat}{a b:List AV}(h:gH X st l a)(k:gH X st l b):a=b:=by obtain⟨d,h⟩:=h;obtain⟨e,k⟩:=k;have h':=mA (yq (X:=X) (fun r l h=>h) d (max d e) (by omega)) h;have k':=mA (yq (X:=X) (fun r l h=>h) e (max d e) (by omega)) k;grind
theorem abI{X:List Nat}(h:gH X st xs ys):ya st xs=some ys:=by have h':gH [] st xs ys:=h.sub (by simp);unfold ya;have hh:∃ ys,gH [] st xs ys:=⟨ys,h'⟩;rw[dif_pos hh];exact congrArg some (hh.choose_spec.uniq h')
def zg:AV->Bool
 |.b _=>true
 |.i _ _=>true
 |.s _=>true
 |_=>false
theorem XU(h:Conc E v u)(hp:zg v=true):Conc F v u:=by cases h<;>first|(cases hp;done)|constructor
def ym(S0 S:Self)(f:FuncId)(xs:List AV)(st:St):aR :=
 match ya st xs with
 |some ys=>match S0.call f ys aK with
  |some (v,_)=>if zg v=true then some (v,st) else S.call f xs st
  |none=>S.call f xs st
 |none=>S.call f xs st
def ic(G:FuncId->Bool)(S0 S:Self):Self:=⟨fun f xs st=>if G f=true then ym S0 S f xs st else S.call f xs st,S.code,S.dcall⟩
def Lg(G:FuncId->Bool)(S:Self):Self:=ic G S S
theorem Ja{f:FuncId}{X:List Nat}{s1:St}(hG:G f=true)(hx:gH X st xs ys)(hc:S0.call f ys aK=some (v,s1))(hv:zg v=true):(ic G S0 S).call f xs st=some (v,st):=by
 show(if G f=true then ym S0 S f xs st else S.call f xs st)=_
 unfold ym;rw[abI hx];grind
theorem l9{f:FuncId}(hG:G f=false):(ic G S0 S).call f xs st=S.call f xs st:=by
 show(if G f=true then ym S0 S f xs st else S.call f xs st)=_
 grind
theorem Hx(S0 S:Self)(hS0:cq P S0)(hS:cq P S):cq P (ic G S0 S):=by
 refine⟨hS.ng,hS.mixed,⟨fun f xs st=>?_,hS.up.code,hS.up.dcall⟩,fun {ks E w st st' f xs us v} hr hc h hn=>?_,fun {ks E w st nt c t a b} k hb hr ht hm hl=>hS.code k hb hr ht hm hl,hS.dcall⟩
 ·unfold ic;simp only;split
  ·unfold ym;split
   ·split
    ·split
     ·exact gR
     ·exact hS.up.call f xs st
    ·exact hS.up.call f xs st
   ·exact hS.up.call f xs st
  ·exact hS.up.call f xs st
 ·unfold ic at h;simp only at h;split at h
  case isFalse=>exact hS.call hr hc h hn
  unfold ym at h;cases hx:ya st xs with
  |none=>rw[hx]at h;exact hS.call hr hc h hn
  |some ys =>
   rw[hx]at h;simp only at h;cases hv:S0.call f ys aK with
   |none=>rw[hv]at h;exact hS.call hr hc h hn
   |some p =>
    obtain⟨v1,s1⟩:=p;rw[hv]at h;simp only at h;by_cases hp:zg v1=true
    ·rw[if_pos hp]at h;cases h;obtain⟨d,hd⟩:=Yf hx;have hc':aP (jF w.heap s1.next) ys us:=rD (fun v u v' h1 h2=>Zt hr s1.next d v u v' h1 h2) hc hd;obtain⟨E',w',cv,h1,h2,h3⟩:=hS0.call (KP w.heap s1.next) hc' hv (Q3 _);refine⟨E,w',cv,h1,⟨Step.grow hr h2.fr.size (fun i hi=>h2.fr.keep i hi ?_),h2.os,h2.out⟩,XU h3 hp⟩;rintro⟨r,row,B,ha,_,_⟩;have:=Rel.pc ha;rw[qz]at this;grind
    ·rw[if_neg hp]at h;exact hS.call hr hc h hn
theorem abr(S:Self)(hS:cq P S):cq P (Lg G S):=Hx S S hS hS
abbrev ah:=List Nat
def fD:AV->ah
 |.s l=>l
 |_=>[]
def intOf:AV->Int
 |.i _ n=>n
 |_=>0
def ba:AV->List ah
 |.rs c _ _=>c.map fD
 |_=>[]
def jY(v:AV):Prop:=∃ l:List ah,de v (l.map .s)/\l.length<=9223372036854775807
theorem Je{l:List ah}(h:de v (l.map .s)):ba v=l:=by
 rcases h with ⟨rfl,h⟩|h
 ·have:l=[]:=by simp_all
  rw[this];rfl
 ·rw[h];show(l.map AV.s).map fD=l
  rw[List.map_map];exact List.map_id'' (fun _=>rfl) l
theorem jY.sl(h:jY v):de v ((ba v).map .s)/\(ba v).length<=9223372036854775807:=by obtain⟨l,h1,h2⟩:=h;rw[Je h1];grind
theorem jD:∀ l:List ah,aQ (l.map .s)=true
 |[]=>rfl
 |s::l=>by simp[aQ,bg,jD l]
theorem uP:∀ {l m:List AV},aQ (l++m)=(aQ l&&aQ m)
 |[],m=>by simp[aQ]
 |v::l,m=>by simp[aQ,uP,Bool.and_assoc]
theorem JV:∀ {l:List AV}{n:Nat},aQ l=true->aQ (l.drop n)=true
 |[],n,h=>by grind
 |v::l,0,h=>h
 |v::l,n+1,h=>by simp[aQ]at h;simpa using JV h.2
theorem de.pure(h:de v l)(hl:aQ l=true):bg v=true:=by
 rcases h with ⟨rfl,-⟩|rfl
 ·rfl
 ·simpa[bg]using hl
theorem jY.pure{v:AV}(h:jY v):bg v=true:=h.sl.1.pure (jD _)
def eO:Nat->List AV->Prop
 |0,p=>p=[]
 |1,p=>∃ s:ah,p=[.s s]
 |_,p=>∃ (k:Int) (n:ah) (m:Int) (vs:AV),p=[.i .i64 k,.s n,.i .i64 m,vs]/\jY vs
def eD:Nat->Nat
 |0=>0
 |1=>1
 |_=>4
theorem eO.len(h:eO m p):p.length=eD m:=by unfold eO at h;grind[eD]
theorem eO.sc(h:eO m p):bq p=true:=by
 unfold eO at h;split at h
 ·simp_all
 ·obtain⟨s,rfl⟩:=h;rfl
 ·obtain⟨k,n,m',vs,rfl,hv⟩:=h;have:bS vs=true:=by
   rcases hv.sl.1 with ⟨h,-⟩|h<;>rw[h]<;>rfl
  simp_all
theorem eO.pure{m:Nat}{p:List AV}(h:eO m p):aQ p=true:=by
 unfold eO at h;split at h
 ·rw[h];rfl
 ·obtain⟨s,rfl⟩:=h;rfl
 ·obtain⟨k,n,m',vs,rfl,hv⟩:=h;simp[aQ,bg,hv.pure]
mutual
def Ex.Ty:Ex->Prop
 |.mk k _ _ ps b a l=>(-9223372036854775808<=k/\k<=9223372036854775807)/\jY ps/\b.Ty 1/\a.Ty 0/\l.Ty 4
def ae.Ty:ae->Nat->Prop
 |.nil _,_=>True
 |.cons p x l,m=>eO m p/\x.Ty/\l.Ty m
end
theorem ae.cU:∀ {l:ae}{m:Nat},l.Ty m->∀ p∈l.list,eO m p.1/\p.2.Ty
 |.nil _,_,_,p,hp=>by simp[ae.list]at hp
 |.cons q x l,m,h,p,hp=>by
  rcases Q2.1 hp with rfl|hp
  ·exact⟨h.1,h.2.1⟩
  ·exact ae.cU h.2.2 p hp
theorem ae.Af:∀ {l:ae}{m:Nat},(∀ p∈l.list,eO m p.1/\p.2.Ty)->l.Ty m
 |.nil _,_,_=>by simp[ae.Ty]
 |.cons q x l,m,h=>by exact⟨(h (q,x) (by simp[ae.list])).1,(h (q,x) (by simp[ae.list])).2,ae.Af fun p hp=>h p (by simp[ae.list,hp])⟩
theorem ae.Ty.pre{l:ae}{m:Nat}(h:l.Ty m):l.pre (eD m):=fun p hp=>(ae.cU h p hp).1.len
mutual
theorem Ex.Ty.wf:∀ {x:Ex},x.Ty->x.Wf
 |.mk k nm num ps b a l,h=>by refine⟨h.1,⟨h.2.2.1.pre,h.2.2.2.1.pre,h.2.2.2.2.pre⟩,⟨ae.Ty.wf h.2.2.1,ae.Ty.wf h.2.2.2.1,ae.Ty.wf h.2.2.2.2⟩,?_⟩;rcases h.2.1.sl.1 with ⟨h,-⟩|h<;>rw[h]<;>rfl
theorem ae.Ty.wf:∀ {l:ae}{m:Nat},l.Ty m->l.Wf
 |.nil _,_,_=>by simp[ae.Wf]
 |.cons p x l,m,h=>by exact⟨⟨Ex.Ty.wf h.2.1,h.1.sc⟩,ae.Ty.wf h.2.2⟩
end
mutual
theorem Ex.nX:∀ {x:Ex},x.Ty->aQ x.cells=true
 |.mk k nm num ps b a l,h=>by simp[Ex.cells,aQ,bg,h.2.1.pure,ae.mg h.2.2.1 8,ae.mg h.2.2.2.1 7,ae.mg h.2.2.2.2 11]
theorem ae.oF:∀ {l:ae}{m:Nat},l.Ty m->aQ l.flat=true
 |.nil _,_,_=>by simp[ae.flat,aQ]
 |.cons p x l,m,h=>by simp[ae.flat,uP,h.1.pure,Ex.nX h.2.1,ae.oF h.2.2]
theorem ae.mg:∀ {l:ae}{m:Nat},l.Ty m->∀ z,bg (l.slice z)=true
 |.nil f,_,_,z=>by cases f<;>simp[ae.slice,bg,aQ]
 |.cons p x l,m,h,z=>by simp[ae.slice,bg,uP,h.1.pure,Ex.nX h.2.1,ae.oF h.2.2]
end
def named(s:ah):Bool:=decide (1<=s.length)&&(decide (s.length<=65536)&&s.all fun c=>decide (33<=c)&&decide (c<=126))
def eS(l:List ah):Bool:=l.all named&&decide l.Nodup
def gn(p:List AV× Ex):ah:=fD (p.1.headD .un)
def ae.names(l:ae):List ah:=l.list.map gn
structure ie where
 k:Int
 n:ah
 m:Int
 vs:List ah
def cD(p:List AV× Ex):ie:=⟨intOf (p.1.getD 0 .un),fD (p.1.getD 1 .un),intOf (p.1.getD 2 .un),ba (p.1.getD 3 .un)⟩
def ae.bN(l:ae):List ie:=l.list.map cD
