/-
  Code: the machine goes where the abstract run goes.
-/
import Derived.Test.YtbemeikjepjhoaaGreatDoorS21
namespace Go.Ev
noncomputable section
section
variable {P : Program} {S : Self} {w : World} {E : Env} {st : St} {nt n0 : Nat} {b : Frame}
theorem finish_rangeFunc {a:Act} {l:Nat} {k:List Item} {v:Value}:(b.atR a (.inRangeFunc l :: k)).finish v=b.atR a (.endRangeFunc l :: k):=rfl
theorem stepR_rangeFunc {a:Act} {f:Operand} {ps:Array Tmp} {x y:Code} {k:List Item} {cs:List Frame} {g:FuncId} {F C:Array Value} (hb:b.roundOf=none) (hf:a.eval f = .func (.func g) F C)
  (hc:(callFunc g (F.push (.func (.yield (w.heap.size+1)) #[] #[])++C)).run P { w with heap:=(w.heap.push (.deferred (some []))).push (.loop { state:=.ready,pending:=none,fn:=b.fn,tmps:=a.tmps,params:=ps,assign:=x,body:=y,defers:=w.heap.size }) } = .ok (.enter g (F.push (.func (.yield (w.heap.size+1)) #[] #[])++C)) { w with heap:=(w.heap.push (.deferred (some []))).push (.loop { state:=.ready,pending:=none,fn:=b.fn,tmps:=a.tmps,params:=ps,assign:=x,body:=y,defers:=w.heap.size }) }) :
  step P (lone (b.atR a (.code (.rangeFunc f ps x y) :: k)) cs w) =
   .next (lone (Frame.enter P g (F.push (.func (.yield (w.heap.size+1)) #[] #[])++C) .normal) (b.atR { a with defers:={ target:=.collected w.heap.size,args:=#[] } :: a.defers } (.inRangeFunc (w.heap.size+1) :: k) :: cs)
    { w with heap:=(w.heap.push (.deferred (some []))).push (.loop { state:=.ready,pending:=none,fn:=b.fn,tmps:=a.tmps,params:=ps,assign:=x,body:=y,defers:=w.heap.size }) }):=by
 refine step_lone_go ?_
 have he:=fun d=>Frame.eval_atR b { a with defers:=d } (.inRangeFunc (w.heap.size+1) :: k)
 have hf':∀ d,Frame.eval { fn:=b.fn,tmps:=a.tmps,todo:=.inRangeFunc (w.heap.size+1) :: k,defers:=d,mode:=.run,kind:=b.kind,roundOf:=none } f = .func (.func g) F C:=by
  intro d
  have:=congrFun (he d) f
  simp only [Frame.atR,hb] at this
  rw [this]
  cases f <;> exact hf
 have hev:∀ (fr:Frame) (v:Value),fr.eval (.const v)=v:=fun _ _=>rfl
 have hc':(callFunc g (F.push (.func (.yield (w.heap.size+1)) #[] #[])++C)).run P ((w.alloc (.deferred (some []))).alloc (.loop { state:=.ready,pending:=none,fn:=b.fn,tmps:=a.tmps,params:=ps,assign:=x,body:=y,defers:=w.heap.size })) = .ok (.enter g (F.push (.func (.yield (w.heap.size+1)) #[] #[])++C)) ((w.alloc (.deferred (some []))).alloc (.loop { state:=.ready,pending:=none,fn:=b.fn,tmps:=a.tmps,params:=ps,assign:=x,body:=y,defers:=w.heap.size })):=hc
 simp [stepG,stepG.exec,stepG.apply,Frame.atR,hb,Sem.runT_eq,Instr.enterLoop,Sem.run_bind,resolve,hf',hev,Deferred.ofValue,invoke,hc']
 rfl
theorem stepR_endRangeFunc {a:Act} {l:Nat} {k:List Item} {cs:List Frame} {w':World} (h:(Instr.endLoop l).run P w = .ok none w') :
  step P (lone (b.atR a (.endRangeFunc l :: k)) cs w) = .next (lone (b.atR a k) cs w') :=
 step_lone_go (by simp [stepG,stepG.exec,Frame.atR,Sem.runT_eq,h])
theorem range_spec {x:Ctx} (hxP:x.P=P) (hS:SelfOK P x.S) {f:Operand} {ps:Array Tmp} {ca cb:Code} {t:Tr AV} {a:Act} {k:List Item} (hb:b.roundOf=none) (hr:Rel E w.heap st) (ht:ConcT E x.nt t a.tmps)
  (hm:Marks n0 b.defers E w.heap st a.defers) (hn0:n0≤w.heap.size) (hl:(rangeC x ps ca cb t st (evO t f)).lim E.top) :
  Arr P n0 E x.nt b w st (fun cs=>lone (b.atR a (.code (.rangeFunc f ps ca cb) :: k)) cs w) k (rangeC x ps ca cb t st (evO t f)):=by
 subst hxP
 unfold rangeC at hl ⊢
 split
 case h_2=>trivial
 rename_i g first captured hf
 have hcf:=evO_conc ht f
 rw [hf] at hcf
 rw [hf] at hl
 simp only at hl
 cases hcf':callF0 x.P x.S g (first++([.f (.yield st.next) [] []]++captured)) (st.new (.lp t x.nt ps.toList ca cb)) with
 | none=>trivial
 | some p =>
  obtain ⟨v,st'⟩:=p
  rw [hcf'] at hl
  simp only at hl ⊢
  unfold rangeEnd at hl ⊢
  split
  case h_2=>trivial
  rename_i t' nt' ps' xa xb hg
  rw [hg] at hl
  have hn:st'.next≤E.top:=hl
  have hup:=up_callF0 hS.up _ _ hcf'
  have hup':st.next+1≤st'.next:=hup
  generalize hev:a.eval f=fv at hcf
  cases hcf with
  | f _ _ _ vx vy _ hvx hvy =>
   let mk:Deferred:={ target:=.collected w.heap.size,args:=#[] }
   let lpo:Obj:=.loop { state:=.ready,pending:=none,fn:=b.fn,tmps:=a.tmps,params:=ps,assign:=ca,body:=cb,defers:=w.heap.size }
   let w1:World:={ w with heap:=w.heap.push (.deferred (some [])) }
   let w2:World:={ w with heap:=(w.heap.push (.deferred (some []))).push lpo }
   have s1:StepW E E w w1 st st:=.of (Step.other hr _)
   have hsz:(w.heap.push (.deferred (some []))).size=w.heap.size+1:=by simp
   let B:Blk:=⟨(w.heap.push (.deferred (some []))).size,0,0⟩
   have s2:StepW E (E.bind st.next B) w1 w2 st (st.new (.lp t x.nt ps.toList ca cb)):=by
    refine StepW.of (H:=(w.heap.push (.deferred (some []))).push lpo) <| Step.newRow s1.rel (by omega) lpo _ (fun _ _ e=>by cases e) (fun F hF=>⟨b.fn,a.tmps,w.heap.size,?_,ht.mono hF⟩)
    simp [lpo]
   have s12:=s1.trans s2
   have hBphi:(E.bind st.next B).phi st.next=some B:=Env.bind_self
   have hy:Conc (E.bind st.next B) (.f (.yield st.next) [] []) (.func (.yield (w.heap.size+1)) #[] #[]):=by
    have:=Conc.yi (E:=E.bind st.next B) st.next B hBphi
    have e:B.b=w.heap.size+1:=hsz
    rw [← e]; exact this
   obtain ⟨E3,w3,cv,s3,hcv,hrun,hcall⟩:=callF_enter hS s2.rel ((hvx.mono s12.le).append (ConcL.append (.cons _ _ _ _ hy .nil) (hvy.mono s12.le))) hcf' (by rw [s12.top]; exact hn)
   have sAll:=s12.trans s3
   have hB3:E3.phi st.next=some B:=s3.le.phi _ _ hBphi
   have halive:st'.alive st.next=some (.lp t' nt' ps' xa xb):=by unfold St.alive; rw [hg]
   obtain ⟨B',hB',f',tmps',d',hH',hT'⟩:=s3.rel.rows _ _ halive
   rw [hB3] at hB'; cases hB'
   have hun:=drop_unowned s3.rel halive (fun _ _ e=>by cases e) hB3
   have hBge:w.heap.size≤B.b:=by show w.heap.size≤(w.heap.push _).size; omega
   let lpx:Obj:=.loop { state:=.exhausted,pending:=none,fn:=f',tmps:=tmps',params:=ps'.toArray,assign:=xa,body:=xb,defers:=d' }
   let w4:World:={ w3 with heap:=w3.heap.setIfInBounds B.b lpx }
   have sD:Step E E3 w.heap w3.heap st (st'.drop st.next):=sAll.toStep.trans (Step.drop s3.rel _)
   have s4:StepW E E3 w w4 st (st'.drop st.next):=⟨sD.poke (.inr hBge) hun lpx (TyKeep.setNon (by rw [hH']; exact fun _ _ _ e=>by cases e)),sAll.os,sAll.out⟩
   have hend:(Instr.endLoop (w.heap.size+1)).run x.P w3 = .ok none w4:=by
    have hH'':w3.heap[w.heap.size+1]? = some (.loop { state:=.ready,pending:=none,fn:=f',tmps:=tmps',params:=ps'.toArray,assign:=xa,body:=xb,defers:=d' }):=by
     have:B.b=w.heap.size+1:=hsz
     rw [← this]; exact hH'
    have e:B.b=w.heap.size+1:=hsz
    simp [Instr.endLoop,Sem.run_bind,run_getLoop hH'',Result.andThen_ok,run_setLoop hH'',w4,lpx,e]
   have hmkun:¬ Owned E st w.heap.size:=by
    rintro ⟨r,row,C,ha,hC,hb'⟩
    obtain ⟨C',hC',hR⟩:=hr.rows _ _ ha
    rw [hC] at hC'; cases hC'
    have:=hR.lt; omega
   obtain ⟨ms,hms,hm⟩:=hm
   have hmk2:Marks0 n0 (E.bind st.next B) w2.heap (st.new (.lp t x.nt ps.toList ca cb)) (mk :: ms):=by
    refine ⟨List.Pairwise.cons ?_ hm.1,?_⟩
    ·intro e he hme
     obtain ⟨r,_,h1,h2,_⟩:=hm.2 e he
     rw [← hme] at h1
     have hrr:w.heap.size=r:=by simpa [mk] using h1
     rw [← hrr] at h2
     simp at h2
    ·intro e he
     rcases List.mem_cons.1 he with rfl | he
     ·refine ⟨w.heap.size,hn0,rfl,?_,?_⟩
      ·show ((w.heap.push (.deferred (some []))).push lpo)[w.heap.size]? = _
       rw [Array.getElem?_push,if_neg (by simp)]
       simp
      ·refine s2.un (b:=w.heap.size) ?_ (hr.un_fresh (Nat.le_refl _) hmkun)
       show w.heap.size < (w.heap.push _).size
       omega
     ·exact (hm.step s12.toStep).2 e he
   have hmk4:Marks n0 b.defers E3 w4.heap (st'.drop st.next) (mk :: a.defers):=by
    have h3:=(hmk2.step s3.toStep).step (Step.drop s3.rel st.next)
    refine ⟨mk :: ms,by rw [hms]; rfl,h3.1,fun e he=>?_⟩
    obtain ⟨r,h0,h1,h2,h4⟩:=h3.2 e he
    refine ⟨r,h0,h1,?_,h4⟩
    have hne:B.b≠r:=by
     rintro rfl; rw [hH'] at h2; cases h2
    show (w3.heap.setIfInBounds B.b lpx)[r]? = _
    rw [Array.getElem?_setIfInBounds_ne hne]; exact h2
   refine ⟨E3,{ a with defers:=mk :: a.defers },w4,s4,ht.mono sAll.le,hmk4,fun cs=>?_⟩
   have hargs:(vx++([Value.func (Fn.yield (w.heap.size+1)) #[] #[]]++vy)).toArray=vx.toArray.push (.func (.yield (w.heap.size+1)) #[] #[])++vy.toArray:=by simp
   rw [hargs] at hrun hcall
   refine (Steps.one (stepR_rangeFunc hb hev ?_)).trans ?_
   ·exact hrun
   ·obtain ⟨fr,h1,h2,h3⟩:=hcall (b.atR { a with defers:=mk :: a.defers } (.inRangeFunc (w.heap.size+1) :: k) :: cs)
    refine h1.trans ?_
    refine (Steps.one (step_leave_returned h3)).trans ?_
    rw [finish_rangeFunc]
    exact Steps.one (stepR_endRangeFunc hend)
theorem allocTy_spec {x:Ctx} (hS:SelfOK x.P x.S) {id:Nat} {ops:Array Oper} {o:Oper} {e:TypeId} {d:Tmp} {t:Tr AV} {a:Act} {k:List Item} (hr:Rel E w.heap st) (ht:ConcT E x.nt t a.tmps) (hm:Marks n0 b.defers E w.heap st a.defers)
  (heq:ops.toList=[o]) (hop:o.op = .alloc e) (hdst:o.dst=some d) {t1:Tr AV} {st1:St} (he:evOps x.P x.S x.nt ops ops.toList t st = .nx t1 st1) {r q:Nat} (hv:evO t1 (.tmp d) = .p r q) (hl:st1.next+1≤E.top) :
  Arr x.P n0 E x.nt b w st (fun cs=>lone (b.atR a (.code (.region id ops false) :: k)) cs w) k (.nx t1 (st1.new (.ty e r true))):=by
 have hoi:ops[0]? = some o:=by rw [← Array.getElem?_toList,heq]; rfl
 rw [heq] at he
 have e1:evOps x.P x.S x.nt ops [o] t st=onG x.P x.S x.nt o t st (evOps x.P x.S x.nt ops []) (guardOk ops t o):=rfl
 rw [e1] at he
 have put:∀ {v:AV} {t':Tr AV},putT x.nt t (some d) v=some t'→evO t' (.tmp d)=v:=by
  intro v t' h
  have h:@Bool.rec (fun _=>Option (Tr AV)) none (v.seen fun v=>some (t.set d (some v))) (Nat.blt d x.nt)=some t':=h
  obtain ⟨-,h⟩:=brec h
  rw [AV.seen_eq] at h
  cases h
  show (match (t.set d (some v)).get d with | some v=>v | none=>.un)=v
  rw [Tr.get_set,if_pos rfl]
 cases hg:guardOk ops t o with
 | none=>rw [hg] at he; cases he
 | some g =>
  rw [hg] at he
  have hw:=guard_spec ht hg
  cases g with
  | false =>
   have he:onT (putT x.nt t o.dst .un) (fun t=>evOps x.P x.S x.nt ops [] t st) = .nx t1 st1:=he
   rw [hdst] at he
   cases hp:putT x.nt t (some d) .un with
   | none=>rw [hp] at he; cases he
   | some t' =>
    rw [hp] at he
    simp only [onT,Tr.seen_eq] at he
    cases he
    rw [put hp] at hv; cases hv
  | true =>
   have he:onV x.nt t o.dst (evOp x.P x.S t st o) (evOps x.P x.S x.nt ops []) = .nx t1 st1:=he
   have hev:evOp x.P x.S t st o=allocC st (zeroC x.P e):=by unfold evOp; rw [hop]; rfl
   rw [hev] at he
   cases hz:zeroC x.P e with
   | none=>rw [hz] at he; cases he
   | some l =>
    rw [hz,hdst] at he
    have he:onT (putT x.nt t (some d) (.p st.next 0)) (fun t=>evOps x.P x.S x.nt ops [] t (st.newCe l)) = .nx t1 st1:=he
    cases hp:putT x.nt t (some d) (.p st.next 0) with
    | none=>rw [hp] at he; cases he
    | some t' =>
     rw [hp] at he
     simp only [onT,Tr.seen_eq] at he
     cases he
     rw [put hp] at hv
     cases hv
     have hnx:(st.newCe l).next=st.next+1:=rfl
     obtain ⟨z,g1,g2,g3,g4⟩:=zeroC_spec (E:=E) hz
     have hlen:=g2.length
     have s1:=Step.newCe hr (show st.next < E.top by omega) l z.cells.toList e (0,0) (.inl rfl) (by omega) (by rw [hlen,List.take_of_length_le (Nat.le_refl _)]; exact g2)
     have hty:TyAt (E.bind st.next ⟨w.heap.size,0,z.cells.toList.length⟩) (w.heap.push (.cells z.cells.toList.toArray e (0,0))) e st.next true:=⟨_,Env.bind_self,fun _=>rfl,z.cells.toList.toArray,(0,0),by simp⟩
     have s2:=Step.newTy s1.rel hty
     have s:StepW E (E.bind st.next ⟨w.heap.size,0,z.cells.toList.length⟩) w { w with heap:=w.heap.push (.cells z.cells e) } st ((st.newCe l).new (.ty e st.next true)):=.of (by simpa using s1.trans s2)
     have hcv:Conc (E.bind st.next ⟨w.heap.size,0,z.cells.toList.length⟩) (.p st.next 0) (.pointer (some ⟨w.heap.size,0,none⟩)):=by
      have:=Conc.p (E:=E.bind st.next ⟨w.heap.size,0,z.cells.toList.length⟩) st.next 0 _ Env.bind_self
      simpa using this
     have hrun:(execOp a.eval o).run x.P w = .ok (.value (.pointer (some ⟨w.heap.size,0,none⟩))) { w with heap:=w.heap.push (.cells z.cells e) }:=by
      simp only [execOp,hop,Instr.alloc,newVar,Sem.run_bind,g1,Result.andThen_ok,newRow,run_newObj,Sem.run_pure]
     have hnd:∀ c,o.op≠.defer c:=fun c e0=>by rw [hop] at e0; cases e0
     refine ⟨_,a.put o.dst (.pointer (some ⟨w.heap.size,0,none⟩)),_,s,?_,?_,fun cs=>?_⟩
     ·rw [hdst]; exact put_spec (ht.mono s.le) hp hcv
     ·rw [put_defers]; exact hm.step s.toStep
     ·refine (Steps.one stepR_region).trans ?_
      have hsz:List.range ops.size=[0]:=by
       have:ops.size=1:=by rw [← Array.length_toList,heq]; rfl
       rw [this]; rfl
      rw [hsz]
      exact (Steps.one (step_value hoi hw hnd hrun)).trans (Steps.one stepR_region_end)
theorem regC_spec {x:Ctx} (hS:SelfOK x.P x.S) {id:Nat} {ops:Array Oper} {t:Tr AV} {a:Act} {k:List Item} (hr:Rel E w.heap st) (ht:ConcT E x.nt t a.tmps) (hm:Marks n0 b.defers E w.heap st a.defers)
  (hl:(regC x ops t st).lim E.top):Arr x.P n0 E x.nt b w st (fun cs=>lone (b.atR a (.code (.region id ops false) :: k)) cs w) k (regC x ops t st):=by
 have plain:(evOps x.P x.S x.nt ops ops.toList t st).lim E.top→Arr x.P n0 E x.nt b w st (fun cs=>lone (b.atR a (.code (.region id ops false) :: k)) cs w) k (evOps x.P x.S x.nt ops ops.toList t st):=by
  intro hl
  have h:=ops_spec (b:=b) (k:=k) hS ops.toList 0 rfl hr ht hm hl
  refine Arr.pre1 hr (fun cs=>?_) h
  have e:List.range ops.size=List.range' 0 ops.toList.length:=by rw [List.range_eq_range']; simp
  rw [← e]
  exact stepR_region
 unfold regC at hl ⊢
 split
 case h_2=>rename_i hne; exact plain (by split at hl <;> first | exact hl | (rename_i o ho; exact absurd ho (hne o)))
 rename_i o heq
 rw [heq] at hl
 simp only at hl
 rw [← heq] at hl
 cases hop:o.op with
 | alloc e =>
  rw [hop] at hl
  cases hdst:o.dst with
  | none=>rw [hdst] at hl; exact plain hl
  | some d =>
   rw [hdst] at hl
   have hl:(regV x e d (evOps x.P x.S x.nt ops ops.toList t st)).lim E.top:=hl
   show Arr _ _ _ _ _ _ _ _ _ (regV x e d (evOps x.P x.S x.nt ops ops.toList t st))
   unfold regV at hl ⊢
   cases hsp:selfPtr x.P e with
   | false=>rw [hsp] at hl; exact plain hl
   | true =>
    rw [hsp] at hl
    have hl:(tyVar e d (evOps x.P x.S x.nt ops ops.toList t st)).lim E.top:=hl
    show Arr _ _ _ _ _ _ _ _ _ (tyVar e d (evOps x.P x.S x.nt ops ops.toList t st))
    cases he:evOps x.P x.S x.nt ops ops.toList t st with
    | nx t1 st1 =>
     rw [he] at hl plain
     have hl:(tyVar1 e t1 st1 (evO t1 (.tmp d))).lim E.top:=hl
     show Arr _ _ _ _ _ _ _ _ _ (tyVar1 e t1 st1 (evO t1 (.tmp d)))
     unfold tyVar1 at hl ⊢
     split
     ·rename_i r q hv
      rw [hv] at hl
      simp only at hl
      cases hb:Nat.beq (r+1) st1.next with
      | false=>rw [hb] at hl; exact plain hl
      | true =>
       rw [hb] at hl
       exact allocTy_spec hS hr ht hm heq hop hdst he hv hl
     ·rename_i hne
      have hl':(Out.nx t1 st1).lim E.top:=by
       split at hl
       ·rename_i r q hv; exact absurd hv (hne r q)
       ·exact hl
      exact plain hl'
    | ex i t1 st1=>rw [he] at hl plain; exact plain hl
    | rt t1 st1=>rw [he] at hl plain; exact plain hl
    | no=>trivial
 | _=>rw [hop] at hl; exact plain hl
theorem code_spec:∀ (c:Code) (x:Ctx),x.P=P→SelfOK P x.S→∀ {E:Env} {w:World} {st:St} {t:Tr AV} {a:Act} (k:List Item),x.inR=b.roundOf.isSome→Rel E w.heap st→ConcT E x.nt t a.tmps→Marks n0 b.defers E w.heap st a.defers →
  n0≤w.heap.size→(evC c x t st).lim E.top→Arr P n0 E x.nt b w st (fun cs=>lone (b.atR a (.code c :: k)) cs w) k (evC c x t st):=by
 intro c
 induction c with
 | skip =>
  intro x hxP hS E w st t a k hb hr ht hm hn0 hl
  exact ⟨E,a,w,.refl hr,ht,hm,fun cs=>Steps.one stepR_skip⟩
 | region id ops draw =>
  intro x hxP hS E w st t a k hb hr ht hm hn0 hl
  cases draw with
  | true=>subst hxP; exact draw_spec hS hr ht hm hl
  | false =>
   subst hxP
   exact regC_spec hS hr ht hm hl
 | seq c1 c2 ih1 ih2 =>
  intro x hxP hS E w st t a k hb hr ht hm hn0 hl
  have e:evC (.seq c1 c2) x t st=thenC (evC c1 x t st) (evC c2 x):=rfl
  rw [e] at hl ⊢
  refine Arr.pre1 hr (fun cs=>stepR_seq) ?_
  have h1:=ih1 x hxP hS (a:=a) (.code c2 :: k) hb hr ht hm hn0
  cases hc1:evC c1 x t st with
  | no=>trivial
  | nx t1 st1 =>
   rw [hc1] at h1 hl
   have hl:(evC c2 x t1 st1).lim E.top:=hl
   rcases lim_up (upo_evC c2 x hS.up t1 st1) hl with hno | hn
   ·show Arr _ _ _ _ _ _ _ _ _ (evC c2 x t1 st1)
    rw [hno]; trivial
   ·obtain ⟨E1,a1,w1,s1,h2,h3,h4⟩:=h1 hn
    have h5:=ih2 x hxP hS (a:=a1) k hb s1.rel h2 h3 (Nat.le_trans hn0 s1.fr.size) (by rw [s1.top]; exact hl)
    exact Arr.pre s1 h4 h5
  | ex i t1 st1 =>
   rw [hc1] at h1 hl
   exact h1 hl
  | rt t1 st1 =>
   rw [hc1] at h1 hl
   exact h1 hl
 | cond c c1 c2 ih1 ih2 =>
  intro x hxP hS E w st t a k hb hr ht hm hn0 hl
  have e:evC (.cond c c1 c2) x t st=condC (evC c1 x) (evC c2 x) t st (evO t c):=rfl
  rw [e] at hl ⊢
  unfold condC at hl ⊢
  have hcv:=evO_conc ht c
  cases hv:(evO t c).asB with
  | none=>trivial
  | some v =>
   have hv':=AV.asB_some hv
   rw [hv'] at hcv
   generalize hev:a.eval c=cv at hcv
   cases hcv
   rw [hv] at hl
   cases v with
   | true=>exact Arr.pre1 hr (fun cs=>by rw [stepR_cond hev]; rfl) (ih1 x hxP hS k hb hr ht hm hn0 hl)
   | false=>exact Arr.pre1 hr (fun cs=>by rw [stepR_cond hev]; rfl) (ih2 x hxP hS k hb hr ht hm hn0 hl)
 | block id c ih =>
  intro x hxP hS E w st t a k hb hr ht hm hn0 hl
  have e:evC (.block id c) x t st=blockC id (evC c x t st):=rfl
  rw [e] at hl ⊢
  refine Arr.pre1 hr (fun cs=>stepR_block) ?_
  have h1:=ih x hxP hS (a:=a) (.inBlock id :: k) hb hr ht hm hn0
  cases hc1:evC c x t st with
  | no=>trivial
  | nx t1 st1 =>
   rw [hc1] at h1 hl
   obtain ⟨E1,a1,w1,s1,h2,h3,h4⟩:=h1 hl
   exact ⟨E1,a1,w1,s1,h2,h3,fun cs=>(h4 cs).trans (Steps.one stepR_inBlock)⟩
  | rt t1 st1 =>
   rw [hc1] at h1 hl
   exact h1 hl
  | ex i t1 st1 =>
   rw [hc1] at h1 hl
   have e:blockC id (.ex i t1 st1)=@Bool.rec (fun _=>Out) (.ex i t1 st1) (.nx t1 st1) (Nat.beq i id):=rfl
   rw [e] at hl ⊢
   cases hi:Nat.beq i id with
   | true =>
    rw [hi] at hl
    have:i=id:=by simpa [nbeq] using hi
    subst this
    obtain ⟨E1,a1,w1,s1,h2,h3,h4⟩:=h1 hl
    exact ⟨E1,a1,w1,s1,h2,h3,fun cs=>h4 k (by simp [exitTo]) cs⟩
   | false =>
    rw [hi] at hl
    have hne:id≠i:=by rintro rfl; simp at hi
    obtain ⟨E1,a1,w1,s1,h2,h3,h4⟩:=h1 hl
    exact ⟨E1,a1,w1,s1,h2,h3,fun k' hk cs=>h4 k' (by simpa [exitTo,hne] using hk) cs⟩
 | loop c ih =>
  intro x hxP hS E w st t a k hb hr ht hm hn0 hl
  have e:evC (.loop c) x t st=loopC (evC c x) x.n t st:=rfl
  rw [e] at hl ⊢
  refine Arr.pre1 hr (fun cs=>stepR_loop) ?_
  suffices H:∀ n,∀ {E:Env} {w:World} {st:St} {t:Tr AV} {a:Act},Rel E w.heap st→ConcT E x.nt t a.tmps→Marks n0 b.defers E w.heap st a.defers→n0≤w.heap.size→(loopC (evC c x) n t st).lim E.top →
    Arr P n0 E x.nt b w st (fun cs=>lone (b.atR a (.code c :: .inLoop c :: k)) cs w) k (loopC (evC c x) n t st) from H x.n hr ht hm hn0 hl
  intro n
  induction n with
  | zero=>intro E w st t a hr ht hm hn0 hl; trivial
  | succ n ihn =>
   intro E w st t a hr ht hm hn0 hl
   have e:loopC (evC c x) (n+1) t st=thenC (evC c x t st) (loopC (evC c x) n):=rfl
   rw [e] at hl ⊢
   have h1:=ih x hxP hS (a:=a) (.inLoop c :: k) hb hr ht hm hn0
   cases hc1:evC c x t st with
   | no=>trivial
   | nx t1 st1 =>
    rw [hc1] at h1 hl
    have hl:(loopC (evC c x) n t1 st1).lim E.top:=hl
    rcases lim_up (upo_loopC (upo_evC c x hS.up) n t1 st1) hl with hno | hn
    ·show Arr _ _ _ _ _ _ _ _ _ (loopC (evC c x) n t1 st1)
     rw [hno]; trivial
    ·obtain ⟨E1,a1,w1,s1,h2,h3,h4⟩:=h1 hn
     have h5:=ihn (a:=a1) s1.rel h2 h3 (Nat.le_trans hn0 s1.fr.size) (by rw [s1.top]; exact hl)
     exact Arr.pre s1 (fun cs=>(h4 cs).trans (Steps.one stepR_inLoop)) h5
   | ex i t1 st1 =>
    rw [hc1] at h1 hl
    exact h1 hl
   | rt t1 st1 =>
    rw [hc1] at h1 hl
    exact h1 hl
 | rangeFunc f ps c1 c2 ih1 ih2 =>
  intro x hxP hS E w st t a k hb hr ht hm hn0 hl
  have e:evC (.rangeFunc f ps c1 c2) x t st=_root_.cond x.inR .no (rangeC x ps c1 c2 t st (evO t f)):=rfl
  rw [e] at hl ⊢
  cases hi:x.inR with
  | true=>trivial
  | false =>
   rw [hi] at hl hb
   have hb':b.roundOf=none:=by
    cases h:b.roundOf with
    | none=>rfl
    | some l=>rw [h] at hb; cases hb
   exact range_spec hxP hS hb' hr ht hm hn0 hl
 | exit id =>
  intro x hxP hS E w st t a k hb hr ht hm hn0 hl
  exact ⟨E,a,w,.refl hr,ht,hm,fun k' hk cs=>Steps.one (stepR_exit hk)⟩
 | scope c ih=>intros; trivial
 | label l =>
  intro x hxP hS E w st t a k hb hr ht hm hn0 hl
  exact ⟨E,a,w,.refl hr,ht,hm,fun cs=>Steps.one stepR_label⟩
 | goto l=>intros; trivial
 | ret =>
  intro x hxP hS E w st t a k hb hr ht hm hn0 hl
  exact fun hb=>⟨E,a,w,.code .ret :: k,.refl hr,ht,hm,fun cs=>Steps.one (stepR_ret hb)⟩
 | refuse why=>intros; trivial
end
end
end Go.Ev
