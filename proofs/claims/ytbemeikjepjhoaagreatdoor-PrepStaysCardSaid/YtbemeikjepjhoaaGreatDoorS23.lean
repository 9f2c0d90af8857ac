/-
  Deferred calls: a closure without arguments, deferred by one of a function's first statements, is called when the code has ended. · Bodies: a function that the abstract run calls returns.
-/
import Derived.Test.YtbemeikjepjhoaaGreatDoorS22
namespace Go.Ev
noncomputable section
section
variable {P : Program} {S : Self} {w : World} {E : Env} {st : St} {nt n0 : Nat} {b : Frame}
theorem defIn_spec:∀ {l h:List Oper} {d:Oper} {f:Operand},defIn l=some (h,d,f)→l=h++[d]∧defOp d=some f
 | [],h,d,f,e=>by cases e
 | [o],h,d,f,e=>by
  have e:(match defOp o with | some f=>some ([],o,f) | none=>none)=some (h,d,f):=e
  split at e
  ·rename_i f' hf; cases e; exact ⟨rfl,hf⟩
  ·cases e
 | o :: o' :: l,h,d,f,e=>by
  have e:(match defIn (o' :: l) with | some (h,d,f)=>some (o :: h,d,f) | none=>none)=some (h,d,f):=e
  split at e
  ·rename_i h' d' f' h1
   cases e
   obtain ⟨k1,k2⟩:=defIn_spec h1
   exact ⟨by rw [k1]; rfl,k2⟩
  ·cases e
theorem defOp_spec {d:Oper} {f:Operand} (h:defOp d=some f):d.guard=none∧∃ c,d.op = .defer c∧c.callee = .value f∧c.args = #[]:=by
 unfold defOp at h
 split at h
 case h_2=>cases h
 rename_i c hop hg
 unfold defOf at h
 split at h
 case h_2=>cases h
 rename_i f' hc ha
 cases h
 exact ⟨hg,c,hop,hc,by rw [← Array.toArray_toList (xs:=c.args),ha]⟩
theorem defR_spec {c:Code} {ops:Array Oper} {h:List Oper} {d:Oper} {f:Operand} (e:defR c=some (ops,h,d,f)):∃ id,c = .region id ops false∧ops.toList=h++[d]∧defOp d=some f:=by
 unfold defR at e
 split at e
 case h_2=>cases e
 rename_i id ops'
 split at e
 case h_2=>cases e
 rename_i h' d' f' h1
 cases e
 exact ⟨id,rfl,defIn_spec h1⟩
theorem ops_specR (hS:SelfOK P S) {ops:Array Oper} {k:List Item} {rest:List Nat}:∀ (l:List Oper) (i:Nat),(∀ j,j < l.length→ops[i+j]? = l[j]?)→∀ {E:Env} {w:World} {st:St} {t:Tr AV} {a:Act},Rel E w.heap st→ConcT E nt t a.tmps →
  (evOps P S nt ops l t st).lim E.top→∀ {t':Tr AV} {st':St},evOps P S nt ops l t st = .nx t' st' →
  ∃ E' a' w',StepW E E' w w' st st'∧ConcT E' nt t' a'.tmps∧a'.defers=a.defers∧∀ cs,Steps P (lone (b.atR a (.inRegion ops (List.range' i l.length++rest) :: k)) cs w) (lone (b.atR a' (.inRegion ops rest :: k)) cs w'):=by
 intro l
 induction l with
 | nil =>
  intro i hi E w st t a hr ht hl t' st' he
  cases he
  exact ⟨E,a,w,.refl hr,ht,rfl,fun cs=>.refl _ _⟩
 | cons o l ih =>
  intro i hi E w st t a hr ht hl t' st' he
  have hoi:ops[i]? = some o:=by simpa using hi 0 (by simp)
  have hi':∀ j,j < l.length→ops[i+1+j]? = l[j]?:=by
   intro j hj
   have:=hi (j+1) (by simp; omega)
   rw [show i+(j+1)=i+1+j by omega] at this
   simpa using this
  have e:evOps P S nt ops (o :: l) t st=onG P S nt o t st (evOps P S nt ops l) (guardOk ops t o):=rfl
  rw [e] at hl he
  have hrg:List.range' i (o :: l).length++rest=i :: (List.range' (i+1) l.length++rest):=by simp [List.range'_succ]
  rw [hrg]
  cases hg:guardOk ops t o with
  | none=>rw [hg] at he; cases he
  | some g =>
   rw [hg] at hl he
   have hw:=guard_spec ht hg
   cases g with
   | false =>
    have e:onG P S nt o t st (evOps P S nt ops l) (some false)=onT (putT nt t o.dst .un) fun t=>evOps P S nt ops l t st:=rfl
    rw [e] at hl he
    cases hp:putT nt t o.dst .un with
    | none=>rw [hp] at he; cases he
    | some t1 =>
     rw [hp] at hl he
     simp only [onT,Tr.seen_eq] at hl he
     have ht1:ConcT E nt t1 (a.put o.dst undef).tmps:=put_spec ht hp .un
     obtain ⟨E',a',w',h1,h2,h3,h4⟩:=ih (i+1) hi' (a:=a.put o.dst undef) hr ht1 hl he
     refine ⟨E',a',w',h1,h2,by rw [h3,put_defers],fun cs=>(Steps.one ?_).trans (h4 cs)⟩
     have:=stepR_op_skip (P:=P) (b:=b) (a:=a) (k:=k) (cs:=cs) (w:=w) (ops:=ops) (i:=i) (rest:=List.range' (i+1) l.length++rest) (by simp [hoi,hw])
     rw [hoi] at this
     exact this
   | true =>
    have e:onG P S nt o t st (evOps P S nt ops l) (some true)=onV nt t o.dst (evOp P S t st o) (evOps P S nt ops l):=rfl
    rw [e] at hl he
    cases ho:evOp P S t st o with
    | none=>rw [ho] at he; cases he
    | some p =>
     obtain ⟨v,st1⟩:=p
     rw [ho] at hl he
     have e:onV nt t o.dst (some (v,st1)) (evOps P S nt ops l)=onT (putT nt t o.dst v) fun t=>evOps P S nt ops l t st1:=rfl
     rw [e] at hl he
     cases hp:putT nt t o.dst v with
     | none=>rw [hp] at he; cases he
     | some t1 =>
      rw [hp] at hl he
      simp only [onT,Tr.seen_eq] at hl he
      rcases lim_up (upo_evOps hS.up l t1 st1) hl with hno | hn
      ·rw [hno] at he; cases he
      ·obtain ⟨E',w',cv,hs,hc,hst⟩:=givesC_steps (b:=b) (k:=k) (rest:=List.range' (i+1) l.length++rest) hoi hw (notDefer ho) (op_all hS hr (evO_conc ht) ho hn)
       have ht1:ConcT E' nt t1 (a.put o.dst cv).tmps:=put_spec (ht.mono hs.le) hp hc
       obtain ⟨E2,a2,w2,h1,h2,h3,h4⟩:=ih (i+1) hi' (a:=a.put o.dst cv) hs.rel ht1 (by rw [hs.top]; exact hl) he
       exact ⟨E2,a2,w2,hs.trans h1,h2,by rw [h3,put_defers],fun cs=>(hst cs).trans (h4 cs)⟩
theorem step_deferOp {a:Act} {ops:Array Oper} {i:Nat} {k:List Item} {rest:List Nat} {cs:List Frame} {d:Oper} {f:Operand} {g:FuncId} {F C:Array Value} (hb:b.roundOf=none) (ho:ops[i]? = some d) (hop:defOp d=some f)
  (hf:a.eval f = .func (.func g) F C) :
  step P (lone (b.atR a (.inRegion ops (i :: rest) :: k)) cs w) = .next (lone (b.atR { tmps:=(a.put d.dst undef).tmps,defers:={ target:=.fn (.func g) C,args:=F } :: a.defers } (.inRegion ops rest :: k)) cs w):=by
 obtain ⟨hg,c,h1,h2,h3⟩:=defOp_spec hop
 have hw:Region.wanted d (yielded ops a.tmps)=true:=by unfold Region.wanted; rw [hg]
 refine step_lone_go ?_
 rw [stepGR_op ho hw,hb,Oper.semAt_none]
 have hres:(execOp a.eval d).run P w = .ok (.defer { target:=.fn (.func g) C,args:=F }) w:=by
  simp [execOp,h1,resolve,h2,h3,hf,Deferred.ofValue]
 have hfin:=Frame.finish_atR b { a with defers:={ target:=.fn (.func g) C,args:=F } :: a.defers } ops i rest k undef
 rw [ho] at hfin
 simp only [Option.bind_some] at hfin
 have hput:({ a with defers:={ target:=.fn (.func g) C,args:=F } :: a.defers }:Act).put d.dst undef = { tmps:=(a.put d.dst undef).tmps,defers:={ target:=.fn (.func g) C,args:=F } :: a.defers }:=by
  cases hd:d.dst <;> simp [Act.put]
 rw [hput] at hfin
 rw [← hfin]
 simp [stepG.apply,Sem.runT_eq,hres,Frame.atR]
theorem run_take {r:Nat} (h:w.heap[r]? = some (.deferred (some []))):(Instr.takeDeferred r).run P w = .ok [] { w with heap:=w.heap.setIfInBounds r (.deferred none) }:=by
 simp [Instr.takeDeferred,getObj,setObj,Sem.run,h]
theorem step_mark {fr:Frame} {r:Nat} {ds:List Deferred} {cs:List Frame} (hm:fr.mode = .returning) (hd:fr.defers = { target:=.collected r,args:=#[] } :: ds) (h:w.heap[r]? = some (.deferred (some []))) :
  step P (lone fr cs w) = .next (lone { fr with defers:=ds } cs { w with heap:=w.heap.setIfInBounds r (.deferred none) }) :=
 step_lone_go (by simp [stepG,unwind,hm,hd,Sem.runT_eq,run_take h])
theorem unwind_marks {E':Env} {st':St} {w0:World} (hr:Rel E w0.heap st) {D:List Deferred}:∀ (ms:List Deferred) {fr:Frame} {w:World},fr.mode = .returning→fr.defers=ms++D→Marks0 w0.heap.size E' w.heap st' ms→StepW E E' w0 w st st' →
  ∃ w2:World,StepW E E' w0 w2 st st'∧∀ cs,Steps P (lone fr cs w) (lone { fr with defers:=D } cs w2)
 | [],fr,w,hm,hd,hk,hs=>⟨w,hs,fun cs=>by
   have:({ fr with defers:=D }:Frame)=fr:=by
    have hd:fr.defers=D:=hd
    rw [← hd]
   rw [this]; exact .refl _ _⟩
 | d :: ds,fr,w,hm,hd,hk,hs=>by
  obtain ⟨r,h0,rfl,h1,h2⟩:=hk.2 d (List.mem_cons_self ..)
  have hs2:StepW E E' w0 { w with heap:=w.heap.setIfInBounds r (.deferred none) } st st':=⟨hs.toStep.poke (.inr h0) h2 (.deferred none) (TyKeep.setNon (by rw [h1]; exact fun _ _ _ e=>by cases e)),hs.os,hs.out⟩
  have hk2:Marks0 w0.heap.size E' (w.heap.setIfInBounds r (.deferred none)) st' ds:=by
   have hp:=hk.1
   rw [List.pairwise_cons] at hp
   refine ⟨hp.2,fun e he=>?_⟩
   obtain ⟨q,k0,k1,k2,k3⟩:=hk.2 e (List.mem_cons_of_mem _ he)
   refine ⟨q,k0,k1,?_,k3⟩
   have hne:r≠q:=by
    rintro rfl
    exact hp.1 e he k1.symm
   rw [Array.getElem?_setIfInBounds_ne hne]; exact k2
  obtain ⟨w2,k1,k2⟩:=unwind_marks hr ds (fr:={ fr with defers:=ds++D }) (w:={ w with heap:=w.heap.setIfInBounds r (.deferred none) }) hm rfl hk2 hs2
  exact ⟨w2,k1,fun cs=>(Steps.one (step_mark hm hd h1)).trans (k2 cs)⟩
def Ends (P:Program) (E:Env) (nt:Nat) (b:Frame) (w:World) (st:St) (m:List Frame→Machine):Out→Prop
 | .nx t st'=>∃ E' a' w' todo,StepW E E' w w' st st'∧ConcT E' nt t a'.tmps∧∀ cs,Steps P (m cs) (lone { b.atR a' todo with mode:=.returning,defers:=[] } cs w')
 | .rt t st'=>∃ E' a' w' todo,StepW E E' w w' st st'∧ConcT E' nt t a'.tmps∧∀ cs,Steps P (m cs) (lone { b.atR a' todo with mode:=.returning,defers:=[] } cs w')
 | _=>True
theorem Ends.pre {m m1:List Frame→Machine} {r:Out} (hm:∀ cs,Steps P (m cs) (m1 cs)) (h:Ends P E nt b w st m1 r):Ends P E nt b w st m r:=by
 cases r with
 | nx t st'=>obtain ⟨E',a',w',todo,h1,h2,h3⟩:=h; exact ⟨E',a',w',todo,h1,h2,fun cs=>(hm cs).trans (h3 cs)⟩
 | rt t st'=>obtain ⟨E',a',w',todo,h1,h2,h3⟩:=h; exact ⟨E',a',w',todo,h1,h2,fun cs=>(hm cs).trans (h3 cs)⟩
 | _=>trivial
theorem Ends.pre1 {m m1:List Frame→Machine} {r:Out} (hm:∀ cs,step P (m cs) = .next (m1 cs)) (h:Ends P E nt b w st m1 r):Ends P E nt b w st m r :=
 h.pre fun cs=>Steps.one (hm cs)
theorem Arr.rets {m:List Frame→Machine} {r:Out} {t:Tr AV} {st':St} (hb:b.roundOf=none) (h:Arr P n0 E nt b w st m [] r) (hr:r = .nx t st'∨r = .rt t st') :
  ∃ E' a' w' todo,StepW E E' w w' st st'∧ConcT E' nt t a'.tmps∧Marks n0 b.defers E' w'.heap st' a'.defers∧∀ cs,Steps P (m cs) (lone { b.atR a' todo with mode:=.returning } cs w'):=by
 rcases hr with rfl | rfl
 ·obtain ⟨E1,a1,w1,h1,h2,h3,h4⟩:=h
  exact ⟨E1,a1,w1,[],h1,h2,h3,fun cs=>(h4 cs).trans (Steps.one (stepR_end hb))⟩
 ·exact h hb
section
variable {E0 : Env} {w0 : World} {s0 : St}
theorem ends_marks {m:List Frame→Machine} {E':Env} {a':Act} {w':World} {todo:List Item} {st':St} (hr0:Rel E0 w0.heap s0) (hs:StepW E0 E' w0 w' s0 st') (hm:Marks0 w0.heap.size E' w'.heap st' a'.defers)
  (h:∀ cs,Steps P (m cs) (lone { b.atR a' todo with mode:=.returning } cs w')):∃ w2,StepW E0 E' w0 w2 s0 st'∧∀ cs,Steps P (m cs) (lone { b.atR a' todo with mode:=.returning,defers:=[] } cs w2):=by
 obtain ⟨w2,k1,k2⟩:=unwind_marks (P:=P) (D:=[]) hr0 a'.defers (fr:={ b.atR a' todo with mode:=.returning }) rfl (List.append_nil _).symm hm hs
 exact ⟨w2,k1,fun cs=>(h cs).trans (k2 cs)⟩
theorem plain_ends {c:Code} {x:Ctx} (hxP:x.P=P) (hS:SelfOK P x.S) (hi:x.inR=b.roundOf.isSome) {t:Tr AV} {a:Act} (hb:b.roundOf=none) (hbd:b.defers=[]) (hr0:Rel E0 w0.heap s0) (hs:StepW E0 E w0 w s0 st) (ht:ConcT E x.nt t a.tmps)
  (hm:Marks0 w0.heap.size E w.heap st a.defers) (hl:(evC c x t st).lim E.top):Ends P E0 x.nt b w0 s0 (fun cs=>lone (b.atR a [.code c]) cs w) (evC c x t st):=by
 have hA:=code_spec (P:=P) (n0:=w0.heap.size) (b:=b) c x hxP hS (a:=a) [] hi hs.rel ht ⟨a.defers,by rw [hbd,List.append_nil],hm⟩ hs.fr.size hl
 have fin:∀ {t1:Tr AV} {st1:St},(evC c x t st = .nx t1 st1∨evC c x t st = .rt t1 st1)→st1.next≤E.top→∃ E' a' w' todo,StepW E0 E' w0 w' s0 st1∧ConcT E' x.nt t1 a'.tmps∧∀ cs,Steps P (lone (b.atR a [.code c]) cs w) (lone { b.atR a' todo with mode:=.returning,defers:=[] } cs w'):=by
  intro t1 st1 h _
  obtain ⟨E1,a1,w1,todo,h1,h2,⟨ms,h3,h4⟩,h5⟩:=hA.rets hb h
  rw [hbd,List.append_nil] at h3
  subst h3
  obtain ⟨w2,k1,k2⟩:=ends_marks hr0 (hs.trans h1) h4 h5
  exact ⟨E1,a1,w2,todo,k1,h2,k2⟩
 cases ho:evC c x t st with
 | nx t1 st1=>exact fin (.inl ho) (by rw [ho] at hl; exact hl)
 | rt t1 st1=>exact fin (.inr ho) (by rw [ho] at hl; exact hl)
 | _=>trivial
theorem dcallF_some {x:Ctx} {t t4:Tr AV} {st3 st4:St} {v:AV} (h:dcallF x t st3 v = .nx t4 st4):t4=t∧∃ g first captured r fn cd,v = .f (.func g) first captured∧x.S.dcall g (first++captured) st3=some (r,st4)∧x.P.funcs[g]? = some fn∧fn.body=some cd:=by
 unfold dcallF at h
 split at h
 case h_2=>cases h
 rename_i g first captured
 cases hd:dcall0 x.P x.S g (first++captured) st3 with
 | none=>rw [hd] at h; cases h
 | some p =>
  obtain ⟨r,st'⟩:=p
  rw [hd] at h
  cases h
  unfold dcall0 at hd
  split at hd
  case h_2=>cases hd
  rename_i fn hf
  unfold dcallB at hd
  split at hd
  case h_2=>cases hd
  rename_i cd hb
  exact ⟨rfl,g,first,captured,r,fn,cd,rfl,hd,hf,hb⟩
theorem dcallF_nx {x:Ctx} {t:Tr AV} {st3:St} {v:AV}:dcallF x t st3 v = .no∨∃ t4 st4,dcallF x t st3 v = .nx t4 st4:=by
 unfold dcallF
 split
 ·unfold dcallR
  split
  ·exact .inr ⟨_,_,rfl⟩
  ·exact .inl rfl
 ·exact .inl rfl
theorem defer_core {c:Code} {x:Ctx} (hS:SelfOK x.P x.S) (hi:x.inR=b.roundOf.isSome) {t:Tr AV} {a:Act} (hb:b.roundOf=none) (hr0:Rel E0 w0.heap s0) (hs:StepW E0 E w0 w s0 st) (ht:ConcT E x.nt t a.tmps)
  (hm:Marks0 w0.heap.size E w.heap st a.defers) {id:Nat} {ops:Array Oper} {h:List Oper} {d:Oper} {f:Operand} (hops:ops.toList=h++[d]) (hop:defOp d=some f) {t1 t2 t3 t4:Tr AV} {st1 st3 st4:St}
  (he:evOps x.P x.S x.nt ops h t st = .nx t1 st1) (hp:putT x.nt t1 d.dst .un=some t2) (hc:evC c x t2 st1 = .nx t3 st3∨evC c x t2 st1 = .rt t3 st3) (hd:dcallF x t3 st3 (evO t1 f) = .nx t4 st4) (hl:st4.next≤E.top) :
  ∃ E' a' w' todo,StepW E0 E' w0 w' s0 st4∧ConcT E' x.nt t4 a'.tmps∧∀ cs,Steps x.P (lone (b.atR a [.code (.region id ops false),.code c]) cs w) (lone { b.atR a' todo with mode:=.returning,defers:=[] } cs w'):=by
 obtain ⟨rfl,g,first,captured,r,fn,cd,hv,hcall,hfn,hbody⟩:=dcallF_some hd
 have hu1:st1.next≤st3.next:=by
  have hu:=upo_evC c x hS.up t2 st1
  rcases hc with e | e
  ·exact hu.1 _ _ e
  ·exact hu.2.2 _ _ e
 have hu2:st3.next≤st4.next:=hS.up.dcall _ _ _ _ _ hcall
 obtain ⟨E1,a1,w1,s1,ht1,hdf,g1⟩:=ops_specR (b:=b) (k:=[.code c]) (rest:=[h.length]) hS (ops:=ops) h 0 (by
  intro j hj
  have:ops.toList[j]? = h[j]?:=by rw [hops,List.getElem?_append_left hj]
  rw [Nat.zero_add,← Array.getElem?_toList]; exact this) hs.rel ht (by rw [he]; show st1.next≤E.top; omega) he
 have hod:ops[h.length]? = some d:=by rw [← Array.getElem?_toList,hops]; simp
 have hcv:=evO_conc ht1 f
 rw [hv] at hcv
 generalize hev:a1.eval f=fv at hcv
 cases hcv with
 | f _ _ _ vx vy _ hvx hvy =>
 let D:Deferred:={ target:=.fn (.func g) vy.toArray,args:=vx.toArray }
 let a2:Act:={ tmps:=(a1.put d.dst undef).tmps,defers:=D :: a1.defers }
 have ht2:ConcT E1 x.nt t2 a2.tmps:=put_spec ht1 hp .un
 let b':Frame:={ b with defers:=D :: a1.defers }
 have e1:E1.top=E.top:=s1.top
 have hA:=code_spec (P:=x.P) (n0:=w1.heap.size) (b:=b') c x rfl hS (E:=E1) (w:=w1) (st:=st1) (t:=t2) (a:=a2) [] hi s1.rel ht2 Marks.nil (Nat.le_refl _) (by
  rcases hc with e | e <;> rw [e]
  ·show st3.next≤E1.top; omega
  ·show st3.next≤E1.top; omega)
 obtain ⟨E3,a3,w3,todo,s3,ht3,⟨ms,h3,h4⟩,g3⟩:=hA.rets (show b'.roundOf=none from hb) hc
 obtain ⟨w4,s4,g4⟩:=unwind_marks (P:=x.P) (D:=D :: a1.defers) s1.rel ms (fr:={ b'.atR a3 todo with mode:=.returning }) rfl h3 h4 s3
 obtain ⟨E5,w5,cv,hk,s5,hcv⟩:=hS.dcall s4.rel ((hvx.mono s4.le).append (hvy.mono s4.le)) hcall (by rw [s4.top,e1]; exact hl)
 have sAll:StepW E0 E5 w0 w5 s0 st4:=((hs.trans s1).trans s4).trans s5
 have hmk:Marks0 w0.heap.size E5 w5.heap st4 a1.defers:=by
  rw [hdf]
  exact ((hm.step s1.toStep).step s4.toStep).step s5.toStep
 obtain ⟨w6,s6,g6⟩:=unwind_marks (P:=x.P) (D:=[]) hr0 a1.defers (fr:={ b'.atR a3 todo with mode:=.returning,defers:=a1.defers }) rfl (List.append_nil _).symm hmk sAll
 refine ⟨E5,a3,w6,todo,s6,ht3.mono s5.le,fun cs=>?_⟩
 have hng':fn.name ≠ "runtime.NumGoroutine":=by simpa using hS.ng g fn hfn
 have hinv:(invoke D.target D.args).run x.P w4 = .ok (.enter g (vx++vy).toArray) w4:=by
  simp [D,invoke,callFunc,hfn,hng',hbody]
 refine (Steps.one stepR_region).trans ?_
 have hr1:List.range ops.size=List.range' 0 h.length++[h.length]:=by
  have:ops.size=h.length+1:=by rw [← Array.length_toList,hops]; simp
  rw [this,List.range_eq_range',List.range'_concat]; simp
 rw [hr1]
 refine (g1 cs).trans ?_
 refine (Steps.one (step_deferOp hb hod hop hev)).trans ?_
 refine (Steps.one stepR_region_end).trans ?_
 refine (g3 cs).trans ?_
 refine (g4 cs).trans ?_
 refine (Steps.one (step_defer (d:=D) (ds:=a1.defers) (fv:=.func g) (cap:=vy.toArray) (by simp) rfl rfl hinv)).trans ?_
 obtain ⟨fr,k1,k2,k3,k4⟩:=hk ({ b'.atR a3 todo with mode:=.returning,defers:=a1.defers } :: cs)
 refine k1.trans ?_
 refine (Steps.one (step_going_returned k3 k4)).trans ?_
 exact g6 cs
theorem defer_ends {c:Code} {x:Ctx} (hxP:x.P=P) (hS:SelfOK P x.S) (hi:x.inR=b.roundOf.isSome) {t:Tr AV} {a:Act} (hb:b.roundOf=none) (hr0:Rel E0 w0.heap s0) (hs:StepW E0 E w0 w s0 st) (ht:ConcT E x.nt t a.tmps)
  (hm:Marks0 w0.heap.size E w.heap st a.defers) {r:Code} {ops:Array Oper} {h:List Oper} {d:Oper} {f:Operand} (hd:defR r=some (ops,h,d,f)) (hl:(thenD x d f (evC c x) (evOps x.P x.S x.nt ops h t st)).lim E.top) :
  Ends P E0 x.nt b w0 s0 (fun cs=>lone (b.atR a [.code r,.code c]) cs w) (thenD x d f (evC c x) (evOps x.P x.S x.nt ops h t st)):=by
 subst hxP
 obtain ⟨id,rfl,hops,hop⟩:=defR_spec hd
 unfold thenD at hl ⊢
 cases he:evOps x.P x.S x.nt ops h t st with
 | nx t1 st1 =>
  rw [he] at hl
  simp only at hl ⊢
  unfold runD at hl ⊢
  cases hp:putT x.nt t1 d.dst .un with
  | none=>trivial
  | some t2 =>
   rw [hp] at hl
   simp only [Tr.seen_eq] at hl ⊢
   cases hc:evC c x t2 st1 with
   | no=>trivial
   | ex i t3 st3=>trivial
   | nx t3 st3 =>
    rw [hc] at hl
    have e:endD x (evO t1 f) (.nx t3 st3)=dcallF x t3 st3 (evO t1 f):=rfl
    rw [e] at hl ⊢
    rcases dcallF_nx (x:=x) (t:=t3) (st3:=st3) (v:=evO t1 f) with hd | ⟨t4,st4,hd⟩
    ·rw [hd]; trivial
    ·rw [hd] at hl ⊢
     exact defer_core hS hi hb hr0 hs ht hm hops hop he hp (.inl hc) hd hl
   | rt t3 st3 =>
    rw [hc] at hl
    have e:endD x (evO t1 f) (.rt t3 st3)=dcallF x t3 st3 (evO t1 f):=rfl
    rw [e] at hl ⊢
    rcases dcallF_nx (x:=x) (t:=t3) (st3:=st3) (v:=evO t1 f) with hd | ⟨t4,st4,hd⟩
    ·rw [hd]; trivial
    ·rw [hd] at hl ⊢
     exact defer_core hS hi hb hr0 hs ht hm hops hop he hp (.inr hc) hd hl
 | _=>trivial
theorem top_spec {x:Ctx} (hxP:x.P=P) (hS:SelfOK P x.S) (hi:x.inR=b.roundOf.isSome) (hb:b.roundOf=none) (hbd:b.defers=[]) (hr0:Rel E0 w0.heap s0):∀ (n:Nat) (c:Code) {E:Env} {w:World} {st:St} {t:Tr AV} {a:Act},StepW E0 E w0 w s0 st→ConcT E x.nt t a.tmps →
  Marks0 w0.heap.size E w.heap st a.defers→(evTop x n c t st).lim E.top→Ends P E0 x.nt b w0 s0 (fun cs=>lone (b.atR a [.code c]) cs w) (evTop x n c t st):=by
 intro n
 induction n with
 | zero =>
  intro c E w st t a hs ht hm hl
  have e:evTop x 0 c t st=evC c x t st:=by cases c <;> rfl
  rw [e] at hl ⊢
  exact plain_ends hxP hS hi hb hbd hr0 hs ht hm hl
 | succ n ih =>
  intro c E w st t a hs ht hm hl
  cases c with
  | seq r c =>
   unfold evTop at hl ⊢
   cases hd:defR r with
   | some p =>
    obtain ⟨ops,h,d,f⟩:=p
    rw [hd] at hl
    exact Ends.pre1 (fun cs=>stepR_seq) (defer_ends hxP hS hi hb hr0 hs ht hm hd hl)
   | none =>
    rw [hd] at hl
    simp only at hl ⊢
    refine Ends.pre1 (fun cs=>stepR_seq) ?_
    have h1:=code_spec (P:=P) (n0:=w0.heap.size) (b:=b) r x hxP hS (a:=a) [.code c] hi hs.rel ht ⟨a.defers,by rw [hbd,List.append_nil],hm⟩ hs.fr.size
    cases hc1:evC r x t st with
    | no=>trivial
    | ex i t1 st1=>trivial
    | nx t1 st1 =>
     rw [hc1] at h1 hl
     have hl:(evTop x n c t1 st1).lim E.top:=hl
     rcases lim_up (upo_evTop hS.up n c t1 st1) hl with hno | hn
     ·show Ends _ _ _ _ _ _ _ (evTop x n c t1 st1)
      rw [hno]; trivial
     ·obtain ⟨E1,a1,w1,s1,h2,⟨ms,h3,h3'⟩,h4⟩:=h1 hn
      rw [hbd,List.append_nil] at h3
      subst h3
      exact Ends.pre h4 (ih c (a:=a1) (hs.trans s1) h2 h3' (by rw [s1.top]; exact hl))
    | rt t1 st1 =>
     rw [hc1] at h1 hl
     obtain ⟨E1,a1,w1,todo,k1,k2,⟨ms,h3,h4⟩,h5⟩:=h1 hl hb
     rw [hbd,List.append_nil] at h3
     subst h3
     obtain ⟨w2,m1,m2⟩:=ends_marks hr0 (hs.trans k1) h4 h5
     exact ⟨E1,a1,w2,todo,m1,k2,m2⟩
  | _=>exact plain_ends hxP hS hi hb hbd hr0 hs ht hm hl
theorem topCD_spec {x:Ctx} (hxP:x.P=P) (hS:SelfOK P x.S) (hi:x.inR=b.roundOf.isSome) (hb:b.roundOf=none) (hbd:b.defers=[]) {c:Code} {t:Tr AV} {a:Act} (hr:Rel E w.heap st) (ht:ConcT E x.nt t a.tmps)
  (ha:a.defers=[]) (hl:(evCD x c t st).lim E.top):Ends P E x.nt b w st (fun cs=>lone (b.atR a [.code c]) cs w) (evCD x c t st):=by
 have hm:Marks0 w.heap.size E w.heap st a.defers:=by rw [ha]; exact ⟨List.Pairwise.nil,fun _ h=>by cases h⟩
 unfold evCD at hl ⊢
 cases hd:defers 4 c with
 | false=>rw [hd] at hl; exact plain_ends hxP hS hi hb hbd hr (.refl hr) ht hm hl
 | true=>rw [hd] at hl; exact top_spec hxP hS hi hb hbd hr 4 c (.refl hr) ht hm hl
end
end
end
end Go.Ev
namespace Go.Ev
noncomputable section
section
variable {P : Program} {S : Self} {w : World} {E : Env} {st : St} {nt n0 : Nat} {b : Frame}
theorem tget_tmpsOf:∀ (l:List AV) (n:Nat) (t:Tr AV) (x:Nat),tget (tmpsOf l n t) x=if n≤x then (match l[x - n]? with | some v=>v | none=>tget t x) else tget t x
 | [],n,t,x=>by simp [tmpsOf]
 | v :: l,n,t,x=>by
  have e:tmpsOf (v :: l) n t=tmpsOf l (n+1) (t.set n (some v)):=rfl
  have hg:tget (t.set n (some v)) x=if x=n then v else tget t x:=by
   unfold tget
   rw [Tr.get_set]
   by_cases h:x=n <;> simp [h]
  rw [e,tget_tmpsOf l (n+1) (t.set n (some v)) x,hg]
  by_cases h1:n+1≤x
  ·have h2:n≤x:=by omega
   have h3:x≠n:=by omega
   have h4:x - n=(x - (n+1))+1:=by omega
   rw [if_pos h1,if_pos h2,if_neg h3,h4]
   rfl
  ·rw [if_neg h1]
   by_cases h2:x=n
   ·subst h2; simp
   ·rw [if_neg h2,if_neg (by omega)]
theorem enter_conc {as:List AV} {us:List Value} (h:ConcL E as us) (hn:as.length≤nt):ConcT E nt (tmpsOf as 0 .lf) (us.toArray++Array.replicate (nt - us.toArray.size) undef):=by
 have hlen:=h.length
 refine ⟨by simp; omega,fun x=>?_⟩
 rw [tget_tmpsOf]
 simp only [Nat.zero_le,if_true,Nat.sub_zero]
 have hlf:tget (.lf:Tr AV) x = .un:=by unfold tget; rw [Tr.get_lf]
 rw [hlf,Array.getD_eq_getD_getElem?]
 cases hx:as[x]? with
 | some v =>
  obtain ⟨u,hu,hc⟩:=h.get x v hx
  have hlt:x < us.length:=(List.getElem?_eq_some_iff.1 hu).1
  rw [Array.getElem?_append_left (by simpa using hlt)]
  simpa [hu] using hc
 | none =>
  show Conc E .un _
  have hge:us.length≤x:=by rw [← hlen]; exact List.getElem?_eq_none_iff.1 hx
  rw [Array.getElem?_append_right (by simpa using hge)]
  rw [Array.getElem?_replicate]
  split <;> exact Conc.un (E:=E)
theorem asAddr_run {t:TypeId} {u x:Value} {w':World} (h:(Instr.loadAt t u).run P w = .ok x w'):(do loadVar t (← asAddr u):Sem Value).run P w = .ok x w':=by
 have stk:∀ s,(do let a ← (stuck s:Sem Addr); loadVar t a:Sem Value).run P w = .ok x w'→False:=by
  intro s h
  rw [Sem.run_bind] at h
  cases h
 unfold Instr.loadAt at h
 cases u with
 | pointer a =>
  cases a with
  | some a=>exact h
  | none=>exact (stk _ h).elim
 | _=>exact (stk _ h).elim
def resVal (tmps:Array Value):ResultVar→Sem Value
 | .tmp t=>pure (tmps.getD t undef)
 | .cell a t=>do loadVar t (← asAddr (tmps.getD a undef))
theorem results_run (hr:Rel E w.heap st) {t:Tr AV} {tmps:Array Value} (ht:ConcT E nt t tmps):∀ {l:List ResultVar} {vs:List AV},pmapO (resOne P t st) l=some vs →
  ∃ us,(l.mapM (resVal tmps)).run P w = .ok us w∧ConcL E vs us
 | [],vs,h=>by cases h; exact ⟨[],by simp,.nil⟩
 | r :: l,vs,h=>by
  unfold pmapO at h
  cases hr1:resOne P t st r with
  | none=>rw [hr1] at h; cases h
  | some v =>
   rw [hr1] at h
   simp only at h
   cases hl:pmapO (resOne P t st) l with
   | none=>rw [hl] at h; cases h
   | some vs' =>
    rw [hl] at h; cases h
    obtain ⟨us,h1,h2⟩:=results_run hr ht hl
    have:∃ u,(resVal tmps r).run P w = .ok u w∧Conc E v u:=by
     cases r with
     | tmp x =>
      refine ⟨tmps.getD x undef,rfl,?_⟩
      cases hr1
      exact ht.2 x
     | cell a ty =>
      have hr1:(match t.get a with | some v=>loadAt P ty st v | none=>none)=some v:=hr1
      have hc:=ht.2 a
      unfold tget at hc
      cases hg:t.get a with
      | none=>rw [hg] at hr1; cases hr1
      | some z =>
       rw [hg] at hr1 hc
       obtain ⟨u,k1,k2⟩:=loadAt_spec hr hr1 hc
       exact ⟨u,asAddr_run k1,k2⟩
    obtain ⟨u,k1,k2⟩:=this
    refine ⟨u :: us,?_,.cons _ _ _ _ k2 h2⟩
    rw [List.mapM_cons,Sem.run_bind,k1]
    simp only [Result.andThen_ok,Sem.run_bind,h1,Sem.run_pure]
theorem resOf_spec (hr:Rel E w.heap st) {fn:Func} {t:Tr AV} {tmps:Array Value} (ht:ConcT E nt t tmps) {v:AV} {st':St} (h:resOf P fn.results.toList t st=some (v,st')) :
  st'=st∧∃ u,(results fn tmps).run P w = .ok u w∧Conc E v u:=by
 unfold resOf at h
 have key:∀ {vs:List AV},pmapO (resOne P t st) fn.results.toList=some vs→∃ us,(results fn tmps).run P w = .ok (if h:us.toArray.size=1 then us.toArray[0] else .tuple us.toArray) w∧ConcL E vs us:=by
  intro vs hp
  obtain ⟨us,h1,h2⟩:=results_run (P:=P) hr ht hp
  refine ⟨us,?_,h2⟩
  have e:results fn tmps=(do let vs ← fn.results.mapM (resVal tmps); pure (if h:vs.size=1 then vs[0] else .tuple vs)):=rfl
  rw [e,Sem.run_bind,Array.mapM_eq_mapM_toList,Sem.run_map,h1]
  rfl
 split at h
 ·rename_i v' hp
  cases h
  obtain ⟨us,h1,h2⟩:=key hp
  cases h2 with
  | cons _ _ u us hu hus =>
   cases hus
   exact ⟨rfl,u,h1,hu⟩
 ·rename_i vs hne hp
  cases h
  obtain ⟨us,h1,h2⟩:=key hp
  refine ⟨rfl,.tuple us.toArray,?_,.tu _ _ h2⟩
  rw [h1]
  have:us.toArray.size≠1:=by
   intro e
   have e':vs.length=1:=by rw [h2.length]; simpa using e
   match vs,e' with
   | [v],_=>first | exact hne v hp | exact hne v rfl
  rw [dif_neg this]
 ·cases h
theorem body_specK (hS:SelfOK P S) {kind:CallKind} {n:Nat} {f:FuncId} {as:List AV} {us:List Value} (hr:Rel E w.heap st) (hc:ConcL E as us) {v:AV} {st':St} (h:evBody P S n f as st=some (v,st')) (hn:st'.next≤E.top) :
  ∃ E' w' cv,CallsK P kind f us.toArray w w' cv∧StepW E E' w w' st st'∧Conc E' v cv:=by
 unfold evBody at h
 split at h
 ·cases h
 rename_i fn hf
 split at h
 ·cases h
 rename_i c hbody
 obtain ⟨hlen,h⟩:=brec h
 have hlen':as.length≤fn.ntmps:=by simpa [Nat.ble_eq] using hlen
 have ht:=enter_conc (nt:=fn.ntmps) hc hlen'
 let fb:Frame:={ fn:=f,tmps:=us.toArray++Array.replicate (fn.ntmps - us.toArray.size) undef,todo:=[],defers:=[],mode:=.run,kind:=kind }
 let a0:Act:={ tmps:=us.toArray++Array.replicate (fn.ntmps - us.toArray.size) undef,defers:=[] }
 have hent:Frame.enter P f us.toArray kind=fb.atR a0 [.code c]:=by
  simp [Frame.enter,hf,hbody,Frame.atR,fb,a0]
 have h:endF P fn.results.toList (evCD ⟨P,S,false,fn.ntmps,n⟩ c (tmpsOf as 0 .lf) st)=some (v,st'):=h
 have hst1:∀ {l:List ResultVar} {t:Tr AV} {st1:St},resOf P l t st1=some (v,st')→st1=st':=by
  intro l t st1 h
  unfold resOf at h
  split at h <;> first | (cases h; rfl) | cases h
 have fin:∀ {t:Tr AV} {st1:St},resOf P fn.results.toList t st1=some (v,st')→(∃ E' a' w' todo,StepW E E' w w' st st1∧ConcT E' fn.ntmps t a'.tmps∧∀ cs,Steps P (lone (fb.atR a0 [.code c]) cs w) (lone { fb.atR a' todo with mode:=.returning,defers:=[] } cs w')) →
   ∃ E' w' cv,CallsK P kind f us.toArray w w' cv∧StepW E E' w w' st st'∧Conc E' v cv:=by
  rintro t st1 hres ⟨E1,a1,w2,todo,k1,k2,k3⟩
  obtain ⟨rfl,u,k5,k4⟩:=resOf_spec (P:=P) k1.rel k2 hres
  refine ⟨E1,w2,u,fun cs=>⟨{ fb.atR a1 todo with mode:=.returning,defers:=[] },?_,rfl,rfl,rfl,rfl,fn,hf,k5⟩,k1,k4⟩
  rw [hent]; exact k3 cs
 have hE:∀ {o:Out},evCD ⟨P,S,false,fn.ntmps,n⟩ c (tmpsOf as 0 .lf) st=o→o.lim E.top→Ends P E fn.ntmps fb w st (fun cs=>lone (fb.atR a0 [.code c]) cs w) o:=by
  intro o ho hl
  subst ho
  exact topCD_spec (P:=P) (b:=fb) (x:=⟨P,S,false,fn.ntmps,n⟩) rfl hS rfl rfl rfl (a:=a0) hr ht rfl hl
 unfold endF at h
 split at h
 ·rename_i t st1 hev
  have:=hst1 h; subst this
  exact fin h (hE hev hn)
 ·rename_i t st1 hev
  have:=hst1 h; subst this
  exact fin h (hE hev hn)
 ·cases h
theorem body_spec (hS:SelfOK P S) {n:Nat} {f:FuncId} {as:List AV} {us:List Value} (hr:Rel E w.heap st) (hc:ConcL E as us) {v:AV} {st':St} (h:evBody P S n f as st=some (v,st')) (hn:st'.next≤E.top) :
  ∃ E' w' cv,CallsTo P f us.toArray w w' cv∧StepW E E' w w' st st'∧Conc E' v cv:=by
 obtain ⟨E',w',cv,h1,h2,h3⟩:=body_specK (kind:=.normal) hS hr hc h hn
 exact ⟨E',w',cv,h1.to,h2,h3⟩
theorem self_ok (hng:NoNG P) (hmx:P.follows .mixedOrders=true):∀ n,SelfOK P (self P n)
 | 0=>⟨hng,hmx,self_up P 0,fun _ _ h _=>(by cases h),fun _ _ _ _ _ _=>trivial,fun _ _ h _=>(by cases h)⟩
 | n+1=>⟨hng,hmx,self_up P (n+1),fun hr hc h hn=>body_spec (self_ok hng hmx n) hr hc h hn,fun {E w st nt c t a b} k hb hr ht hm hl =>
   code_spec (P:=P) (n0:=0) c ⟨P,self P n,true,nt,n⟩ rfl (self_ok hng hmx n) k hb.symm hr ht hm (Nat.zero_le _) hl,fun hr hc h hn=>body_specK (self_ok hng hmx n) hr hc h hn⟩
end
end
end Go.Ev
