/-
  Regions that draw their order: what the look at the text settles; what is kept of the run in the text's order. · Regions in the text's order. · What operations of each kind ask of the memory.
-/
import Derived.Test.YtbemeikjepjhoaaGreatDoorS13
namespace Go.Ev
noncomputable section
theorem put_defers (a:Act) (d:Option Tmp) (v:Value):(a.put d v).defers=a.defers:=by cases d <;> rfl
theorem ahead_spec {acc:List Nat}:∀ {l:List Edge} {m:Nat},ahead acc l=some m →
  (∀ e ∈ l,Region.binds .any e=true→e.on < acc.length)∧∀ i,m.testBit i=true→∃ e ∈ l,Region.binds .any e=true∧(i=e.on∨(numAt acc e.on).testBit i=true)
 | [],m,h=>by cases h; exact ⟨fun e h=>by (cases h),fun i h=>by simp at h⟩
 | e :: l,m,h=>by
  unfold ahead at h
  cases ha:ahead acc l with
  | none=>rw [ha] at h; cases h
  | some m' =>
   rw [ha] at h
   simp only at h
   obtain ⟨h1,h2⟩:=ahead_spec ha
   cases hb:Region.binds .any e with
   | false =>
    rw [hb] at h
    cases h
    refine ⟨fun x hx hbx=>?_,fun i hi=>?_⟩
    ·rcases List.mem_cons.1 hx with rfl | hx
     ·rw [hb] at hbx; cases hbx
     ·exact h1 x hx hbx
    ·obtain ⟨x,hx,k1,k2⟩:=h2 i hi
     exact ⟨x,List.mem_cons_of_mem _ hx,k1,k2⟩
   | true =>
    rw [hb] at h
    simp only [cond_true] at h
    cases hk:acc[e.on]? with
    | none=>rw [hk] at h; cases h
    | some k =>
     rw [hk] at h
     cases h
     have hlt:e.on < acc.length:=(List.getElem?_eq_some_iff.1 hk).1
     refine ⟨fun x hx hbx=>?_,fun i hi=>?_⟩
     ·rcases List.mem_cons.1 hx with rfl | hx
      ·exact hlt
      ·exact h1 x hx hbx
     ·have hi':(m' ||| (2 ^ e.on ||| k)).testBit i=true:=hi
      rw [Nat.testBit_or,Nat.testBit_or,Bool.or_eq_true,Bool.or_eq_true] at hi'
      rcases hi' with hi' | hi' | hi'
      ·obtain ⟨x,hx,k1,k2⟩:=h2 i hi'
       exact ⟨x,List.mem_cons_of_mem _ hx,k1,k2⟩
      ·rw [Nat.testBit_two_pow] at hi'
       exact ⟨e,List.mem_cons_self ..,hb,.inl (by simpa using (of_decide_eq_true hi').symm)⟩
      ·exact ⟨e,List.mem_cons_self ..,hb,.inr (by simpa [numAt,hk] using hi')⟩
theorem befs_spec:∀ {l:List Oper} {acc bs:List Nat},befs l acc=some bs→bs.length=acc.length+l.length∧(∀ i,i < acc.length→bs[i]? = acc[i]?) ∧
  ∀ j o,l[j]? = some o→(∀ e ∈ o.after,Region.binds .any e=true→e.on < acc.length+j) ∧
   ∀ i,(numAt bs (acc.length+j)).testBit i=true→∃ e ∈ o.after,Region.binds .any e=true∧(i=e.on∨(numAt bs e.on).testBit i=true)
 | [],acc,bs,h=>by cases h; exact ⟨by simp,fun _ _=>rfl,fun j o h=>by simp at h⟩
 | o :: l,acc,bs,h=>by
  unfold befs at h
  cases ha:ahead acc o.after.toList with
  | none=>rw [ha] at h; cases h
  | some m =>
   rw [ha] at h
   simp only at h
   obtain ⟨h1,h2,h3⟩:=befs_spec h
   obtain ⟨k1,k2⟩:=ahead_spec ha
   have hpre:∀ i,i < acc.length→bs[i]? = acc[i]?:=fun i hi=>by
    rw [h2 i (by simp; omega),List.getElem?_append_left hi]
   refine ⟨by rw [h1]; simp; omega,hpre,fun j x hx=>?_⟩
   cases j with
   | zero =>
    have:o=x:=by simpa using hx
    subst this
    refine ⟨fun e he hb=>k1 e (by simpa using he) hb,fun i hi=>?_⟩
    have hm:bs[acc.length]? = some m:=by rw [h2 _ (by simp)]; simp
    rw [Nat.add_zero] at hi
    unfold numAt at hi
    rw [hm] at hi
    obtain ⟨e,he,hb,hh⟩:=k2 i hi
    refine ⟨e,by simpa using he,hb,hh.imp id fun hh=>?_⟩
    have:=k1 e he hb
    unfold numAt at hh ⊢
    rw [hpre _ this]; exact hh
   | succ j =>
    have hx':l[j]? = some x:=by simpa using hx
    have:=h3 j x hx'
    have e:(acc++[m]).length+j=acc.length+(j+1):=by simp; omega
    rw [e] at this
    exact this
theorem pairsOk_spec {ops:Array Oper} {bs:List Nat} {y:Oper} {bj:Nat}:∀ {l:List Oper} {k:Nat},pairsOk ops bs y bj l k=true→∀ i x,l[i]? = some x →
  pairOk ops x y (bj.testBit (k+i))=true∧earlyOk ops bs x y (k+i) (bj.testBit (k+i))=true
 | [],k,h,i,x,hx=>by simp at hx
 | z :: l,k,h,i,x,hx=>by
  unfold pairsOk at h
  simp only [Bool.and_eq_true] at h
  cases i with
  | zero =>
   have:z=x:=by simpa using hx
   subst this
   simpa using h.1
  | succ i =>
   have:=pairsOk_spec h.2 i x (by simpa using hx)
   have e:k+1+i=k+(i+1):=by omega
   rw [e] at this
   exact this
theorem drawOkF_spec {ops:Array Oper} {all:List Nat}:∀ {l done:List Oper} {bs:List Nat},drawOkF ops all done l bs=true→∀ j y b,l[j]? = some y→bs[j]? = some b→isSel y.op=false∧pairsOk ops all y b (done++l.take j) 0=true
 | [],done,bs,h,j,y,b,hy,hb=>by simp at hy
 | z :: l,done,[],h,j,y,b,hy,hb=>by simp at hb
 | z :: l,done,c :: bs,h,j,y,b,hy,hb=>by
  unfold drawOkF at h
  simp only [Bool.and_eq_true] at h
  cases j with
  | zero =>
   have e1:z=y:=by simpa using hy
   have e2:c=b:=by simpa using hb
   subst e1; subst e2
   simpa using h.1
  | succ j =>
   have:=drawOkF_spec h.2 j y b (by simpa using hy) (by simpa using hb)
   simpa using this
theorem readersOk_spec {ops:Array Oper} {y:Oper} {i:Nat}:∀ {l:List Oper} {bs:List Nat},readersOk ops y i l bs=true→∀ (h:Nat) (o:Oper) (b:Nat),l[h]? = some o→bs[h]? = some b→∀ d,y.dst=some d→d ∈ o.looksAt ops→b.testBit i=true
 | [],bs,_,h,o,b,ho,hb=>by simp at ho
 | z :: l,[],_,h,o,b,ho,hb=>by simp at hb
 | z :: l,c :: bs,hr,h,o,b,ho,hb=>by
  intro d hd hmem
  unfold readersOk at hr
  simp only [Bool.and_eq_true] at hr
  cases h with
  | zero =>
   have e1:z=o:=by simpa using ho
   have e2:c=b:=by simpa using hb
   subst e1; subst e2
   have:=hr.1
   rw [hd] at this
   simp only [List.contains_iff_mem.2 hmem,cond_true] at this
   exact this
  | succ h=>exact readersOk_spec hr.2 h o b (by simpa using ho) (by simpa using hb) d hd hmem
structure Settled (ops:Array Oper) (bs:List Nat):Prop where
 nosel:∀ (j:Nat) (o:Oper),ops[j]? = some o→isSel o.op=false
 edge:∀ j o,ops[j]? = some o→∀ e ∈ o.after,Region.binds .any e=true→e.on < j
 bef:∀ j o i,ops[j]? = some o→(numAt bs j).testBit i=true→∃ e ∈ o.after,Region.binds .any e=true∧(i=e.on∨(numAt bs e.on).testBit i=true)
 pair:∀ i j x y,i < j→ops[i]? = some x→ops[j]? = some y→pairOk ops x y ((numAt bs j).testBit i)=true
 early:∀ i j x y,i < j→ops[i]? = some x→ops[j]? = some y→kind x.op=3→kind y.op=2→(numAt bs j).testBit i=false→∀ h o,ops[h]? = some o→∀ d,y.dst=some d→d ∈ o.looksAt ops→(numAt bs h).testBit i=true
theorem settled {ops:Array Oper} {bs:List Nat} (hb:befs ops.toList []=some bs) (hd:drawOkF ops bs [] ops.toList bs=true):Settled ops bs:=by
 obtain ⟨h1,h2,h3⟩:=befs_spec hb
 have hlen:bs.length=ops.size:=by simpa using h1
 have hl:∀ (j:Nat) (o:Oper),ops[j]? = some o→ops.toList[j]? = some o:=fun j o h=>by rw [Array.getElem?_toList]; exact h
 have hbs:∀ (j:Nat) (o:Oper),ops[j]? = some o→bs[j]? = some (numAt bs j):=fun j o h=>by
  have:j < bs.length:=by rw [hlen]; exact (Array.getElem?_eq_some_iff.1 h).1
  simp [numAt,List.getElem?_eq_getElem this]
 have hp:∀ (i j:Nat) (x y:Oper),i < j→ops[i]? = some x→ops[j]? = some y→pairOk ops x y ((numAt bs j).testBit i)=true∧earlyOk ops bs x y i ((numAt bs j).testBit i)=true:=by
  intro i j x y hij hx hy
  have:=(drawOkF_spec hd j y _ (hl j y hy) (hbs j y hy)).2
  have:=pairsOk_spec this i x (by rw [List.nil_append,List.getElem?_take_of_lt hij]; exact hl i x hx)
  simpa using this
 refine ⟨fun j o ho=>(drawOkF_spec hd j o _ (hl j o ho) (hbs j o ho)).1,fun j o ho e he hb=>by simpa using (h3 j o (hl j o ho)).1 e he hb,fun j o i ho hi=>(h3 j o (hl j o ho)).2 i (by simpa using hi),fun i j x y hij hx hy=>(hp i j x y hij hx hy).1,?_⟩
 intro i j x y hij hx hy kx ky hno h o ho d hd hmem
 have:=(hp i j x y hij hx hy).2
 unfold earlyOk at this
 rw [kx,ky,hno] at this
 have:readersOk ops y i ops.toList bs=true:=this
 exact readersOk_spec this h o _ (hl h o ho) (hbs h o ho) d hd hmem
theorem anyK_spec {b p:Nat}:∀ {l:List Nat} {k:Nat},anyK b p l k=true→∃ i,l[i]? = some 3∧p≤k+i∧b.testBit (k+i)=true
 | [],k,h=>by simp [anyK] at h
 | x :: l,k,h=>by
  unfold anyK at h
  simp only [Bool.or_eq_true,Bool.and_eq_true] at h
  rcases h with ⟨h1,h2,h3⟩ | h
  ·refine ⟨0,?_,by simpa [Nat.ble_eq] using h1,by simpa using h3⟩
   have:x=3:=by simpa using h2
   simp [this]
  ·obtain ⟨i,k1,k2,k3⟩:=anyK_spec h
   exact ⟨i+1,by simpa using k1,by omega,by rw [show k+(i+1)=k+1+i by omega]; exact k3⟩
theorem calm_spec {p j:Nat}:∀ {l:List Nat} {k:Nat},calm p j l k=true→∀ i x,l[i]? = some x→p≤k+i→k+i < j→x < 2
 | [],k,h,i,x,hx,_,_=>by simp at hx
 | y :: l,k,h,i,x,hx,hp,hj=>by
  unfold calm at h
  simp only [Bool.or_eq_true,Bool.and_eq_true] at h
  cases i with
  | zero =>
   have:y=x:=by simpa using hx
   subst this
   rcases h.1 with h | h | h
   ·have:k < p:=by simpa [Nat.blt_eq] using h
    omega
   ·have:j≤k:=by simpa [Nat.ble_eq] using h
    omega
   ·simpa [Nat.blt_eq] using h
  | succ i=>exact calm_spec h.2 i x (by simpa using hx) (by omega) (by omega)
theorem starts_mem:∀ {l:List Nat} {k i:Nat},l[i]? = some 3→k+i+1 ∈ starts l k
 | [],k,i,h=>by simp at h
 | x :: l,k,0,h=>by
  have:x=3:=by simpa using h
  subst this
  simp [starts]
 | x :: l,k,i+1,h=>by
  have:=starts_mem (k:=k+1) (i:=i) (l:=l) (by simpa using h)
  rw [show k+1+i+1=k+(i+1)+1 by omega] at this
  unfold starts
  cases Nat.beq x 3
  ·exact this
  ·exact List.mem_cons_of_mem _ this
theorem floatsOf_mem {ks bs ps:List Nat}:∀ {l:List Nat} {k j p:Nat},l[j]? = some 1→p ∈ ps→pinned ks bs (k+j) p=false→(k+j,p) ∈ floatsOf ks bs ps l k
 | [],k,j,p,h,_,_=>by simp at h
 | x :: l,k,0,p,h,hp,hn=>by
  have:x=1:=by simpa using h
  subst this
  unfold floatsOf
  have e:Nat.beq 1 1=true:=rfl
  rw [e]
  simp only [cond_true,List.mem_append]
  left
  exact List.mem_map.2 ⟨p,List.mem_filter.2 ⟨hp,by rw [show k+0=k by omega] at hn; simp [hn]⟩,by simp⟩
 | x :: l,k,j+1,p,h,hp,hn=>by
  have:=floatsOf_mem (ks:=ks) (bs:=bs) (ps:=ps) (l:=l) (k:=k+1) (j:=j) (p:=p) (by simpa using h) hp (by rw [show k+1+j=k+(j+1) by omega]; exact hn)
  rw [show k+1+j=k+(j+1) by omega] at this
  unfold floatsOf
  cases Nat.beq x 1
  ·exact this
  ·exact List.mem_append.2 (.inr this)
def rec0:Rec:=⟨.lf,⟨.lf,.lf,0⟩,.un,false⟩
def recAt (R:List Rec) (i:Nat):Rec:=match R[i]? with | some r=>r | none=>rec0
def RecOK (P:Program) (S:Self) (nt:Nat) (ops:Array Oper) (o:Oper) (r r':Rec):Prop :=
 guardOk ops r.t o=some r.w∧putT nt r.t o.dst r.v=some r'.t∧(r.w=false→r.v = .un∧r'.st=r.st)∧(r.w=true→evOp P S r.t r.st o=some (r.v,r'.st))
theorem recs_spec {P:Program} {S:Self} {nt:Nat} {ops:Array Oper}:∀ {l:List Oper} {t:Tr AV} {st:St} {R:List Rec},recs P S nt ops l t st=some R →
  R.length=l.length+1∧(recAt R 0).t=t∧(recAt R 0).st=st∧∀ i o,l[i]? = some o→RecOK P S nt ops o (recAt R i) (recAt R (i+1))
 | [],t,st,R,h=>by
  cases h
  exact ⟨rfl,rfl,rfl,fun i o h=>by simp at h⟩
 | o :: l,t,st,R,h=>by
  have cons:∀ {r:Rec} {t':Tr AV} {st':St} {k:Option (List Rec)},onRec r k=some R→r.t=t→r.st=st→(∀ R',k=some R'→R'.length=l.length+1∧(recAt R' 0).t=t'∧(recAt R' 0).st=st'∧∀ i o,l[i]? = some o→RecOK P S nt ops o (recAt R' i) (recAt R' (i+1))) →
    (∀ r':Rec,r'.t=t'→r'.st=st'→RecOK P S nt ops o r r') →
    R.length=(o :: l).length+1∧(recAt R 0).t=t∧(recAt R 0).st=st∧∀ i x,(o :: l)[i]? = some x→RecOK P S nt ops x (recAt R i) (recAt R (i+1)):=by
   intro r t' st' k hk ht hst hR hok
   cases k with
   | none=>cases hk
   | some R' =>
    cases hk
    obtain ⟨k1,k2,k3,k4⟩:=hR R' rfl
    refine ⟨by simp [k1],ht,hst,fun i x hx=>?_⟩
    cases i with
    | zero =>
     have:o=x:=by simpa using hx
     subst this
     exact hok _ k2 k3
    | succ i=>exact k4 i x (by simpa using hx)
  unfold recs at h
  split at h
  ·rename_i hg
   unfold recsV at h
   split at h
   ·rename_i v st' hv
    unfold recsT at h
    split at h
    ·rename_i t' hp
     exact cons h rfl rfl (fun R' hR'=>recs_spec hR') fun r' e1 e2=>⟨hg,(by rw [e1]; exact hp),fun h=>(by cases h),fun _=>(by rw [e2]; exact hv)⟩
    ·cases h
   ·cases h
  ·rename_i hg
   unfold recsT at h
   split at h
   ·rename_i t' hp
    exact cons h rfl rfl (fun R' hR'=>recs_spec hR') fun r' e1 e2=>⟨hg,(by rw [e1]; exact hp),fun _=>⟨rfl,e2⟩,fun h=>(by cases h)⟩
   ·cases h
  ·cases h
theorem lastOf_spec:∀ {R:List Rec} {n:Nat},R.length=n+1→lastOf R = .nx (recAt R n).t (recAt R n).st
 | [],n,h=>by simp at h
 | [r],n,h=>by
  have:n=0:=by simpa using h.symm
  subst this
  rfl
 | r :: q :: l,n,h=>by
  cases n with
  | zero=>simp at h
  | succ n =>
   have:=lastOf_spec (R:=q :: l) (n:=n) (by simpa using h)
   exact this
end
end Go.Ev
namespace Go.Ev
noncomputable section
section
variable {P : Program} {S : Self} {w : World} {E : Env} {st : St} {nt n0 : Nat} {b : Frame}
theorem Arr.pre {E1:Env} {w1:World} {st1:St} {m m1:List Frame→Machine} {k:List Item} {r:Out} (hs:StepW E E1 w w1 st st1) (hm:∀ cs,Steps P (m cs) (m1 cs)) (h:Arr P n0 E1 nt b w1 st1 m1 k r) :
  Arr P n0 E nt b w st m k r:=by
 cases r with
 | nx t st'=>obtain ⟨E',a',w',h1,h2,h3,h4⟩:=h; exact ⟨E',a',w',hs.trans h1,h2,h3,fun cs=>(hm cs).trans (h4 cs)⟩
 | ex id t st'=>obtain ⟨E',a',w',h1,h2,h3,h4⟩:=h; exact ⟨E',a',w',hs.trans h1,h2,h3,fun k' hk cs=>(hm cs).trans (h4 k' hk cs)⟩
 | rt t st'=>intro hb; obtain ⟨E',a',w',todo,h1,h2,h3,h4⟩:=h hb; exact ⟨E',a',w',todo,hs.trans h1,h2,h3,fun cs=>(hm cs).trans (h4 cs)⟩
 | no=>trivial
theorem Arr.pre1 {m m1:List Frame→Machine} {k:List Item} {r:Out} (hr:Rel E w.heap st) (hm:∀ cs,step P (m cs) = .next (m1 cs)) (h:Arr P n0 E nt b w st m1 k r) :
  Arr P n0 E nt b w st m k r:=Arr.pre (.refl hr) (fun cs=>Steps.one (hm cs)) h
theorem lim_up {st1:St} {r:Out} {n:Nat} (h:UpO st1 r) (hl:r.lim n):r = .no∨st1.next≤n:=by
 cases r with
 | nx t st'=>exact .inr (Nat.le_trans (h.1 _ _ rfl) hl)
 | ex i t st'=>exact .inr (Nat.le_trans (h.2.1 _ _ _ rfl) hl)
 | rt t st'=>exact .inr (Nat.le_trans (h.2.2 _ _ rfl) hl)
 | no=>exact .inl rfl
theorem ops_spec (hS:SelfOK P S) {ops:Array Oper} {k:List Item}:∀ (l:List Oper) (i:Nat),ops.toList.drop i=l→∀ {E:Env} {w:World} {st:St} {t:Tr AV} {a:Act},Rel E w.heap st→ConcT E nt t a.tmps→Marks n0 b.defers E w.heap st a.defers →
  (evOps P S nt ops l t st).lim E.top→Arr P n0 E nt b w st (fun cs=>lone (b.atR a (.inRegion ops (List.range' i l.length) :: k)) cs w) k (evOps P S nt ops l t st):=by
 intro l
 induction l with
 | nil =>
  intro i hi E w st t a hr ht hm hl
  exact ⟨E,a,w,.refl hr,ht,hm,fun cs=>Steps.one stepR_region_end⟩
 | cons o l ih =>
  intro i hi E w st t a hr ht hm hl
  have hoi:ops[i]? = some o:=by
   have:(ops.toList.drop i)[0]? = some o:=by rw [hi]; rfl
   simpa using this
  have hi':ops.toList.drop (i+1)=l:=by
   rw [← List.drop_drop,hi]; rfl
  have e:evOps P S nt ops (o :: l) t st=onG P S nt o t st (evOps P S nt ops l) (guardOk ops t o):=rfl
  rw [e] at hl ⊢
  have hrg:List.range' i (o :: l).length=i :: List.range' (i+1) l.length:=by simp [List.range'_succ]
  rw [hrg]
  cases hg:guardOk ops t o with
  | none=>rw [hg] at hl; exact trivial
  | some g =>
   rw [hg] at hl
   have hw:=guard_spec ht hg
   cases g with
   | false =>
    have e:onG P S nt o t st (evOps P S nt ops l) (some false)=onT (putT nt t o.dst .un) fun t=>evOps P S nt ops l t st:=rfl
    rw [e] at hl ⊢
    cases hp:putT nt t o.dst .un with
    | none=>exact trivial
    | some t1 =>
     rw [hp] at hl
     simp only [onT,Tr.seen_eq] at hl ⊢
     have ht1:ConcT E nt t1 (a.put o.dst undef).tmps:=put_spec ht hp .un
     refine Arr.pre1 hr (fun cs=>?_) (ih (i+1) hi' (a:=a.put o.dst undef) hr ht1 (by rw [put_defers]; exact hm) hl)
     have:=stepR_op_skip (P:=P) (b:=b) (a:=a) (k:=k) (cs:=cs) (w:=w) (ops:=ops) (i:=i) (rest:=List.range' (i+1) l.length) (by simp [hoi,hw])
     rw [hoi] at this
     exact this
   | true =>
    have e:onG P S nt o t st (evOps P S nt ops l) (some true)=onV nt t o.dst (evOp P S t st o) (evOps P S nt ops l):=rfl
    rw [e] at hl ⊢
    cases ho:evOp P S t st o with
    | none=>exact trivial
    | some p =>
     obtain ⟨v,st1⟩:=p
     rw [ho] at hl
     have e:onV nt t o.dst (some (v,st1)) (evOps P S nt ops l)=onT (putT nt t o.dst v) fun t=>evOps P S nt ops l t st1:=rfl
     rw [e] at hl ⊢
     cases hp:putT nt t o.dst v with
     | none=>exact trivial
     | some t1 =>
      rw [hp] at hl
      simp only [onT,Tr.seen_eq] at hl ⊢
      rcases lim_up (upo_evOps hS.up l t1 st1) hl with hno | hn
      ·rw [hno]; exact trivial
      ·obtain ⟨E',w',cv,hs,hc,hst⟩:=givesC_steps (b:=b) (k:=k) (rest:=List.range' (i+1) l.length) hoi hw (notDefer ho) (op_all hS hr (evO_conc ht) ho hn)
       have ht1:ConcT E' nt t1 (a.put o.dst cv).tmps:=put_spec (ht.mono hs.le) hp hc
       exact Arr.pre hs hst (ih (i+1) hi' (a:=a.put o.dst cv) hs.rel ht1 (by rw [put_defers]; exact hm.step hs.toStep) (by rw [hs.top]; exact hl))
end
end
end Go.Ev
namespace Go.Ev
noncomputable section
section
variable {P : Program} {S : Self} {w : World} {E : Env} {st : St}
theorem kind0 {t:Tr AV} {o:Oper} (hk:kind o.op=0):∃ f:Option AV,∀ st,evOp P S t st o=give st f:=by
 unfold evOp
 cases hop:o.op <;> rw [hop] at hk <;> first | (simp only [kind] at hk; omega; done) | skip
 case move x=>exact ⟨some (evO t x),fun st=>rfl⟩
 case assign x=>exact ⟨some (evO t x),fun st=>rfl⟩
 case pick c a b =>
  show ∃ f:Option AV,∀ st,pickB (evO t a) (evO t b) st (evO t c).asB=give st f
  cases (evO t c).asB with
  | none=>exact ⟨none,fun _=>rfl⟩
  | some x=>cases x; exact ⟨some (evO t b),fun _=>rfl⟩; exact ⟨some (evO t a),fun _=>rfl⟩
 case build ty ps =>
  show ∃ f:Option AV,∀ st,@Bool.rec (fun _=>Res) none (opBuild1 P ty (vals t ps.toList) st) (wfTy P ty)=give st f
  have hf:∀ pl z,∃ f:Option AV,∀ st,fillAg st pl (vals t ps.toList) z=give st f:=by
   intro pl z
   cases z with
   | none=>exact ⟨none,fun _=>rfl⟩
   | some z =>
    cases hfl:fill pl z (vals t ps.toList) with
    | none=>exact ⟨none,fun _=>by simp [fillAg,hfl,agSt,give]⟩
    | some l=>exact ⟨some (.ag l),fun _=>by simp [fillAg,hfl,agSt,give]⟩
  cases wfTy P ty with
  | false=>exact ⟨none,fun _=>rfl⟩
  | true =>
   show ∃ f:Option AV,∀ st,opBuild1 P ty (vals t ps.toList) st=give st f
   unfold opBuild1
   cases hu:P.underlying ty with
   | none=>exact ⟨none,fun _=>rfl⟩
   | some d=>cases d <;> first | exact hf _ _ | exact ⟨none,fun _=>rfl⟩
 case nilCheck x =>
  show ∃ f:Option AV,∀ st,notNil st (evO t x)=give st f
  cases evO t x <;> first
   | exact ⟨none,fun _=>rfl⟩
   | exact ⟨some _,fun _=>rfl⟩
   | skip
  rename_i g a b
  cases g <;> first | exact ⟨none,fun _=>rfl⟩ | exact ⟨some _,fun _=>rfl⟩
 case binOp=>exact ⟨_,fun st=>rfl⟩
 case unOp=>exact ⟨_,fun st=>rfl⟩
 case makeInterface xt x =>
  show ∃ f:Option AV,∀ st,opMakeInterface xt x P S t st=give st f
  unfold opMakeInterface
  cases hu:P.underlying xt with
  | none=>exact ⟨none,fun _=>rfl⟩
  | some d=>cases d <;> first | exact ⟨none,fun _=>rfl⟩ | exact ⟨some _,fun _=>rfl⟩
 case makeFunc fn a b =>
  show ∃ f:Option AV,∀ st,opMakeFunc fn a b P S t st=give st f
  unfold opMakeFunc
  cases notY fn with
  | false=>exact ⟨none,fun _=>rfl⟩
  | true=>exact ⟨some _,fun _=>rfl⟩
 case fieldAddr s x n =>
  show ∃ f:Option AV,∀ st,opFieldAddr s x n P S t st=give st f
  unfold opFieldAddr
  cases fieldOff P s n with
  | none=>exact ⟨none,fun _=>rfl⟩
  | some k =>
   simp only [fieldAt]
   cases (evO t x).asP with
   | some p=>exact ⟨some _,fun _=>rfl⟩
   | none=>cases (evO t x).asRp with
    | none=>exact ⟨none,fun _=>rfl⟩
    | some c=>exact ⟨some _,fun _=>rfl⟩
 case field s x n =>
  show ∃ f:Option AV,∀ st,opField s x n P S t st=give st f
  unfold opField
  split
  ·exact ⟨_,fun st=>rfl⟩
  ·exact ⟨none,fun st=>rfl⟩
 case indexAddr=>exact ⟨_,fun st=>rfl⟩
 case index=>exact ⟨_,fun st=>rfl⟩
 case extract x n =>
  show ∃ f:Option AV,∀ st,nth n st (evO t x)=give st f
  cases evO t x <;> first | exact ⟨none,fun _=>rfl⟩ | exact ⟨_,fun _=>rfl⟩
 case call c =>
  exfalso
  obtain ⟨callee,as,ts⟩:=c
  cases callee <;> first | (simp [kind] at hk; done) | skip
  rename_i bb
  cases bb <;> simp [kind] at hk
structure Sub (X Y:St):Prop where
 row:∀ r x,X.get r=some x→Y.get r=some x
 live:∀ g al,X.live.get g=some al→Y.live.get g=some al
theorem Sub.refl (X:St):Sub X X:=⟨fun _ _ h=>h,fun _ _ h=>h⟩
theorem Sub.ce {X Y:St} (h:Sub X Y) {r:Nat} {p:List AV × Nat × List Nat} (hp:X.ce r=some p):Y.ce r=some p:=by
 unfold St.ce at hp ⊢
 cases hg:X.get r with
 | none=>rw [hg] at hp; cases hp
 | some row =>
  rw [hg] at hp
  rw [h.row r row hg]
  cases row with
  | ce l g =>
   simp only at hp ⊢
   cases hl:X.live.get g with
   | none=>rw [hl] at hp; cases hp
   | some al=>rw [hl] at hp; rw [h.live g al hl]; exact hp
  | _=>cases hp
theorem Sub.sliceR {X Y:St} (h:Sub X Y) {t:TypeId} {x v:AV} {lo hi mx:Option AV} (hp:sliceR P X t x lo hi mx=some v):Ev.sliceR P Y t x lo hi mx=some v:=by
 unfold Ev.sliceR at hp ⊢
 split at hp
 ·rename_i v' hv'
  exact hp
 ·rename_i hno
  unfold sliceRoom at hp ⊢
  split at hp
  ·rename_i r o n z
   cases hce:X.ce r with
   | some lga=>rw [hce] at hp; rw [h.ce hce]; exact hp
   | none=>rw [hce] at hp; cases hp
  ·cases hp
theorem Sub.rd {X Y:St} (h:Sub X Y) {r o n:Nat} {l:List AV} (hp:rd X r o n=some l):rd Y r o n=some l:=by
 unfold Ev.rd at hp ⊢
 cases hc:X.ce r with
 | none=>rw [hc] at hp; cases hp
 | some p=>rw [hc] at hp; rw [h.ce hc]; exact hp
theorem Sub.loadAt {X Y:St} (h:Sub X Y) {t:TypeId} {a v:AV} (hp:loadAt P t X a=some v):Ev.loadAt P t Y a=some v:=by
 unfold Ev.loadAt at hp ⊢
 cases hi:hasInfo P t with
 | false=>rw [hi] at hp; cases hp
 | true =>
  rw [hi] at hp
  simp only at hp ⊢
  cases ha:a.asP with
  | none=>rw [ha] at hp; exact hp
  | some ro =>
   obtain ⟨r,o⟩:=ro
   rw [ha] at hp
   simp only at hp ⊢
   cases hg:isAg P t with
   | true =>
    rw [hg] at hp
    simp only at hp ⊢
    cases hr:Ev.rd X r o (szOf P t) with
    | none=>rw [hr] at hp; cases hp
    | some l=>rw [hr] at hp; rw [h.rd hr]; exact hp
   | false =>
    rw [hg] at hp
    simp only at hp ⊢
    cases hr:Ev.rd X r o 1 with
    | none=>rw [hr] at hp; cases hp
    | some l=>rw [hr] at hp; rw [h.rd hr]; exact hp
theorem Sub.lookup {X Y:St} (h:Sub X Y) {t:TypeId} {m k v:AV} {ok:Bool} (hp:lookup P t X m k ok=some v):Ev.lookup P t Y m k ok=some v:=by
 unfold Ev.lookup at hp ⊢
 cases hu:P.underlying t with
 | none=>rw [hu] at hp; cases hp
 | some d =>
  rw [hu] at hp
  cases d <;> first | (cases hp; done) | skip
  simp only at hp ⊢
  split at hp
  ·cases hp
  ·rename_i z hz
   cases hf:keyFits P t k with
   | false=>rw [hf] at hp; cases hp
   | true =>
    rw [hf] at hp
    simp only at hp ⊢
    split at hp
    ·exact hp
    ·rename_i r
     split at hp
     ·rename_i es c hg
      rw [h.row _ _ hg]; exact hp
     ·rename_i es hg
      rw [h.row _ _ hg]; exact hp
     ·cases hp
    ·cases hp
theorem Sub.len1 {X Y:St} (h:Sub X Y) {ts:List TypeId} {x v:AV} {X':St} (hp:bLen1 P X ts x=some (v,X')):bLen1 P Y ts x=some (v,Y):=by
 have i64:∀ {o:Option Nat},int64 X o=some (v,X')→int64 Y o=some (v,Y):=by
  intro o ho
  cases o with
  | none=>cases ho
  | some n=>cases ho; rfl
 cases ts with
 | nil=>cases hp
 | cons t r =>
  unfold bLen1 at hp ⊢
  simp only at hp ⊢
  cases hu:P.underlying t with
  | none=>rw [hu] at hp; cases hp
  | some d =>
   rw [hu] at hp
   cases d <;> first | (cases hp; done) | skip
   case string =>
    simp only at hp ⊢
    cases ht:isText x with
    | false=>rw [ht] at hp; cases hp
    | true=>rw [ht] at hp; exact i64 hp
   case slice e =>
    simp only at hp ⊢
    cases ht:isText x with
    | false=>rw [ht] at hp; exact i64 hp
    | true=>rw [ht] at hp; cases hp
   case map k e =>
    replace hp:lenMap X x=some (v,X'):=hp
    show lenMap Y x=some (v,Y)
    unfold lenMap at hp ⊢
    cases x <;> first | (cases hp; done) | skip
    case m r =>
     simp only at hp ⊢
     cases hg:X.get r with
     | none=>rw [hg] at hp; cases hp
     | some row =>
      rw [hg] at hp
      rw [h.row _ _ hg]
      cases row <;> first | (cases hp; done) | (cases hp; rfl)
    case mn=>cases hp; rfl
   case chan dd e =>
    replace hp:lenChan X x=some (v,X'):=hp
    show lenChan Y x=some (v,Y)
    unfold lenChan at hp ⊢
    cases x <;> first | (cases hp; done) | skip
    case c r =>
     simp only at hp ⊢
     cases hg:X.get r with
     | none=>rw [hg] at hp; cases hp
     | some row =>
      rw [hg] at hp
      rw [h.row _ _ hg]
      cases row <;> first | (cases hp; done) | (cases hp; rfl)
    case cn=>cases hp; rfl
   case array n e=>exact i64 hp
   case pointer e =>
    simp only at hp ⊢
    cases hu':P.underlying e with
    | none=>rw [hu'] at hp; cases hp
    | some d' =>
     rw [hu'] at hp
     cases d' <;> first | (cases hp; done) | exact i64 hp
theorem kind1 {t:Tr AV} {o:Oper} (hk:kind o.op=1) {X Y X':St} (h:Sub X Y) {v:AV} (he:evOp P S t X o=some (v,X')):evOp P S t Y o=some (v,Y):=by
 unfold evOp at he ⊢
 have gv:∀ {a b:Option AV},give X a=some (v,X')→(∀ v,a=some v→b=some v)→give Y b=some (v,Y):=by
  intro a b ha hab
  obtain ⟨h1,_⟩:=give_spec ha
  rw [hab v h1]; rfl
 cases hop:o.op <;> rw [hop] at hk he <;> first | (simp only [kind] at hk; omega; done) | skip
 case load ty a=>exact gv (he:give X (loadAt P ty X (evO t a))=_) fun v hv=>h.loadAt hv
 case lookup ty m k ok=>exact gv (he:give X (lookup P ty X (evO t m) (evO t k) ok)=_) fun v hv=>h.lookup hv
 case slice ty x lo hi mx=>exact gv (he:give X (sliceR P X ty (evO t x) (lo.map (evO t)) (hi.map (evO t)) (mx.map (evO t)))=_) fun v hv=>h.sliceR hv
 case call c =>
  obtain ⟨callee,as,ts⟩:=c
  cases callee <;> first | (simp [kind] at hk; done) | skip
  rename_i bb
  cases bb <;> first | (simp [kind] at hk; done) | skip
  have he:bLen P X ts.toList (args t as.toList)=some (v,X'):=he
  show bLen P Y ts.toList (args t as.toList)=some (v,Y)
  unfold bLen at he ⊢
  split at he
  ·exact h.len1 he
  ·cases he
theorem kind2 {t:Tr AV} {ρ:Operand→Value} (hρ:∀ x,Conc E (evO t x) (ρ x)) {o:Oper} (hk:kind o.op=2) {v:AV} {st':St} (he:evOp P S t st o=some (v,st')) :
  ∃ l,st'=st.newCe l∧∃ z ob n,(execOp ρ o).run P w = .ok (.value z) { w with heap:=w.heap.push ob }∧(∀ g,RowOK E (w.heap.push ob) ⟨w.heap.size,0,n⟩ (.ce l g)) ∧
   ∀ F,F.phi st.next=some ⟨w.heap.size,0,n⟩→Conc F v z:=by
 have row:∀ {l:List AV} {us:Array Value} (ty:TypeId),ConcL E l us.toList→∀ g,RowOK E (w.heap.push (.cells us ty)) ⟨w.heap.size,0,us.size⟩ (.ce l g):=by
  intro l us ty hc g
  have hlen:=hc.length
  refine ⟨us,ty,(0,0),by simp,.inl rfl,rfl,by simp at hlen ⊢; omega,?_⟩
  rw [List.drop_zero,List.take_of_length_le (by simp at hlen ⊢; omega)]
  exact hc
 unfold evOp at he
 cases hop:o.op <;> rw [hop] at hk he <;> first | (simp only [kind] at hk; omega; done) | skip
 case alloc e =>
  have he:allocC st (zeroC P e)=some (v,st'):=he
  cases hz:zeroC P e with
  | none=>rw [hz] at he; cases he
  | some l =>
   rw [hz] at he; cases he
   obtain ⟨z,g1,g2,g3,g4⟩:=zeroC_spec (E:=E) hz
   refine ⟨l,rfl,.pointer (some ⟨w.heap.size,0,none⟩),.cells z.cells e,z.cells.size,?_,row e g2,fun F hF=>?_⟩
   ·simp only [execOp,hop,Instr.alloc,newVar,Sem.run_bind,g1,Result.andThen_ok,newRow,run_newObj,Sem.run_pure]
   ·have:=Conc.p (E:=F) st.next 0 _ hF
    simpa using this
 case box e x =>
  have he:allocC st (evO t x).cells=some (v,st'):=he
  cases hz:(evO t x).cells with
  | none=>rw [hz] at he; cases he
  | some l =>
   rw [hz] at he; cases he
   have g2:=cells_conc (hρ x) hz
   refine ⟨l,rfl,.pointer (some ⟨w.heap.size,0,none⟩),.cells (ρ x).cells e,(ρ x).cells.size,?_,row e g2,fun F hF=>?_⟩
   ·simp only [execOp,hop,Instr.box,newVar,Sem.run_bind,Result.andThen_ok,newRow,run_newObj,Sem.run_pure]
   ·have:=Conc.p (E:=F) st.next 0 _ hF
    simpa using this
 case buildSlice ty len parts =>
  have he:opBuildSlice ty len parts P S t st=some (v,st'):=he
  unfold opBuildSlice at he
  split at he
  ·cases he
  ·rename_i e hel
   have hu:=elOf_spec hel
   cases hz:zeroC P e with
   | none=>rw [hz] at he; cases he
   | some z =>
    rw [hz] at he
    obtain ⟨hle,he⟩:=brec he
    obtain ⟨zero,g1,g2⟩:=zeros_run (E:=E) hz len
    have hi:hasInfo P e=true:=by obtain ⟨_,_,_,g3,_⟩:=zeroC_spec (E:=E) hz; exact g3
    cases hf:fill (placeE (szOf P e)) (rep len z) (vals t parts.toList) with
    | none=>rw [hf] at he; cases he
    | some l' =>
     rw [hf] at he
     obtain ⟨us',h1,h2⟩:=fill_spec hρ parts.toList _ l' _ hf g2
     cases he
     refine ⟨l',rfl,.slice (some ⟨w.heap.size,0,none⟩) len len,.cells us' e,us'.size,?_,row e h2,fun F hF=>.slk st.next 0 len (szOf P e) len _ (Nat.le_refl _) (.inr ⟨_,hF,by simp⟩)⟩
     have hle':¬ len * szOf P e > 2 ^ 24:=by have:=Nat.le_of_ble_eq_true hle; omega
     have h1':Instr.fill (fun i=>some (i * szOf P e,szOf P e)) ((Array.range (len * szOf P e)).map (zero[· % zero.size]!)) (parts.map fun (i,x)=>(i,ρ x)).toList=some us':=by
      have:(fun i=>some (i * szOf P e,szOf P e))=placeE (szOf P e):=rfl
      rw [this]; simpa using h1
     have key:(Instr.buildSlice ty len (parts.map fun (i,x)=>(i,ρ x))).run P w = .ok (.slice (some ⟨w.heap.size,0,none⟩) len len) { w with heap:=w.heap.push (.cells us' e) }:=by
      simp only [Instr.buildSlice,Sem.run_bind,run_under hu,Result.andThen_ok,run_size hi,if_neg hle']
      refine (g1 (fun zero=>_) w).trans ?_
      rw [h1']
      simp only [Sem.run_bind,newRow,run_newObj,Result.andThen_ok,Sem.run_pure]
     simp only [execOp,hop,Sem.run_bind,key,Result.andThen_ok,Sem.run_pure]
 case call c =>
  exfalso
  obtain ⟨callee,as,ts⟩:=c
  cases callee <;> first | (simp [kind] at hk; done) | skip
  rename_i bb
  cases bb <;> simp [kind] at hk
end
end
end Go.Ev
