/-
  A map that is made and filled in a region that draws its order: what the look at the text settles. · A map that is made and filled in a region that draws its order: every order comes to the same map.
-/
import Derived.Test.YtbemeikjepjhoaaGreatDoorS19
namespace Go.Ev
noncomputable section
section
variable {P : Program} {w : World} {E : Env}
theorem sameNow_of {kd:TypeDesc} {k x:AV} {ku xu:Value} {q:Bool} (hk:Conc E k ku) (hkd:keyDesc kd ku) (hx:Conc E x xu) (he:eqS k x=some q):Instr.sameNow kd ku xu=some q:=by
 rcases eqS_spec he hk hx with ⟨kk,a,c,rfl,hm,rfl⟩ | ⟨a,c,rfl,hm,rfl⟩
 ·rw [hm]
  rcases hkd with ⟨k1,k2,n,rfl,hh⟩ | ⟨s,-,hh⟩
  ·simp only [Instr.sameNow,if_true]; rfl
  ·cases hh
 ·rw [hm]
  rcases hkd with ⟨k1,k2,n,rfl,hh⟩ | ⟨s,rfl,hh⟩
  ·cases hh
  ·simp only [Instr.sameNow]; rw [bytes_beq]
theorem ins_run {t:TypeId} {k:AV} {uk uv:Value} (hkf:keyFits P t k=true) (hk:Conc E k uk) {μ:Nat} {ents:Array MapEntry} {clock:Nat} (hH:w.heap[μ]? = some (.map ents clock))
  (hno:∀ m ∈ ents.toList,∃ x,eqS k x=some false∧Conc E x m.key) :
  (Instr.mapUpdate t (.map (some μ)) uk uv).run P w = .ok () { w with heap:=w.heap.setIfInBounds μ (.map (ents.push { key:=uk,val:=uv,born:=clock }) (clock+1)) }:=by
 obtain ⟨kt,e,kd,hu,hkd,hkk,hdesc⟩:=keyFits_spec hkf hk
 have hgo:=getObj_run (P:=P) hH (by intros; exact Obj.noConfusion)
 have hf:∀ m ∈ ents.toList,Instr.sameNow kd uk m.key=some false:=by
  intro m hm
  obtain ⟨x,h1,h2⟩:=hno m hm
  exact sameNow_of hk hdesc h2 h1
 have g1:Instr.findNow kd uk ents.toList 0=some none:=by
  rcases findNow_of 0 (fun m hm=>.inr (hf m hm)) with ⟨h,_⟩ | ⟨j,m,h1,_,h3⟩
  ·exact h
  ·rw [hf m h1] at h3; cases h3
 simp only [Instr.mapUpdate,Sem.run_bind,run_under hu,Result.andThen_ok,hgo,checkKey_run hkd hkk,Instr.findKey,run_under hkd,g1,Sem.run_pure]
 exact setObj_run hH (by intros; exact Obj.noConfusion)
end
theorem findMk_spec:∀ {l:List Oper} {k i:Nat} {d:Tmp},findMk l k=some (i,d)→k≤i∧∃ o,l[i - k]? = some o∧mkOf o=some d
 | [],k,i,d,h=>by cases h
 | o :: l,k,i,d,h=>by
  unfold findMk at h
  cases hm:mkOf o with
  | some e=>rw [hm] at h; cases h; exact ⟨Nat.le_refl _,o,by simp,hm⟩
  | none =>
   rw [hm] at h
   obtain ⟨h1,o',h2,h3⟩:=findMk_spec h
   refine ⟨by omega,o',?_,h3⟩
   rw [show i - k=(i - (k+1))+1 by omega]
   simpa using h2
theorem headOk_spec {aops:Array Oper} {d:Tmp} {i0 h:Nat}:∀ {l:List Oper} {bs:List Nat} {k:Nat},headOk aops d i0 h l bs k=true→∀ j o,l[j]? = some o →
  d ∉ (absOp d o).looksAt aops∧(∀ g wnt,o.guard=some (g,wnt)→g < h∧g≠i0)∧(∀ q,insOf d o=some q→(numAt bs j).testBit i0=true)∧(insOf d o=none→k+j≠i0→o.dst≠some d)
 | [],bs,k,_,j,o,ho=>by simp at ho
 | x :: l,[],k,hh,j,o,ho=>by cases hh
 | x :: l,b :: bs,k,hh,j,o,ho=>by
  unfold headOk at hh
  simp only [Bool.and_eq_true] at hh
  obtain ⟨⟨h1,h2,h3⟩,h4⟩:=hh
  cases j with
  | zero =>
   have:x=o:=by simpa using ho
   subst this
   refine ⟨fun hm=>?_,fun g wnt hg=>?_,fun q hq=>?_,fun hn hne hd=>?_⟩
   ·rw [List.contains_iff_mem.2 hm] at h1; cases h1
   ·unfold guardNot at h2
    rw [hg] at h2
    simp only [Bool.and_eq_true] at h2
    refine ⟨by simpa [Nat.blt_eq] using h2.1,fun e=>?_⟩
    rw [e] at h2
    simp at h2
   ·rw [hq] at h3; exact h3
   ·rw [hn] at h3
    simp only [Bool.or_eq_true] at h3
    rcases h3 with h3 | h3
    ·have:k=i0:=by simpa using h3
     omega
    ·rw [hd] at h3; simp at h3
  | succ j =>
   have:=headOk_spec h4 j o (by simpa using ho)
   rw [show k+1+j=k+(j+1) by omega] at this
   exact this
theorem allBits_spec {b:Nat}:∀ {n:Nat},allBits b n=true→∀ i,i < n→b.testBit i=true
 | 0,_,i,h=>by omega
 | n+1,hh,i,h=>by
  unfold allBits at hh
  simp only [Bool.and_eq_true] at hh
  by_cases e:i=n
  ·subst e; exact hh.1
  ·exact allBits_spec hh.2 i (by omega)
theorem tailOk_spec:∀ {bs:List Nat} {k:Nat},tailOk bs k=true→∀ j,j < bs.length→∀ i,i < k+j→(numAt bs j).testBit i=true
 | [],k,_,j,hj,i,hi=>by simp at hj
 | b :: bs,k,hh,0,hj,i,hi=>by
  unfold tailOk at hh
  simp only [Bool.and_eq_true] at hh
  exact allBits_spec hh.1 i hi
 | b :: bs,k,hh,j+1,hj,i,hi=>by
  unfold tailOk at hh
  simp only [Bool.and_eq_true] at hh
  have:=tailOk_spec hh.2 j (by simpa using hj) i (by omega)
  exact this
structure MapReg (ops aops:Array Oper) (bs bsF:List Nat) (i0:Nat) (d:Tmp) (h:Nat):Prop where
 set:Settled aops bs
 hn:h≤ops.size
 ih:i0 < h
 asz:aops.size=h
 aop:∀ j o,j < h→ops[j]? = some o→aops[j]? = some (absOp d o)
 mkr:∃ o,ops[i0]? = some o∧mkOf o=some d
 look:∀ j o,j < h→ops[j]? = some o→d ∉ (absOp d o).looksAt aops
 gd:∀ j o,j < h→ops[j]? = some o→∀ g wnt,o.guard=some (g,wnt)→g < h∧g≠i0
 ins:∀ j o q,j < h→ops[j]? = some o→insOf d o=some q→(numAt bs j).testBit i0=true
 dst:∀ j o,j < h→ops[j]? = some o→insOf d o=none→j≠i0→o.dst≠some d
 tail:∀ j,h≤j→j < ops.size→∀ i,i < j→(numAt bsF j).testBit i=true
 edgeF:∀ j o,ops[j]? = some o→∀ e ∈ o.after,Region.binds .any e=true→e.on < j
 befF:∀ j o i,ops[j]? = some o→(numAt bsF j).testBit i=true→∃ e ∈ o.after,Region.binds .any e=true∧(i=e.on∨(numAt bsF e.on).testBit i=true)
theorem planM_spec {ops:Array Oper} {m:PlanM} (hm:planM ops=some m) :
  ∃ bs bsF,MapReg ops m.aops bs bsF m.i0 m.d m.h∧m.fl=floatsOf (m.aops.toList.map fun o=>kind o.op) bs (0 :: starts (m.aops.toList.map fun o=>kind o.op) 0) (m.aops.toList.map fun o=>kind o.op) 0:=by
 unfold planM at hm
 split at hm
 case h_2=>cases hm
 rename_i i0 d hf
 generalize lastIns d ops.toList 0 (i0+1)=h at hm
 unfold planM2 at hm
 generalize hao:((ops.toList.take h).map (absOp d)).toArray=aops at hm
 cases hb:befs aops.toList [] with
 | none=>rw [hb] at hm; cases hm
 | some bs =>
  rw [hb] at hm
  cases hbF:befs ops.toList [] with
  | none=>rw [hbF] at hm; cases hm
  | some bsF =>
   rw [hbF] at hm
   simp only at hm
   cases hc:((Nat.blt i0 h && Nat.ble h ops.size) && (drawOkF aops bs [] aops.toList bs && (headOk aops d i0 h (ops.toList.take h) bs 0 && tailOk (bsF.drop h) h))) with
   | false=>rw [hc] at hm; cases hm
   | true =>
    rw [hc] at hm
    cases hm
    simp only [Bool.and_eq_true] at hc
    obtain ⟨⟨c1,c2⟩,c3,c4,c5⟩:=hc
    have hih:i0 < h:=by simpa [Nat.blt_eq] using c1
    have hhn:h≤ops.size:=by simpa [Nat.ble_eq] using c2
    obtain ⟨f1,o0,f2,f3⟩:=findMk_spec hf
    obtain ⟨b1,b2,b3⟩:=befs_spec hbF
    have hl:∀ (j:Nat) (o:Oper),ops[j]? = some o→ops.toList[j]? = some o:=fun j o h=>by rw [Array.getElem?_toList]; exact h
    have htk:∀ (j:Nat) (o:Oper),j < h→ops[j]? = some o→(ops.toList.take h)[j]? = some o:=fun j o hj ho=>by
     rw [List.getElem?_take_of_lt hj]; exact hl j o ho
    refine ⟨bs,bsF,⟨settled hb c3,hhn,hih,?_,?_,⟨o0,by simpa using f2,f3⟩,?_,?_,?_,?_,?_,?_,?_⟩,rfl⟩
    ·rw [← hao]; simp [Nat.min_eq_left hhn]
    ·intro j o hj ho
     rw [← hao,List.getElem?_toArray,List.getElem?_map,htk j o hj ho]; rfl
    ·intro j o hj ho; exact (headOk_spec c4 j o (htk j o hj ho)).1
    ·intro j o hj ho; exact (headOk_spec c4 j o (htk j o hj ho)).2.1
    ·intro j o q hj ho; exact (headOk_spec c4 j o (htk j o hj ho)).2.2.1 q
    ·intro j o hj ho hn hne; exact (headOk_spec c4 j o (htk j o hj ho)).2.2.2 hn (by simpa using hne)
    ·intro j hj hjn i hi
     replace hj:h≤j:=hj
     have hlen:bsF.length=ops.size:=by simpa using b1
     have:=tailOk_spec c5 (j - h) (by simp; omega) i (by omega)
     unfold numAt at this ⊢
     rw [List.getElem?_drop,show h+(j - h)=j by omega] at this
     exact this
    ·intro j o ho e he hbd; simpa using (b3 j o (hl j o ho)).1 e he hbd
    ·intro j o i ho hi; exact (b3 j o (hl j o ho)).2 i (by simpa using hi)
def KV (R:List Rec) (i:Nat):AV × AV:=match kvOf (recAt R i).v with | some p=>p | none=>(.un,.un)
def IsIns (ops:Array Oper) (d:Tmp) (h i:Nat):Prop:=i < h∧∃ o q,ops[i]? = some o∧insOf d o=some q
theorem freshK_spec {k:AV}:∀ {es:List (AV × AV)},freshK k es=true→∀ p ∈ es,eqS k p.1=some false∧eqS p.1 k=some false
 | [],_,p,hp=>by cases hp
 | (x,v) :: es,h,p,hp=>by
  unfold freshK at h
  simp only [Bool.and_eq_true] at h
  have f:∀ {o:Option Bool},isFalse o=true→o=some false:=by
   intro o ho
   cases o with
   | none=>cases ho
   | some b=>cases b; rfl; cases ho
  rcases List.mem_cons.1 hp with rfl | hp
  ·exact ⟨f h.1.1,f h.1.2⟩
  ·exact freshK_spec h.2 p hp
theorem kvs_spec {P:Program} {d:Tmp} {R0:List Rec}:∀ {l:List Oper} {R:List Rec} {k:Nat} {es:List (AV × AV)},(∀ i,R[i]? = R0[k+i]?)→kvs P d l R=some es →
  ∃ js:List Nat,es=js.map (KV R0)∧js.Nodup∧(∀ i,i ∈ js↔k≤i∧∃ o q,l[i - k]? = some o∧insOf d o=some q)∧(∀ i ∈ js,kvOf (recAt R0 i).v=some (KV R0 i)) ∧
   (∀ i ∈ js,∀ o q,l[i - k]? = some o→insOf d o=some q→keyFits P q.1 (KV R0 i).1=true)∧∀ i ∈ js,∀ i' ∈ js,i≠i'→eqS (KV R0 i).1 (KV R0 i').1=some false
 | [],R,k,es,_,h=>by
  cases h
  exact ⟨[],rfl,List.nodup_nil,fun i=>(by simp),fun i hi=>(by cases hi),fun i hi=>(by cases hi),fun i hi=>(by cases hi)⟩
 | o :: l,[],k,es,_,h=>by
  cases h
 | o :: l,r :: R,k,es,hR,h=>by
  have hR':∀ i,R[i]? = R0[k+1+i]?:=fun i=>by
   have:=hR (i+1)
   rw [show k+(i+1)=k+1+i by omega] at this
   simpa using this
  have hr:recAt R0 k=r:=by
   have:=hR 0
   simp only [List.getElem?_cons_zero,Nat.add_zero] at this
   unfold recAt
   rw [← this]
  have shift:∀ (i:Nat) (P':Oper→Prop),k+1≤i→((∃ o',l[i - (k+1)]? = some o'∧P' o')↔∃ o',(o :: l)[i - k]? = some o'∧P' o'):=by
   intro i P' hi
   rw [show i - k=(i - (k+1))+1 by omega]
   simp
  unfold kvs at h
  cases hi:insOf d o with
  | none =>
   rw [hi] at h
   obtain ⟨js,g1,g2,g3,g4,g5,g6⟩:=kvs_spec hR' h
   refine ⟨js,g1,g2,fun i=>?_,g4,fun i hij o' q ho' hq=>?_,g6⟩
   ·rw [g3]
    constructor
    ·rintro ⟨h1,o',q,h2,h3⟩
     refine ⟨by omega,?_⟩
     obtain ⟨o'',h4,h5⟩:=(shift i (fun o'=>∃ q,insOf d o'=some q) h1).1 ⟨o',h2,q,h3⟩
     obtain ⟨q',h5⟩:=h5
     exact ⟨o'',q',h4,h5⟩
    ·rintro ⟨h1,o',q,h2,h3⟩
     have hne:i≠k:=by
      rintro rfl
      simp at h2
      subst h2
      rw [hi] at h3; cases h3
     refine ⟨by omega,?_⟩
     obtain ⟨o'',h4,q',h5⟩:=(shift i (fun o'=>∃ q,insOf d o'=some q) (by omega)).2 ⟨o',h2,q,h3⟩
     exact ⟨o'',q',h4,h5⟩
   ·have h1:=((g3 i).1 hij).1
    rw [show i - k=(i - (k+1))+1 by omega] at ho'
    exact g5 i hij o' q (by simpa using ho') hq
  | some q0 =>
   obtain ⟨ty,kk,xx⟩:=q0
   rw [hi] at h
   cases hk:kvs P d l R with
   | none=>rw [hk] at h; cases h
   | some es' =>
    rw [hk] at h
    simp only at h
    cases hv:kvOf r.v with
    | none=>rw [hv] at h; cases h
    | some kv =>
     rw [hv] at h
     simp only at h
     cases hc:(keyFits P ty kv.1 && freshK kv.1 es') with
     | false=>rw [hc] at h; cases h
     | true =>
      rw [hc] at h
      cases h
      simp only [Bool.and_eq_true] at hc
      obtain ⟨js,g1,g2,g3,g4,g5,g6⟩:=kvs_spec hR' hk
      have hKV:KV R0 k=kv:=by unfold KV; rw [hr,hv]
      have hnk:k ∉ js:=fun hm=>by have:=((g3 k).1 hm).1; omega
      have hfr:=freshK_spec hc.2
      refine ⟨k :: js,by rw [List.map_cons,hKV,g1],List.nodup_cons.2 ⟨hnk,g2⟩,fun i=>?_,fun i hij=>?_,fun i hij o' q ho' hq=>?_,fun i hij i' hij' hne=>?_⟩
      ·rw [List.mem_cons,g3]
       constructor
       ·rintro (rfl | ⟨h1,o',q,h2,h3⟩)
        ·exact ⟨Nat.le_refl _,o,(ty,kk,xx),by simp,hi⟩
        ·refine ⟨by omega,?_⟩
         obtain ⟨o'',h4,q',h5⟩:=(shift i (fun o'=>∃ q,insOf d o'=some q) h1).1 ⟨o',h2,q,h3⟩
         exact ⟨o'',q',h4,h5⟩
       ·rintro ⟨h1,o',q,h2,h3⟩
        by_cases e:i=k
        ·exact .inl e
        ·right
         refine ⟨by omega,?_⟩
         obtain ⟨o'',h4,q',h5⟩:=(shift i (fun o'=>∃ q,insOf d o'=some q) (by omega)).2 ⟨o',h2,q,h3⟩
         exact ⟨o'',q',h4,h5⟩
      ·rcases List.mem_cons.1 hij with rfl | hij
       ·rw [hKV,hr]; exact hv
       ·exact g4 i hij
      ·rcases List.mem_cons.1 hij with rfl | hij
       ·simp at ho'
        subst ho'
        rw [hi] at hq; cases hq
        rw [hKV]; exact hc.1
       ·have h1:=((g3 i).1 hij).1
        rw [show i - k=(i - (k+1))+1 by omega] at ho'
        exact g5 i hij o' q (by simpa using ho') hq
      ·rcases List.mem_cons.1 hij with e1 | m1 <;> rcases List.mem_cons.1 hij' with e2 | m2
       ·exact absurd (e1.trans e2.symm) hne
       ·rw [e1,hKV]
        exact (hfr _ (by rw [g1]; exact List.mem_map.2 ⟨i',m2,rfl⟩)).1
       ·rw [e2,hKV]
        exact (hfr _ (by rw [g1]; exact List.mem_map.2 ⟨i,m1,rfl⟩)).2
       ·exact g6 i m1 i' m2 hne
end
end Go.Ev
namespace Go.Ev
noncomputable section
theorem insOf_shape {d:Tmp} {o:Oper} {ty:TypeId} {k x:Operand} (h:insOf d o=some (ty,k,x)):o.guard=none∧o.dst=none∧o.op = .insert ty (.tmp d) k x:=by
 unfold insOf at h
 split at h
 ·rename_i hg hd
  split at h
  ·rename_i ty' e k' x' hop
   cases hb:Nat.beq e d with
   | false=>rw [hb] at h; cases h
   | true =>
    rw [hb] at h
    cases h
    have:e=d:=by simpa [nbeq] using hb
    subst this
    exact ⟨hg,hd,hop⟩
  ·cases h
 ·cases h
theorem mkOf_shape {d:Tmp} {o:Oper} (h:mkOf o=some d):o.guard=none∧o.dst=some d∧∃ ty,o.op = .makeMap ty none:=by
 unfold mkOf at h
 split at h
 ·cases h
 ·rename_i hg
  split at h
  ·rename_i ty hop
   exact ⟨hg,h,ty,hop⟩
  ·cases h
theorem absOp_after (d:Tmp) (o:Oper):(absOp d o).after=o.after:=by
 unfold absOp
 split
 ·rfl
 ·cases o.dst == some d <;> rfl
section
variable {P : Program} {S : Self} {nt : Nat} {ops aops : Array Oper} {bs bsF : List Nat} {R : List Rec} {E E' : Env} {H0 H : Array Obj} {ex : Tmp → Prop} {xb : Option (Nat × Obj)} {D Pd : Nat → Prop} {p q : Nat} {a : Act} {X : St} {β ν : Nat → Nat} {ζ : Nat → Value}
theorem Inv.slotEx (h:Inv ops R nt E H0 ex xb D Pd p q a H E' X β ν ζ) {d:Tmp} (he:ex d) (hd:∀ (i:Nat) (o:Oper),ops[i]? = some o→o.dst≠some d) (z:Value):Inv ops R nt E H0 ex xb D Pd p q (a.put (some d) z) H E' X β ν ζ:=by
 have hg:∀ x,x≠d→(a.put (some d) z).tmps.getD x undef=a.tmps.getD x undef:=by
  intro x hx
  simp only [Act.put,Array.getD_eq_getD_getElem?]
  rw [Array.getElem?_setIfInBounds_ne (Ne.symm hx)]
 have ne:∀ (x:Tmp) (i:Nat) (o:Oper),ops[i]? = some o→o.dst=some x→x≠d:=fun x i o ho hx e=>hd i o ho (e ▸ hx)
 refine ⟨h.st,by simpa [Act.put] using h.sz,fun x i o hD ho hx hn=>?_,fun x i o hD ho hx ha hq=>?_,fun x hxe hx=>?_,h.gap,h.next,h.freshP,h.lows,h.undone,h.rest,h.pend,h.inj,h.xtra⟩
 ·rw [hg x (ne x i o ho hx)]; exact h.slotV x i o hD ho hx hn
 ·rw [hg x (ne x i o ho hx)]; exact h.slotP x i o hD ho hx ha hq
 ·rw [hg x (fun e=>hxe (e ▸ he))]; exact h.slot0 x hxe hx
theorem Inv.setX (h:Inv ops R nt E H0 ex none D Pd p q a H E' X β ν ζ) {b:Nat} {ob:Obj} (h1:H0.size≤b) (h2:H[b]? = some ob) (h3:Un E' X b) (h4:∀ i,D i→AAt ops R i→Pd i→β i≠b) :
  Inv ops R nt E H0 ex (some (b,ob)) D Pd p q a H E' X β ν ζ :=
 ⟨h.st,h.sz,h.slotV,h.slotP,h.slot0,h.gap,h.next,h.freshP,h.lows,h.undone,h.rest,h.pend,h.inj,fun _ _ e=>by cases e; exact ⟨h1,h2,h3,h4⟩⟩
theorem Inv.pokeX (hr0:Rel E H0 (recAt R 0).st) {b:Nat} {ob:Obj} (h:Inv ops R nt E H0 ex (some (b,ob)) D Pd p q a H E' X β ν ζ) (hnc:∀ cs t fz,ob≠Obj.cells cs t fz) (ob':Obj) :
  Inv ops R nt E H0 ex (some (b,ob')) D Pd p q a (H.setIfInBounds b ob') E' X β ν ζ:=by
 obtain ⟨u1,u2,u3,u4⟩:=h.xtra b ob rfl
 have hlt:b < H.size:=(Array.getElem?_eq_some_iff.1 u2).1
 refine ⟨h.st.poke (.inr u1) u3 ob' (TyKeep.setNon (fun cs t fz e=>hnc cs t fz (Option.some.inj (u2.symm.trans e)))),h.sz,h.slotV,h.slotP,h.slot0,h.gap,h.next,h.freshP,h.lows,h.undone,h.rest,fun i hd ha hq=>?_,h.inj,fun _ _ e=>?_⟩
 ·obtain ⟨v1,v2,v3,v4,v5⟩:=h.pend i hd ha hq
  refine ⟨v1,by simpa using v2,v3,fun l hl g=>(v4 l hl g).mono (.refl _) ?_,v5⟩
  show (H.setIfInBounds b ob')[β i]? = H[β i]?
  rw [Array.getElem?_setIfInBounds_ne (Ne.symm (u4 i hd ha hq))]
 ·cases e
  exact ⟨u1,by simp [hlt],u3,u4⟩
def MapI (ops:Array Oper) (d:Tmp) (h:Nat) (R:List Rec) (D:Nat→Prop) (E':Env) (a:Act) (xb:Option (Nat × Obj)):Prop :=
 ∃ (μ:Nat) (ents:Array MapEntry) (clock:Nat) (js:List Nat) (m:Nat→MapEntry),xb=some (μ,.map ents clock)∧a.tmps.getD d undef = .map (some μ)∧ents.toList=js.map m∧js.Nodup ∧
  (∀ i,i ∈ js↔IsIns ops d h i∧D i)∧∀ i ∈ js,Conc E' (KV R i).1 (m i).key∧Conc E' (KV R i).2 (m i).val
theorem evO_at {t:Tr AV} {a:Act} {x:Operand} (h:∀ y,x = .tmp y→Conc E (tget t y) (a.tmps.getD y undef)):Conc E (evO t x) (a.eval x):=by
 cases x with
 | tmp y=>exact h y rfl
 | const v=>exact ofVal_conc v
 | global g=>exact .gp g
 | func f=>exact .f (.func f) [] [] [] [] rfl .nil .nil
theorem wanted_none {o:Oper} (h:o.guard=none) (y:Nat→Option Bool):Region.wanted o y=true:=by
 unfold Region.wanted; rw [h]
theorem goM (hS:SelfOK P S) {i0:Nat} {d:Tmp} {h:Nat} (hM:MapReg ops aops bs bsF i0 d h) (hR:Ran P S nt aops R) (hL:Looks P S aops bs R) (hr0:Rel E H0 (recAt R 0).st) (hn:(recAt R aops.size).st.next≤E.top) (hdn:d < nt)
  (hkf:∀ i o q,i < h→ops[i]? = some o→insOf d o=some q→keyFits P q.1 (KV R i).1=true) (hkd:∀ i i',IsIns ops d h i→IsIns ops d h i'→i≠i'→eqS (KV R i).1 (KV R i').1=some false)
  {b:Frame} {k:List Item} {w:World} (hI:Inv aops R nt E H0 (fun x=>x=d) xb D (fun i=>q≤i) p q a w.heap E' X β ν ζ) (hno:¬ D i0→xb=none) (hyes:D i0→MapI ops d h R D E' a xb)
  (hdown:∀ j,D j→∀ i,(numAt bs j).testBit i=true→D i) {j:Nat} {o:Oper} (hjh:j < h) (ho:ops[j]? = some o) (hj:¬ D j) (hrdy:∀ i,(numAt bs j).testBit i=true→D i) :
  ∃ p' q' a' w' E'' X' β' ν' ζ' xb',Inv aops R nt E H0 (fun x=>x=d) xb' (fun i=>i=j∨D i) (fun i=>q'≤i) p' q' a' (World.heap w') E'' X' β' ν' ζ'∧(¬ (i0=j∨D i0)→xb'=none) ∧
   ((i0=j∨D i0)→MapI ops d h R (fun i=>i=j∨D i) E'' a' xb')∧a'.defers=a.defers∧(w'.os=w.os∧w'.output=w.output) ∧
   ∀ cs rest,Steps P (lone (b.atR a (.inRegion ops (j :: rest) :: k)) cs w) (lone (b.atR a' (.inRegion ops rest :: k)) cs w'):=by
 have hao:=hM.aop j o hjh ho
 obtain ⟨o0,ho0,hmk0⟩:=hM.mkr
 have hnoIns0:¬ IsIns ops d h i0:=by
  rintro ⟨_,o',q',h1,h2⟩
  rw [ho0] at h1; cases h1
  obtain ⟨ty,kk,xx⟩:=q'
  have e1:=(insOf_shape h2).2.2
  obtain ⟨ty',e2⟩:=(mkOf_shape hmk0).2.2
  rw [e1] at e2; cases e2
 have hadst:∀ (i:Nat) (oa:Oper),aops[i]? = some oa→oa.dst≠some d:=by
  intro i oa hoa
  have hih:i < h:=by have:=(Array.getElem?_eq_some_iff.1 hoa).1; rw [hM.asz] at this; exact this
  have hin:i < ops.size:=Nat.lt_of_lt_of_le hih hM.hn
  have hoi:ops[i]? = some ops[i]:=by simp [hin]
  rw [hM.aop i _ hih hoi] at hoa
  cases hoa
  unfold absOp
  cases hins:insOf d ops[i] with
  | some qq =>
   obtain ⟨ty,kk,xx⟩:=qq
   simp only
   rw [(insOf_shape hins).2.1]; simp
  | none =>
   simp only
   cases hbd:(ops[i].dst == some d) with
   | true=>simp
   | false=>simp only [cond_false]; intro e; rw [e] at hbd; simp at hbd
 cases hins:insOf d o with
 | some qq =>
  obtain ⟨ty,kk,xx⟩:=qq
  obtain ⟨hg,hdst,hop⟩:=insOf_shape hins
  have hji:j≠i0:=by
   rintro rfl
   exact hnoIns0 ⟨hjh,o,_,ho,hins⟩
  have hD0:D i0:=hrdy i0 (hM.ins j o _ hjh ho hins)
  obtain ⟨μ,ents,clock,js,m,rfl,hμ,hents,hnd,hjs,hcc⟩:=hyes hD0
  have habs:absOp d o = { o with op:=.makeFunc (.func 0) #[] #[kk,xx] }:=by unfold absOp; rw [hins]
  rw [habs] at hao
  have hsee:=hI.sees hM.set hR hdown hao hj hrdy (fun x hx e=>by
   have:=hM.look j o hjh ho
   rw [habs] at this
   exact this (e ▸ hx))
  obtain ⟨r1,r2,r3,r4⟩:=hR j _ hao
  have hW:(recAt R j).w=true:=by
   unfold guardOk at r1
   rw [hg] at r1
   exact (Option.some.inj r1).symm
  have hv:=r4 hW
  have hV:(recAt R j).v = .f (.func 0) [] [evO (recAt R j).t kk,evO (recAt R j).t xx]:=by
   have:evOp P S (recAt R j).t (recAt R j).st { o with op:=.makeFunc (.func 0) #[] #[kk,xx] } = some (.f (.func 0) [] [evO (recAt R j).t kk,evO (recAt R j).t xx],(recAt R j).st):=rfl
   rw [this] at hv
   exact (Prod.mk.inj (Option.some.inj hv)).1.symm
  have hKV:KV R j=(evO (recAt R j).t kk,evO (recAt R j).t xx):=by unfold KV; rw [hV]; rfl
  have look:∀ y,(kk = .tmp y∨xx = .tmp y)→y ∈ Oper.looksAt aops { o with op:=.makeFunc (.func 0) #[] #[kk,xx] }:=by
   intro y hy
   refine List.mem_append_left _ (List.mem_filterMap.2 ⟨.tmp y,?_,rfl⟩)
   simp only [Op.operands]
   rcases hy with rfl | rfl <;> simp
  have hck:Conc E' (evO (recAt R j).t kk) (a.eval kk):=evO_at fun y hy=>hsee y (look y (.inl hy))
  have hcx:Conc E' (evO (recAt R j).t xx) (a.eval xx):=evO_at fun y hy=>hsee y (look y (.inr hy))
  have hisj:IsIns ops d h j:=⟨hjh,o,_,ho,hins⟩
  obtain ⟨u1,u2,u3,u4⟩:=hI.xtra μ _ rfl
  have hfit:keyFits P ty (evO (recAt R j).t kk)=true:=by
   have:=hkf j o _ hjh ho hins
   rw [hKV] at this; exact this
  have hrun:=ins_run (P:=P) (w:=w) (uv:=a.eval xx) hfit hck u2 (fun mm hmm=>by
   rw [hents] at hmm
   obtain ⟨i,hi,rfl⟩:=List.mem_map.1 hmm
   have hii:=(hjs i).1 hi
   have hne:j≠i:=by rintro rfl; exact hj hii.2
   have:=hkd j i hisj hii.1 hne
   rw [hKV] at this
   exact ⟨_,this,(hcc i hi).1⟩)
  let nm:Obj:=.map (ents.push { key:=a.eval kk,val:=a.eval xx,born:=clock }) (clock+1)
  have hstep:∀ cs rest,Steps P (lone (b.atR a (.inRegion ops (j :: rest) :: k)) cs w) (lone (b.atR a (.inRegion ops rest :: k)) cs { w with heap:=w.heap.setIfInBounds μ nm }):=by
   intro cs rest
   have hex:(execOp a.eval o).run P w = .ok .skip { w with heap:=w.heap.setIfInBounds μ nm }:=by
    have hmu:a.eval (.tmp d) = .map (some μ):=hμ
    simp only [execOp,hop,hmu,Sem.run_bind,hrun,Result.andThen_ok,Sem.run_pure,nm]
   have hnd':∀ c,o.op≠.defer c:=fun c e=>by rw [hop] at e; cases e
   have:=Steps.one (step_skipped (b:=b) (a:=a) (k:=k) (cs:=cs) (rest:=rest) ho (wanted_none hg _) hnd' hex)
   rw [hdst] at this
   exact this
  have hkk:¬ KAt aops j:=fun ⟨o',h1,h2⟩=>by rw [hao] at h1; cases h1; simp [kind] at h2
  have hnA:¬ AAt aops R j:=fun ⟨o',h1,h2,_⟩=>by rw [hao] at h1; cases h1; simp [kind] at h2
  have hI2:=(hI.pokeX hr0 (fun _ _ _ e=>by cases e) nm).add hM.set hR hao hj hkk (z:=.func (.func 0) #[] #[a.eval kk,a.eval xx]) (fun _=>by
   rw [hV]
   exact .f (.func 0) [] _ [] [a.eval kk,a.eval xx] rfl .nil (.cons _ _ _ _ hck (.cons _ _ _ _ hcx .nil))) (fun ha=>absurd ha hnA)
  have hput:a.put ({ o with op:=.makeFunc (.func 0) #[] #[kk,xx] }:Oper).dst (.func (.func 0) #[] #[a.eval kk,a.eval xx])=a:=by
   show a.put o.dst _=a
   rw [hdst]; rfl
  rw [hput] at hI2
  refine ⟨p,q,a,{ w with heap:=w.heap.setIfInBounds μ nm },E',X,β,ν,ζ,some (μ,nm),hI2,fun hn=>absurd (.inr hD0) hn,fun _=>?_,rfl,⟨rfl,rfl⟩,hstep⟩
  refine ⟨μ,_,_,js++[j],fun i=>if i=j then { key:=a.eval kk,val:=a.eval xx,born:=clock } else m i,rfl,hμ,?_,?_,fun i=>?_,fun i hi=>?_⟩
  ·rw [Array.toList_push,hents,List.map_append]
   congr 1
   ·refine List.map_congr_left fun i hi=>?_
    have hne:i≠j:=by rintro rfl; exact hj ((hjs i).1 hi).2
    rw [if_neg hne]
   ·simp
  ·rw [List.nodup_append]
   refine ⟨hnd,by simp,fun x hx y hy e=>?_⟩
   have:y=j:=by simpa using hy
   subst this; subst e
   exact hj ((hjs x).1 hx).2
  ·rw [List.mem_append,hjs]
   constructor
   ·rintro (⟨h1,h2⟩ | h1)
    ·exact ⟨h1,.inr h2⟩
    ·have:i=j:=by simpa using h1
     subst this; exact ⟨hisj,.inl rfl⟩
   ·rintro ⟨h1,rfl | h2⟩
    ·exact .inr (by simp)
    ·exact .inl ⟨h1,h2⟩
  ·rcases List.mem_append.1 hi with m1 | m1
   ·have hne:i≠j:=fun e=>hj (e ▸ ((hjs i).1 m1).2)
    simp only [if_neg hne]
    exact hcc i m1
   ·have:i=j:=by simpa using m1
    subst this
    simp only [if_pos,hKV]
    exact ⟨hck,hcx⟩
 | none =>
  by_cases hj0:j=i0
  ·
   subst hj0
   obtain rfl:o0=o:=Option.some.inj (ho0.symm.trans ho)
   obtain ⟨hg,hdst,ty,hop⟩:=mkOf_shape hmk0
   have hxn:=hno hj
   subst hxn
   have habs:absOp d o0 = { o0 with op:=.move (.const (.bool true)),dst:=none }:=by
    unfold absOp; rw [hins]
    have:(o0.dst == some d)=true:=by rw [hdst]; simp
    simp only [this,cond_true]
   rw [habs] at hao
   obtain ⟨r1,r2,r3,r4⟩:=hR j _ hao
   have hW:(recAt R j).w=true:=by
    unfold guardOk at r1
    rw [hg] at r1
    exact (Option.some.inj r1).symm
   have hV:(recAt R j).v = .b true:=by
    have hv:=r4 hW
    have:evOp P S (recAt R j).t (recAt R j).st { o0 with op:=.move (.const (.bool true)),dst:=none } = some (.b true,(recAt R j).st):=rfl
    rw [this] at hv
    exact (Prod.mk.inj (Option.some.inj hv)).1.symm
   have hkk:¬ KAt aops j:=fun ⟨o',h1,h2⟩=>by rw [hao] at h1; cases h1; simp [kind] at h2
   have hnA:¬ AAt aops R j:=fun ⟨o',h1,h2,_⟩=>by rw [hao] at h1; cases h1; simp [kind] at h2
   have hnB:Un E' X w.heap.size:=by
    refine hI.st.rel.un_fresh (Nat.le_refl _) ?_
    rintro ⟨r,row,C,hr,hC,hb⟩
    obtain ⟨C',hC',hR'⟩:=hI.st.rel.rows _ _ hr
    rw [hC] at hC'; cases hC'
    have:=hR'.lt
    omega
   have hI2:=(((hI.other (.map #[] 0)).setX (b:=w.heap.size) (ob:=.map #[] 0) hI.st.fr.size (by simp) hnB (fun i hd ha hq=>by have:=(hI.pend i hd ha hq).2.1; omega)).add hM.set hR hao hj hkk
    (z:=.bool true) (fun _=>by rw [hV]; exact .b true) (fun ha=>absurd ha hnA)).slotEx (d:=d) rfl hadst (.map (some w.heap.size))
   have hput:(a.put ({ o0 with op:=.move (.const (.bool true)),dst:=none }:Oper).dst (.bool true))=a:=rfl
   rw [hput] at hI2
   have hstep:∀ cs rest,Steps P (lone (b.atR a (.inRegion ops (j :: rest) :: k)) cs w) (lone (b.atR (a.put (some d) (.map (some w.heap.size))) (.inRegion ops rest :: k)) cs { w with heap:=w.heap.push (.map #[] 0) }):=by
    intro cs rest
    have hex:(execOp a.eval o0).run P w = .ok (.value (.map (some w.heap.size))) { w with heap:=w.heap.push (.map #[] 0) }:=by
     simp only [execOp,hop,Instr.makeMap,Option.map_none,Sem.run_bind,run_newObj,Result.andThen_ok,Sem.run_pure]
    have hnd':∀ c,o0.op≠.defer c:=fun c e=>by rw [hop] at e; cases e
    have:=Steps.one (step_value (b:=b) (a:=a) (k:=k) (cs:=cs) (rest:=rest) ho0 (wanted_none hg _) hnd' hex)
    rw [hdst] at this
    exact this
   refine ⟨p,q,a.put (some d) (.map (some w.heap.size)),{ w with heap:=w.heap.push (.map #[] 0) },E',X,β,ν,ζ,_,hI2,fun hn=>absurd (.inl rfl) hn,fun _=>?_,rfl,⟨rfl,rfl⟩,hstep⟩
   refine ⟨w.heap.size,#[],0,[],fun _=>{ key:=undef,val:=undef,born:=0 },rfl,?_,by simp,List.nodup_nil,fun i=>?_,fun i hi=>by cases hi⟩
   ·simp only [Act.put,Array.getD_eq_getD_getElem?]
    rw [Array.getElem?_setIfInBounds_self]
    have:d < a.tmps.size:=by rw [hI.sz]; exact hdn
    simp [this]
   ·constructor
    ·intro h; cases h
    ·rintro ⟨h1,rfl | h2⟩
     ·exact absurd h1 hnoIns0
     ·obtain ⟨h3,o',q',h4,h5⟩:=h1
      exact absurd (hdown i h2 j (hM.ins i o' q' h3 h4 h5)) hj
  ·
   have hod:o.dst≠some d:=hM.dst j o hjh ho hins hj0
   have habs:absOp d o=o:=by
    unfold absOp; rw [hins]
    have:(o.dst == some d)=false:=by
     cases hb:(o.dst == some d) with
     | false=>rfl
     | true=>exact absurd (by simpa using hb) hod
    simp only [this,cond_false]
   rw [habs] at hao
   have hwy:Region.wanted o (yielded ops a.tmps)=Region.wanted o (yielded aops a.tmps):=by
    unfold Region.wanted
    cases hg:o.guard with
    | none=>rfl
    | some gw =>
     obtain ⟨g,wnt⟩:=gw
     obtain ⟨g1,g2⟩:=hM.gd j o hjh ho g wnt hg
     have hgn:g < ops.size:=Nat.lt_of_lt_of_le g1 hM.hn
     have hog:ops[g]? = some ops[g]:=by simp [hgn]
     have hag:=hM.aop g _ g1 hog
     have hd':(absOp d ops[g]).dst=ops[g].dst:=by
      unfold absOp
      cases hi:insOf d ops[g] with
      | some qq=>rfl
      | none =>
       simp only
       have:=hM.dst g _ g1 hog hi g2
       cases hb:(ops[g].dst == some d) with
       | false=>rfl
       | true=>exact absurd (by simpa using hb) this
     have:yielded ops a.tmps g=yielded aops a.tmps g:=by
      unfold yielded
      rw [hog,hag]
      simp only [Option.bind_some,hd']
     simp only [this]
   obtain ⟨p',q',a',w',E'',X',β',ν',ζ',h1,h2,h3,⟨h4,h5⟩,h6⟩:=hI.goOn hS hM.set hR hL hr0 hn (b:=b) (k:=k) hdown hao hj hrdy (fun x hx e=>by
    have:=hM.look j o hjh ho
    rw [habs] at this
    exact this (e ▸ hx)) (mops:=ops) ho (fun _=>rfl) rfl rfl hwy
   refine ⟨p',q',a',w',E'',X',β',ν',ζ',xb,h1,fun hn=>hno fun hd=>hn (.inr hd),fun hd=>?_,h2,h3,h6⟩
   obtain ⟨μ,ents,clock,js,m,k1,k2,k3,k4,k5,k6⟩:=hyes (hd.resolve_left (fun e=>hj0 e.symm))
   refine ⟨μ,ents,clock,js,m,k1,by rw [h5 d hod]; exact k2,k3,k4,fun i=>?_,fun i hi=>⟨(k6 i hi).1.mono h4,(k6 i hi).2.mono h4⟩⟩
   rw [k5]
   constructor
   ·rintro ⟨e1,e2⟩; exact ⟨e1,.inr e2⟩
   ·rintro ⟨e1,rfl | e2⟩
    ·obtain ⟨_,o',q',e3,e4⟩:=e1
     rw [ho] at e3; cases e3
     rw [hins] at e4; cases e4
    ·exact ⟨e1,e2⟩
end
end
end Go.Ev
