/-
  Each operation does in the model's memory what it does in the abstract state: maps. · Each operation does in the model's memory what it does in the abstract state: the small ones, and all that call no Go function together.
-/
import Derived.Test.YtbemeikjepjhoaaGreatDoorS07
import Derived.Laws.MakeOwn
namespace Go.Ev
noncomputable section
section
variable {P : Program} {w : World} {E : Env} {st : St}
theorem bytes_beq (a c:ByteArray):(a == c)=decide (a=c):=by
 rw [beq_toListBytes,← strEq,leq_eq,Bool.eq_iff_iff]
 simp only [decide_eq_true_eq]
 exact ⟨fun h=>by
  have:=nats_inj h
  cases a; cases c
  simp only at this
  rw [Array.toList_inj] at this
  rw [this],fun h=>by rw [h]⟩
theorem eqS_spec {x y:AV} {u v:Value} {b:Bool} (h:eqS x y=some b) (hx:Conc E x u) (hy:Conc E y v) :
  (∃ k a c,u = .int k a∧v = .int k c∧b=decide (a=c))∨(∃ a c,u = .string a∧v = .string c∧b=decide (a=c)):=by
 unfold eqS at h
 split at h
 ·rename_i k a k' c
  obtain ⟨hk,h'⟩:=bor h
  rw [keq_eq,decide_eq_true_eq] at hk
  subst hk
  cases hx; cases hy
  exact .inl ⟨k,a,c,rfl,rfl,by rw [← h',ieq_eq]⟩
 ·cases hx; cases hy; cases h
  rename_i a c
  exact .inr ⟨a,c,rfl,rfl,by rw [strEq,← beq_toListBytes,bytes_beq]⟩
 ·cases h
def keyDesc (kd:TypeDesc) (u:Value):Prop:=(∃ k k' n,kd = .int k∧u = .int k' n)∨(∃ s,kd = .string∧u = .string s)
theorem find_spec {kd:TypeDesc} {k:AV} {ku:Value} (hk:Conc E k ku) (hkd:keyDesc kd ku):∀ {es:List (AV × AV × Nat)} {ms:List MapEntry} {i:Nat} {r:Option (Nat × AV)},find k es i=some r→ConcE E es ms →
  ∃ r',Instr.findNow kd ku ms i=some r'∧(match r,r' with
   | none,none=>True
   | some (j,v),some (j',u)=>j=j'∧Conc E v u∧i≤j∧∃ m,ms[j - i]? = some m∧m.val=u∧m.key=ku
   | _,_=>False)
 | [],[],i,r,h,_=>by simp only [find,Option.some.injEq] at h; subst h; exact ⟨none,rfl,trivial⟩
 | (x,v,b) :: es,m :: ms,i,r,h,⟨⟨h1,h2,h3⟩,ht⟩=>by
  simp only [find] at h
  cases he:eqS k x with
  | none=>rw [he] at h; cases h
  | some q =>
   rw [he] at h
   have key:Instr.sameNow kd ku m.key=some q∧(q=true→m.key=ku):=by
    rcases eqS_spec he hk h1 with ⟨kk,a,c,rfl,hm,rfl⟩ | ⟨a,c,rfl,hm,rfl⟩
    ·rw [hm]
     rcases hkd with ⟨k1,k2,n,rfl,hh⟩ | ⟨s,-,hh⟩
     ·refine ⟨?_,fun e=>?_⟩
      ·simp only [Instr.sameNow,if_true]; rfl
      ·rw [decide_eq_true_eq] at e; rw [e]
     ·cases hh
    ·rw [hm]
     rcases hkd with ⟨k1,k2,n,rfl,hh⟩ | ⟨s,rfl,hh⟩
     ·cases hh
     ·refine ⟨by simp only [Instr.sameNow]; rw [bytes_beq],fun e=>?_⟩
      rw [decide_eq_true_eq] at e; rw [e]
   cases q with
   | true =>
    cases h
    exact ⟨some (i,m.val),by simp [Instr.findNow,key.1],rfl,h2,Nat.le_refl _,m,by simp,rfl,key.2 rfl⟩
   | false =>
    obtain ⟨r',g1,g2⟩:=find_spec hk hkd h ht
    refine ⟨r',by simp only [Instr.findNow,key.1]; exact g1,?_⟩
    cases r with
    | none=>cases r' with
     | none=>trivial
     | some p=>exact g2
    | some p =>
     obtain ⟨j,v'⟩:=p
     cases r' with
     | none=>exact g2
     | some p' =>
      obtain ⟨j',u⟩:=p'
      obtain ⟨q1,q2,q3,m',q4,q5,q6⟩:=g2
      refine ⟨q1,q2,by omega,m',?_,q5,q6⟩
      rw [show j - i=(j - (i+1))+1 by omega]
      simpa using q4
theorem checkKey_run {kt:TypeId} {kd:TypeDesc} (hk:P.underlying kt=some kd) (hkd:(∃ k,kd = .int k)∨kd = .string) (b:Bool) (u:Value):(Instr.checkKey b 10000 kt u).run P w = .ok () w:=by
 have key:∀ n,(Instr.checkKey b (n+1) kt u).run P w = .ok () w:=by
  intro n
  rcases hkd with ⟨k,rfl⟩ | rfl
  ·simp [Instr.checkKey,run_under hk]
  ·simp [Instr.checkKey,run_under hk]
 exact key 9999
theorem keyFits_spec {t:TypeId} {k:AV} {u:Value} (h:keyFits P t k=true) (hk:Conc E k u):∃ kt e kd,P.underlying t=some (.map kt e)∧P.underlying kt=some kd∧((∃ k,kd = .int k)∨kd = .string)∧keyDesc kd u:=by
 unfold keyFits at h
 split at h
 ·rename_i kt e hu
  split at h
  ·rename_i kk k' n hkk
   cases hk
   exact ⟨kt,e,_,hu,hkk,.inl ⟨_,rfl⟩,.inl ⟨_,_,_,rfl,rfl⟩⟩
  ·rename_i l hkk
   cases hk
   exact ⟨kt,e,_,hu,hkk,.inr rfl,.inr ⟨_,rfl,rfl⟩⟩
  ·cases h
 ·cases h
theorem Rel.mp (h:Rel E w.heap st) {r:Nat} {es:List (AV × AV × Nat)} {clock:Nat} (hr:st.get r=some (.mp es clock)) :
  ∃ B ents,E.phi r=some B∧w.heap[B.b]? = some (.map ents clock)∧ConcE E es ents.toList∧st.alive r=some (.mp es clock):=by
 have ha:st.alive r=some (.mp es clock):=by simp [St.alive,hr]
 obtain ⟨B,hB,ents,h1,h2⟩:=h.rows r _ ha
 exact ⟨B,ents,hB,h1,h2,ha⟩
theorem getObj_run {b:Nat} {o:Obj} (h:w.heap[b]? = some o) (hc:∀ c e f,o≠.cells c e f):(getObj b).run P w = .ok o w:=by
 unfold getObj
 simp only [Sem.run,h]
theorem setObj_run {b:Nat} {o o':Obj} (h:w.heap[b]? = some o) (hc:∀ c e f,o≠.cells c e f):(setObj b o').run P w = .ok () { w with heap:=w.heap.setIfInBounds b o' }:=by
 unfold setObj
 simp only [Sem.run,h]
theorem findU_spec {kd:TypeDesc} {k:AV} {ku:Value} (hk:Conc E k ku) (hkd:keyDesc kd ku):∀ {es:List (AV × AV)} {ms:List MapEntry} {r:Option AV},findU k es=some r→ConcU E es ms →
  (∀ m ∈ ms,(Instr.sameNow kd ku m.key=some true∧∃ v,r=some v∧Conc E v m.val)∨Instr.sameNow kd ku m.key=some false)∧(∀ v,r=some v→∃ m ∈ ms,Instr.sameNow kd ku m.key=some true)
 | [],[],r,h,_=>by cases h; exact ⟨fun m hm=>by (cases hm),fun v hv=>by cases hv⟩
 | (x,v) :: es,m :: ms,r,h,⟨⟨h1,h2⟩,ht⟩=>by
  have key:∀ {q:Bool},eqS k x=some q→Instr.sameNow kd ku m.key=some q:=by
   intro q he
   rcases eqS_spec he hk h1 with ⟨kk,a,c,rfl,hm,rfl⟩ | ⟨a,c,rfl,hm,rfl⟩
   ·rw [hm]
    rcases hkd with ⟨k1,k2,n,rfl,hh⟩ | ⟨s,-,hh⟩
    ·simp only [Instr.sameNow,if_true]; rfl
    ·cases hh
   ·rw [hm]
    rcases hkd with ⟨k1,k2,n,rfl,hh⟩ | ⟨s,rfl,hh⟩
    ·cases hh
    ·simp only [Instr.sameNow]; rw [bytes_beq]
  unfold findU at h
  cases he:eqS k x with
  | none=>rw [he] at h; cases h
  | some q =>
   rw [he] at h
   have hq:=key he
   cases q with
   | false =>
    obtain ⟨g1,g2⟩:=findU_spec hk hkd h ht
    refine ⟨fun m' hm'=>?_,fun v' hv'=>?_⟩
    ·rcases List.mem_cons.1 hm' with rfl | hm'
     ·exact .inr hq
     ·exact g1 m' hm'
    ·obtain ⟨m',a,b⟩:=g2 v' hv'
     exact ⟨m',List.mem_cons_of_mem _ a,b⟩
   | true =>
    cases hf:findU k es with
    | none=>rw [hf] at h; cases h
    | some r' =>
     rw [hf] at h
     cases r' with
     | some _=>cases h
     | none =>
      cases h
      obtain ⟨g1,_⟩:=findU_spec hk hkd hf ht
      refine ⟨fun m' hm'=>?_,fun v' hv'=>⟨m,List.mem_cons_self ..,hq⟩⟩
      rcases List.mem_cons.1 hm' with rfl | hm'
      ·exact .inl ⟨hq,v,rfl,h2⟩
      ·rcases g1 m' hm' with ⟨_,v',hv',_⟩ | hh
       ·cases hv'
       ·exact .inr hh
theorem findNow_of {kd:TypeDesc} {ku:Value}:∀ {ms:List MapEntry} (i:Nat),(∀ m ∈ ms,Instr.sameNow kd ku m.key=some true∨Instr.sameNow kd ku m.key=some false) →
  (Instr.findNow kd ku ms i=some none∧∀ m ∈ ms,Instr.sameNow kd ku m.key=some false)∨∃ j m,m ∈ ms∧Instr.findNow kd ku ms i=some (some (j,m.val))∧Instr.sameNow kd ku m.key=some true
 | [],i,_=>.inl ⟨rfl,fun m hm=>by cases hm⟩
 | m :: ms,i,h=>by
  rcases h m (List.mem_cons_self ..) with h1 | h1
  ·exact .inr ⟨i,m,List.mem_cons_self ..,by simp [Instr.findNow,h1],h1⟩
  ·rcases findNow_of (i+1) fun m' hm'=>h m' (List.mem_cons_of_mem _ hm') with ⟨g1,g2⟩ | ⟨j,m',g1,g2,g3⟩
   ·refine .inl ⟨by simp only [Instr.findNow,h1]; exact g1,fun m' hm'=>?_⟩
    rcases List.mem_cons.1 hm' with rfl | hm'
    ·exact h1
    ·exact g2 m' hm'
   ·exact .inr ⟨j,m',List.mem_cons_of_mem _ g1,by simp only [Instr.findNow,h1]; exact g2,g3⟩
theorem Rel.mu (h:Rel E w.heap st) {r:Nat} {es:List (AV × AV)} (hr:st.get r=some (.mu es)) :
  ∃ B ents clock ms,E.phi r=some B∧w.heap[B.b]? = some (.map ents clock)∧ConcU E es ms∧ents.toList.Perm ms:=by
 have:st.alive r=some (.mu es):=by unfold St.alive; rw [hr]
 obtain ⟨B,hB,ents,c,ms,h1,h2,h3⟩:=h.rows _ _ this
 exact ⟨B,ents,c,ms,hB,h1,h2,h3⟩
theorem Rel.ch (h:Rel E w.heap st) {r cap:Nat} {buf:List AV} (hr:st.get r=some (.ch cap buf)) :
  st.alive r=some (.ch cap buf)∧∃ B s q us,E.phi r=some B∧w.heap[B.b]? = some (.chan cap (List.toArray us) false s q false)∧ConcL E buf us:=by
 have:st.alive r=some (.ch cap buf):=by unfold St.alive; rw [hr]
 obtain ⟨B,hB,s,q,us,h1,h2⟩:=h.rows _ _ this
 exact ⟨this,B,s,q,us,hB,h1,h2⟩
theorem lookup_spec (h:Rel E w.heap st) {t:TypeId} {x k v:AV} {ux uk:Value} {ok:Bool} (hl:lookup P t st x k ok=some v) (hx:Conc E x ux) (hk:Conc E k uk) :
  ∃ z,(Instr.lookup t ux uk ok).run P w = .ok z w∧Conc E v z:=by
 unfold lookup at hl
 split at hl
 ·rename_i kt e hu
  cases hz:zeroOf P e with
  | none=>rw [hz] at hl; cases hl
  | some zv =>
   rw [hz] at hl
   simp only at hl
   obtain ⟨hkf,hl⟩:=brec hl
   obtain ⟨z,rfl,hzr⟩:=zero_of hz
   obtain ⟨kt',e',kd,hu',hkd,hkk,hdesc⟩:=keyFits_spec hkf hk
   rw [hu] at hu'; cases hu'
   have back:∀ (v:AV) (u:Value) (b:Bool),Conc E v u→Conc E (bif ok then .tu [v,.b b] else v) (if ok then .tuple #[u,.bool b] else u):=by
    intro v u b hv
    cases ok with
    | true=>exact .tu _ [u,.bool b] (.cons _ _ _ _ hv (.cons _ _ _ _ (.b b) .nil))
    | false=>exact hv
   cases hx with
   | m r B hB =>
    cases hg:st.get r with
    | none=>simp only [hg] at hl; cases hl
    | some row =>
     cases row with
     | mp es clock =>
      simp only [hg] at hl
      obtain ⟨B',ents,hB',h1,h2,-⟩:=h.mp hg
      rw [hB] at hB'; cases hB'
      cases hf:find k es 0 with
      | none=>rw [hf] at hl; cases hl
      | some rr =>
       obtain ⟨r',g1,g2⟩:=find_spec hk hdesc hf h2
       rw [hf] at hl
       have hgo:=getObj_run (P:=P) h1 (by intros; exact Obj.noConfusion)
       cases rr with
       | none =>
        cases r' with
        | some p=>exact g2.elim
        | none =>
         simp only [Option.some.injEq] at hl
         subst hl
         refine ⟨if ok then .tuple #[z,.bool false] else z,?_,back _ _ _ (ofVal_conc z)⟩
         simp only [Instr.lookup,Sem.run_bind,run_under hu,Result.andThen_ok,hgo,Sem.run_pure,checkKey_run hkd hkk,Instr.findKey,run_under hkd,g1,hzr]
       | some p =>
        obtain ⟨j,vv⟩:=p
        cases r' with
        | none=>exact g2.elim
        | some p' =>
         obtain ⟨j',u⟩:=p'
         simp only [Option.some.injEq] at hl
         subst hl
         refine ⟨if ok then .tuple #[u,.bool true] else u,?_,back _ _ _ g2.2.1⟩
         simp only [Instr.lookup,Sem.run_bind,run_under hu,Result.andThen_ok,hgo,Sem.run_pure,checkKey_run hkd hkk,Instr.findKey,run_under hkd,g1]
     | mu es =>
      simp only [hg] at hl
      obtain ⟨B',ents,clock,ms,hB',h1,h2,h3⟩:=h.mu hg
      rw [hB] at hB'; cases hB'
      have hgo:=getObj_run (P:=P) h1 (by intros; exact Obj.noConfusion)
      cases hf:findU k es with
      | none=>rw [hf] at hl; cases hl
      | some rr =>
       rw [hf] at hl
       obtain ⟨g1,g2⟩:=findU_spec hk hdesc hf h2
       have g1':∀ m ∈ ents.toList,_:=fun m hm=>g1 m (h3.mem_iff.1 hm)
       rcases findNow_of 0 (fun m hm=>(g1' m hm).imp (·.1) id) with ⟨q1,q2⟩ | ⟨j,m,q0,q1,q2⟩
       ·cases rr with
        | none =>
         simp only [Option.some.injEq] at hl
         subst hl
         refine ⟨if ok then .tuple #[z,.bool false] else z,?_,back _ _ _ (ofVal_conc z)⟩
         simp only [Instr.lookup,Sem.run_bind,run_under hu,Result.andThen_ok,hgo,Sem.run_pure,checkKey_run hkd hkk,Instr.findKey,run_under hkd,q1,hzr]
        | some vv =>
         obtain ⟨m,hm,hs⟩:=g2 vv rfl
         have:=q2 m (h3.mem_iff.2 hm)
         rw [this] at hs; cases hs
       ·rcases g1' m q0 with ⟨_,vv,rfl,hc⟩ | hh
        ·simp only [Option.some.injEq] at hl
         subst hl
         refine ⟨if ok then .tuple #[m.val,.bool true] else m.val,?_,back _ _ _ hc⟩
         simp only [Instr.lookup,Sem.run_bind,run_under hu,Result.andThen_ok,hgo,Sem.run_pure,checkKey_run hkd hkk,Instr.findKey,run_under hkd,q1]
        ·rw [q2] at hh; cases hh
     | _=>simp only [hg] at hl; cases hl
   | mn =>
    simp only [Option.some.injEq] at hl
    subst hl
    refine ⟨if ok then .tuple #[z,.bool false] else z,?_,back _ _ _ (ofVal_conc z)⟩
    have g1:Instr.findNow kd uk ([]:List MapEntry) 0=some none:=rfl
    simp only [Instr.lookup,Sem.run_bind,run_under hu,Result.andThen_ok,Sem.run_pure,checkKey_run hkd hkk,Instr.findKey,run_under hkd,g1,hzr]
   | _=>cases hl
 ·cases hl
theorem ConcE.setVal {v:AV} {u:Value} (hv:Conc E v u):∀ {es:List (AV × AV × Nat)} {ms:List MapEntry} (i:Nat),ConcE E es ms→ConcE E (setVal es i v) (ms.modify i fun e=>{ e with val:=u })
 | [],[],i,_=>by cases i <;> exact trivial
 | (k,x,b) :: es,m :: ms,0,⟨⟨h1,h2,h3⟩,ht⟩=>⟨⟨h1,hv,h3⟩,ht⟩
 | e :: es,m :: ms,i+1,⟨h1,ht⟩=>⟨h1,ConcE.setVal hv i ht⟩
theorem ConcE.snoc {k v:AV} {ku vu:Value} {c:Nat} (hk:Conc E k ku) (hv:Conc E v vu):∀ {es:List (AV × AV × Nat)} {ms:List MapEntry},ConcE E es ms→ConcE E (es++[(k,v,c)]) (ms++[{ key:=ku,val:=vu,born:=c }])
 | [],[],_=>⟨⟨hk,hv,rfl⟩,trivial⟩
 | _ :: _,_ :: _,⟨h1,ht⟩=>⟨h1,ConcE.snoc hk hv ht⟩
theorem ConcE.dropAt:∀ {es:List (AV × AV × Nat)} {ms:List MapEntry} (i:Nat),ConcE E es ms→ConcE E (dropAt es i) (ms.eraseIdx i)
 | [],[],i,_=>by cases i <;> exact trivial
 | _ :: _,_ :: _,0,⟨_,ht⟩=>ht
 | _ :: _,_ :: _,i+1,⟨h1,ht⟩=>⟨h1,ConcE.dropAt i ht⟩
theorem ConcE.length:∀ {es:List (AV × AV × Nat)} {ms:List MapEntry},ConcE E es ms→es.length=ms.length
 | [],[],_=>rfl
 | _ :: _,_ :: _,⟨_,ht⟩=>by simp [ConcE.length ht]
theorem sameBits_self {kd:TypeDesc} {u:Value} (h:keyDesc kd u) (n:Nat):Instr.sameBits n u u=true:=by
 rcases h with ⟨k,k',m,-,rfl⟩ | ⟨s,-,rfl⟩
 ·cases n <;> simp [Instr.sameBits]
 ·cases n <;> (simp only [Instr.sameBits]; rw [bytes_beq]; simp)
theorem mapUpdate_spec (h:Rel E w.heap st) {t:TypeId} {x k v:AV} {ux uk uv:Value} {st':St} (hl:mapUpdate P t st x k v=some st') (hx:Conc E x ux) (hk:Conc E k uk) (hv:Conc E v uv) :
  ∃ w',(Instr.mapUpdate t ux uk uv).run P w = .ok () w'∧StepW E E w w' st st':=by
 unfold mapUpdate at hl
 obtain ⟨hkf,hl⟩:=brec hl
 obtain ⟨kt,e,kd,hu,hkd,hkk,hdesc⟩:=keyFits_spec hkf hk
 cases hx with
 | m r B hB =>
  cases hg:st.get r with
  | none=>simp only [hg] at hl; cases hl
  | some row =>
   cases row with
   | mp es clock =>
    simp only [hg] at hl
    obtain ⟨B',ents,hB',h1,h2,halive⟩:=h.mp hg
    rw [hB] at hB'; cases hB'
    cases hf:find k es 0 with
    | none=>rw [hf] at hl; cases hl
    | some rr =>
     obtain ⟨r',g1,g2⟩:=find_spec hk hdesc hf h2
     rw [hf] at hl
     have hgo:=getObj_run (P:=P) h1 (by intros; exact Obj.noConfusion)
     cases rr with
     | none =>
      cases r' with
      | some p=>exact g2.elim
      | none =>
       cases hl
       refine ⟨{ w with heap:=w.heap.setIfInBounds B.b (.map (ents.push { key:=uk,val:=uv,born:=clock }) (clock+1)) },?_,?_⟩
       ·simp only [Instr.mapUpdate,Sem.run_bind,run_under hu,Result.andThen_ok,hgo,checkKey_run hkd hkk,Instr.findKey,run_under hkd,g1,Sem.run_pure]
        exact setObj_run h1 (by intros; exact Obj.noConfusion)
       ·exact StepW.of <| Step.putRow h halive hB (by intros; exact Row.noConfusion) (by intros; exact Row.noConfusion) _ (fun H' hH'=>⟨_,hH',by simpa using h2.snoc hk hv⟩)
     | some p =>
      obtain ⟨j,vv⟩:=p
      cases r' with
      | none=>exact g2.elim
      | some p' =>
       obtain ⟨j',u⟩:=p'
       obtain ⟨rfl,hcv,-,m,hm,rfl,hmk⟩:=g2
       cases hl
       have hm':ents[j]? = some m:=by simpa using hm
       refine ⟨{ w with heap:=w.heap.setIfInBounds B.b (.map (ents.modify j fun e=>{ e with key:=uk,val:=uv }) clock) },?_,?_⟩
       ·simp only [Instr.mapUpdate,Sem.run_bind,run_under hu,Result.andThen_ok,hgo,checkKey_run hkd hkk,Instr.findKey,run_under hkd,g1,Sem.run_pure,hm',Option.map_some,Option.getD_some,hmk,
         Instr.keyThatStays,sameBits_self hdesc,if_true]
        exact setObj_run h1 (by intros; exact Obj.noConfusion)
       ·refine StepW.of <| Step.putRow h halive hB (by intros; exact Row.noConfusion) (by intros; exact Row.noConfusion) _ (fun H' hH'=>⟨_,hH',?_⟩)
        have e1:(ents.modify j fun e=>{ e with key:=uk,val:=uv }).toList=ents.toList.modify j fun e=>{ e with val:=uv }:=by
         rw [Array.toList_modify]
         apply List.ext_getElem?
         intro q
         rw [List.getElem?_modify,List.getElem?_modify]
         by_cases hq:j=q
         ·subst hq
          rw [Array.getElem?_toList,hm']
          simp [hmk]
         ·simp [hq]
        rw [e1]
        exact h2.setVal hv j
   | _=>simp only [hg] at hl; cases hl
 | _=>cases hl
theorem bornAt_eq:∀ {es:List (AV × AV × Nat)} {ms:List MapEntry} (i:Nat) (m:MapEntry),ConcE E es ms→ms[i]? = some m→bornAt es i=m.born
 | [],[],i,m,_,h=>by simp at h
 | (k,x,b) :: es,m' :: ms,0,m,⟨⟨_,_,h3⟩,_⟩,h=>by simp at h; subst h; exact h3.symm
 | e :: es,m' :: ms,i+1,m,⟨_,ht⟩,h=>bornAt_eq i m ht (by simpa using h)
theorem findBorn_eq {b:Nat}:∀ {es:List (AV × AV × Nat)} {ms:List MapEntry} (n:Nat),ConcE E es ms→findBorn b es n=(ms.findIdx? fun e=>(e.born:Int) == (b:Int)).map (· + n)
 | [],[],n,_=>rfl
 | (k,x,c) :: es,m :: ms,n,⟨⟨_,_,h3⟩,ht⟩=>by
  have e:findBorn b ((k,x,c) :: es) n=@Bool.rec (fun _=>Option Nat) (findBorn b es (n+1)) (some n) (Nat.beq c b):=rfl
  rw [e,findBorn_eq (n+1) ht,List.findIdx?_cons]
  have h3':m.born=c:=h3
  rw [h3',nbeq]
  by_cases hc:c=b
  ·subst hc; simp
  ·have:((c:Int) == (b:Int))=false:=by simp; omega
   rw [decide_eq_false hc,this]
   simp only [Bool.false_eq_true,if_false,Option.map_map]
   congr 1
   funext i
   simp; omega
theorem mapEntry_spec (h:Rel E w.heap st) {t:TypeId} {x k v:AV} {ux uk:Value} {st':St} (hl:mapEntry P t st x k=some (v,st')) (hx:Conc E x ux) (hk:Conc E k uk) :
  ∃ w' z,(Instr.mapEntry t ux uk).run P w = .ok z w'∧StepW E E w w' st st'∧Conc E v z:=by
 unfold mapEntry at hl
 obtain ⟨hkf,hl⟩:=brec hl
 obtain ⟨kt,e',kd,hu,hkd,hkk,hdesc⟩:=keyFits_spec hkf hk
 split at hl
 case h_2=>cases hl
 rename_i kt2 e r hu2 _
 rw [hu] at hu2; cases hu2
 cases hx with
 | m r B hB =>
  unfold entryIn at hl
  split at hl
  case h_2=>cases hl
  rename_i es clock hg
  obtain ⟨B',ents,hB',h1,h2,halive⟩:=h.mp hg
  rw [hB] at hB'; cases hB'
  have hgo:=getObj_run (P:=P) h1 (by intros; exact Obj.noConfusion)
  cases hf:find k es 0 with
  | none=>rw [hf] at hl; cases hl
  | some rr =>
   obtain ⟨r',g1,g2⟩:=find_spec hk hdesc hf h2
   rw [hf] at hl
   cases rr with
   | none =>
    cases r' with
    | some p=>exact g2.elim
    | none =>
     simp only at hl
     unfold entryNew at hl
     split at hl
     case h_2=>cases hl
     rename_i zv hz
     obtain ⟨z,rfl,hzr⟩:=zero_of hz
     cases hl
     refine ⟨{ w with heap:=w.heap.setIfInBounds B.b (.map (ents.push { key:=uk,val:=z,born:=clock }) (clock+1)) },.tuple #[z,goInt clock],?_,?_,?_⟩
     ·simp only [Instr.mapEntry,Sem.run_bind,run_under hu,Result.andThen_ok,hgo,checkKey_run hkd hkk,Instr.findKey,run_under hkd,g1,Sem.run_pure,hzr]
      rw [setObj_run h1 (by intros; exact Obj.noConfusion)]
      rfl
     ·exact StepW.of <| Step.putRow h halive hB (by intros; exact Row.noConfusion) (by intros; exact Row.noConfusion) _ (fun H' hH'=>⟨_,hH',by simpa using h2.snoc hk (ofVal_conc z)⟩)
     ·exact .tu _ [z,.int .i64 (Int.ofNat clock)] (.cons _ _ _ _ (ofVal_conc z) (.cons _ _ _ _ (.i _ _) .nil))
   | some p =>
    obtain ⟨j,vv⟩:=p
    cases r' with
    | none=>exact g2.elim
    | some p' =>
     obtain ⟨j',u⟩:=p'
     obtain ⟨rfl,hcv,-,m,hm,rfl,hmk⟩:=g2
     cases hl
     have hm':ents[j]? = some m:=by simpa using hm
     have hb:bornAt es j=m.born:=bornAt_eq j m h2 hm
     refine ⟨{ w with heap:=w.heap.setIfInBounds B.b (.map (ents.modify j fun e=>{ e with key:=uk }) clock) },.tuple #[m.val,goInt m.born],?_,?_,?_⟩
     ·simp only [Instr.mapEntry,Sem.run_bind,run_under hu,Result.andThen_ok,hgo,checkKey_run hkd hkk,Instr.findKey,run_under hkd,g1,Sem.run_pure,hm',Option.map_some,Option.getD_some,hmk,
       Instr.keyThatStays,sameBits_self hdesc,if_true]
      rw [setObj_run h1 (by intros; exact Obj.noConfusion)]
      rfl
     ·refine StepW.of <| Step.putRow h halive hB (by intros; exact Row.noConfusion) (by intros; exact Row.noConfusion) _ (fun H' hH'=>⟨_,hH',?_⟩)
      have e1:(ents.modify j fun e=>{ e with key:=uk }).toList=ents.toList:=by
       rw [Array.toList_modify]
       apply List.ext_getElem?
       intro q
       rw [List.getElem?_modify]
       by_cases hq:j=q
       ·subst hq
        rw [Array.getElem?_toList,hm']
        simp
        cases m
        simp_all
       ·simp [hq]
      rw [e1]
      exact h2
     ·rw [hb]
      exact .tu _ [m.val,.int .i64 (Int.ofNat m.born)] (.cons _ _ _ _ hcv (.cons _ _ _ _ (.i _ _) .nil))
theorem entryStore_spec (h:Rel E w.heap st) {t:TypeId} {x s v:AV} {ux us uv:Value} {st':St} (hl:entryStore st v x (natOf s)=some st') (hx:Conc E x ux) (hs:Conc E s us) (hv:Conc E v uv) :
  ∃ w',(Instr.entryStore t ux us uv).run P w = .ok () w'∧StepW E E w w' st st':=by
 cases hn:natOf s with
 | none=>rw [hn] at hl; cases x <;> cases hl
 | some b =>
  obtain ⟨kk,rfl⟩:=natOf_some hn
  cases hs
  rw [hn] at hl
  cases hx with
  | m r B hB =>
   simp only [entryStore] at hl
   split at hl
   case h_2=>cases hl
   rename_i es clock hg
   obtain ⟨B',ents,hB',h1,h2,halive⟩:=h.mp hg
   rw [hB] at hB'; cases hB'
   have hgo:=getObj_run (P:=P) h1 (by intros; exact Obj.noConfusion)
   rw [findBorn_eq 0 h2] at hl
   cases hf:ents.toList.findIdx? (fun e=>(e.born:Int) == (b:Int)) with
   | none=>rw [hf] at hl; cases hl
   | some i =>
    rw [hf] at hl
    cases hl
    have hf':ents.findIdx? (fun e=>(e.born:Int) == Int.ofNat b)=some i:=by
     have e:ents.findIdx? (fun e=>(e.born:Int) == Int.ofNat b)=ents.toList.findIdx? (fun e=>(e.born:Int) == Int.ofNat b):=by
      conv=>lhs; rw [show ents=ents.toList.toArray from rfl]
      rw [List.findIdx?_toArray]
     rw [e]; exact hf
    refine ⟨{ w with heap:=w.heap.setIfInBounds B.b (.map (ents.modify i fun e=>{ e with val:=uv }) clock) },?_,?_⟩
    ·simp only [Instr.entryStore,Sem.run_bind,Result.andThen_ok,hgo,asInt,asIntOf,Sem.run_pure,hf']
     exact setObj_run h1 (by intros; exact Obj.noConfusion)
    ·refine StepW.of <| Step.putRow h halive hB (by intros; exact Row.noConfusion) (by intros; exact Row.noConfusion) _ (fun H' hH'=>⟨_,hH',?_⟩)
     rw [Array.toList_modify]
     exact h2.setVal hv i
  | _=>simp only [entryStore] at hl; cases hl
theorem delete_spec (h:Rel E w.heap st) {t:TypeId} {ts:List TypeId} {x k:AV} {ux uk:Value} {st':St} (hl:delete P t st x k=some st') (hx:Conc E x ux) (hk:Conc E k uk) (ty:TypeId) :
  ∃ w',(Builtin.delete_ (t :: ts).toArray ty #[ux,uk]).run P w = .ok (.tuple #[]) w'∧StepW E E w w' st st':=by
 unfold delete at hl
 obtain ⟨hkf,hl⟩:=brec hl
 obtain ⟨kt,e,kd,hu,hkd,hkk,hdesc⟩:=keyFits_spec hkf hk
 cases hx with
 | m r B hB =>
  cases hg:st.get r with
  | none=>simp only [hg] at hl; cases hl
  | some row =>
   cases row with
   | mp es clock =>
    simp only [hg] at hl
    obtain ⟨B',ents,hB',h1,h2,halive⟩:=h.mp hg
    rw [hB] at hB'; cases hB'
    cases hf:find k es 0 with
    | none=>rw [hf] at hl; cases hl
    | some rr =>
     obtain ⟨r',g1,g2⟩:=find_spec hk hdesc hf h2
     rw [hf] at hl
     have hgo:=getObj_run (P:=P) h1 (by intros; exact Obj.noConfusion)
     have hset:∀ o,(setObj B.b o).run P w = .ok () { w with heap:=w.heap.setIfInBounds B.b o }:=fun o=>setObj_run h1 (by intros; exact Obj.noConfusion)
     cases rr with
     | none =>
      cases r' with
      | some p=>exact g2.elim
      | none =>
       cases hl
       refine ⟨{ w with heap:=w.heap.setIfInBounds B.b (.map ents clock) },?_,?_⟩
       ·simp [Builtin.delete_,run_under hu,hgo,checkKey_run hkd hkk,Instr.findKey,run_under hkd,g1,hset]
       ·have e:w.heap.setIfInBounds B.b (.map ents clock)=w.heap:=by
         obtain ⟨hlt,he⟩:=Array.getElem?_eq_some_iff.1 h1
         apply Array.ext
         ·simp
         ·intro j g1 g2
          by_cases hq:j=B.b
          ·subst hq; simp [he]
          ·rw [Array.getElem_setIfInBounds_ne _ (Ne.symm hq)]
        simp only [e]
        exact .refl h
     | some p =>
      obtain ⟨j,vv⟩:=p
      cases r' with
      | none=>exact g2.elim
      | some p' =>
       obtain ⟨j',u⟩:=p'
       obtain ⟨rfl,hcv,-,m,hm,rfl,hmk⟩:=g2
       cases hl
       refine ⟨{ w with heap:=w.heap.setIfInBounds B.b (.map (ents.eraseIdxIfInBounds j) clock) },?_,?_⟩
       ·simp [Builtin.delete_,run_under hu,hgo,checkKey_run hkd hkk,Instr.findKey,run_under hkd,g1,hset]
       ·refine StepW.of <| Step.putRow h halive hB (by intros; exact Row.noConfusion) (by intros; exact Row.noConfusion) _ (fun H' hH'=>⟨_,hH',?_⟩)
        have e1:(ents.eraseIdxIfInBounds j).toList=ents.toList.eraseIdx j:=by simp
        rw [e1]
        exact h2.dropAt j
   | _=>simp only [hg] at hl; cases hl
 | mn =>
  cases hl
  exact ⟨w,by simp [Builtin.delete_,run_under hu,checkKey_run hkd hkk],.refl h⟩
 | _=>cases hl
end
end
end Go.Ev
namespace Go.Ev
noncomputable section
def Gives (E:Env) (w:World) (st st':St) (v:AV) (r:Result Next):Prop :=
 ∃ E' w' cv,(r = .ok (.value cv) w'∨(r = .ok .skip w'∧cv=undef))∧StepW E E' w w' st st'∧Conc E' v cv
section
variable {P : Program} {w : World} {E : Env} {st : St}
theorem gives_val {s:Sem Value} {v:AV} {z:Value} (h:Rel E w.heap st) (hr:s.run P w = .ok z w) (hc:Conc E v z):Gives E w st st v ((do pure (.value (← s)):Sem Next).run P w) :=
 ⟨E,w,z,.inl (by rw [Sem.run_bind,hr]; rfl),.refl h,hc⟩
theorem gives_step {s:Sem Value} {v:AV} {z:Value} {E':Env} {w':World} {st':St} (hr:s.run P w = .ok z w') (hs:StepW E E' w w' st st') (hc:Conc E' v z):Gives E w st st' v ((do pure (.value (← s)):Sem Next).run P w) :=
 ⟨E',w',z,.inl (by rw [Sem.run_bind,hr]; rfl),hs,hc⟩
theorem gives_unit {s:Sem Unit} {w':World} {st':St} (hr:s.run P w = .ok () w') (hs:StepW E E w w' st st'):Gives E w st st' .un ((do s; pure .skip:Sem Next).run P w) :=
 ⟨E,w',undef,.inr ⟨by rw [Sem.run_bind,hr]; rfl,rfl⟩,hs,.un⟩
theorem give_spec {v:AV} {st':St} {o:Option AV} (h:give st o=some (v,st')):o=some v∧st'=st:=by
 cases o with
 | none=>cases h
 | some x=>cases h; exact ⟨rfl,rfl⟩
theorem done_spec {v:AV} {st':St} {o:Option St} (h:done o=some (v,st')):o=some st'∧v = .un:=by
 cases o with
 | none=>cases h
 | some x=>cases h; exact ⟨rfl,rfl⟩
theorem asBool_run {x:AV} {u:Value} {b:Bool} (h:x.asB=some b) (hx:Conc E x u):(asBool u).run P w = .ok b w:=by
 have:=AV.asB_some h; subst this
 cases hx; rfl
theorem allocC_spec (h:Rel E w.heap st) {l:Option (List AV)} {v:AV} {st':St} (ha:allocC st l=some (v,st')) (hn:st'.next≤E.top) {us:Array Value} (t:TypeId) (hc:∀ l',l=some l'→ConcL E l' us.toList) :
  ∃ E' w' z,(newRow t us).run P w = .ok z w'∧StepW E E' w w' st st'∧Conc E' v (.pointer (some z)):=by
 cases l with
 | none=>cases ha
 | some l =>
  cases ha
  obtain ⟨E',w',h1,h2,h3⟩:=alloc_spec (P:=P) h (show st.next+1≤E.top from hn) t (hc l rfl)
  refine ⟨E',w',_,h1,h2,?_⟩
  have:=Conc.p (E:=E') st.next 0 _ h3
  simpa using this
theorem fillAg_spec {ρ:Operand→Value} {t:Tr AV} (hρ:∀ x,Conc E (evO t x) (ρ x)) {place:Nat→Option (Nat × Nat)} {parts:List (Nat × Operand)} {z:Option (List AV)} {v:AV} {st':St}
  (h:fillAg st place (vals t parts) z=some (v,st')) {us:Array Value} (hz:∀ l,z=some l→ConcL E l us.toList) :
  st'=st∧∃ us':Array Value,Instr.fill place us (parts.map fun (i,x)=>(i,ρ x))=some us'∧Conc E v (.agg us'):=by
 cases z with
 | none=>cases h
 | some l =>
  simp only [fillAg] at h
  cases hf:fill place l (vals t parts) with
  | none=>rw [hf] at h; cases h
  | some l' =>
   rw [hf] at h; cases h
   obtain ⟨us',h1,h2⟩:=fill_spec hρ parts l l' us hf (hz l rfl)
   exact ⟨rfl,us',h1,by simpa using Conc.ag (E:=E) l' us'.toList h2⟩
theorem run_placeF:∀ (l:List Field),(∀ f ∈ l,hasInfo P f.type=true)→(l.mapM fun f=>(do pure (f.offset,← sizeOf f.type):Sem (Nat × Nat))).run P w = .ok (l.map fun f=>(f.offset,szOf P f.type)) w
 | [],_=>by simp
 | f :: l,h=>by
  simp only [List.mapM_cons,Sem.run_bind,run_size (h f (by simp)),Result.andThen_ok,Sem.run_pure,run_placeF l (fun g hg=>h g (by simp [hg])),List.map_cons]
theorem build_spec {S:Self} {t:Tr AV} {ρ:Operand→Value} (hρ:∀ x,Conc E (evO t x) (ρ x)) {ty:TypeId} {parts:Array (Nat × Operand)} {v:AV} {st':St} (hb:opBuild ty parts P S t st=some (v,st')) :
  st'=st∧∃ z,(Instr.build ty (parts.map fun (i,x)=>(i,ρ x))).run P w = .ok z w∧Conc E v z:=by
 unfold opBuild at hb
 obtain ⟨hwf,hb⟩:=brec hb
 unfold opBuild1 at hb
 split at hb
 ·rename_i fs hu
  have hfs:∀ f ∈ fs.toList,hasInfo P f.type=true:=by
   simp only [wfTy,hu,List.all_eq_true] at hwf; exact hwf
  cases hz:zeroC P ty with
  | none=>rw [hz] at hb; cases hb
  | some l =>
   obtain ⟨z,g1,g2,g3,g4⟩:=zeroC_spec (E:=E) hz
   obtain ⟨rfl,us',k1,k2⟩:=fillAg_spec hρ hb (us:=z.cells) (fun l' e=>by rw [hz] at e; cases e; exact g2)
   refine ⟨rfl,.agg us',?_,k2⟩
   have hp:=run_placeF (P:=P) (w:=w) fs.toList hfs
   have hm:(fs.mapM fun f=>(do pure (f.offset,← sizeOf f.type):Sem (Nat × Nat))).run P w = .ok (fs.map fun f=>(f.offset,szOf P f.type)) w:=by
    rw [Array.mapM_eq_mapM_toList,Sem.run_map,hp]
    rw [← Array.toList_map]
    simp only [Result.andThen_ok,Array.toArray_toList]
   have hpl:(fun i=>(fs.map fun f=>(f.offset,szOf P f.type))[i]?)=placeF P fs:=by
    funext i
    simp only [placeF,Array.getElem?_map]
    cases fs[i]? <;> rfl
   simp only [Instr.build,Sem.run_bind,g1,Result.andThen_ok,run_under hu,hm]
   have k1':Instr.fill (fun i=>(fs.map fun f=>(f.offset,szOf P f.type))[i]?) z.cells (parts.map fun (i,x)=>(i,ρ x)).toList=some us':=by
    rw [hpl]; simpa using k1
   rw [k1']
   rfl
 ·rename_i n e hu
  have hel:hasInfo P e=true:=by simpa only [wfTy,hu] using hwf
  cases hz:zeroC P ty with
  | none=>rw [hz] at hb; cases hb
  | some l =>
   obtain ⟨z,g1,g2,g3,g4⟩:=zeroC_spec (E:=E) hz
   obtain ⟨rfl,us',k1,k2⟩:=fillAg_spec hρ hb (us:=z.cells) (fun l' e=>by rw [hz] at e; cases e; exact g2)
   refine ⟨rfl,.agg us',?_,k2⟩
   simp only [Instr.build,Sem.run_bind,g1,Result.andThen_ok,run_under hu,run_size hel]
   have k1':Instr.fill (fun i=>some (i * szOf P e,szOf P e)) z.cells (parts.map fun (i,x)=>(i,ρ x)).toList=some us':=by
    have:(fun i=>some (i * szOf P e,szOf P e))=placeE (szOf P e):=rfl
    rw [this]; simpa using k1
   rw [k1']
   rfl
 ·cases hb
theorem rep_get {α:Type} (l:List α):∀ (n j:Nat),j < n * l.length→(rep n l)[j]? = l[j % l.length]?
 | 0,j,h=>by simp at h
 | n+1,j,h=>by
  have hl:0 < l.length:=by
   rcases Nat.eq_zero_or_pos l.length with e | e
   ·rw [e] at h; simp at h
   ·exact e
  unfold rep
  rw [List.getElem?_append]
  split
  ·rename_i hj; rw [Nat.mod_eq_of_lt hj]
  ·rename_i hj
   have h':j < n * l.length+l.length:=by rw [← Nat.succ_mul]; exact h
   have hm:j % l.length=(j - l.length) % l.length:=Nat.mod_eq_sub_mod (by omega)
   rw [rep_get l n (j - l.length) (by omega),hm]
theorem range_map_rep (z:Array Value) (n m:Nat) (h:z.size=m):((Array.range (n * m)).map (z[· % z.size]!)).toList=rep n z.toList:=by
 subst h
 apply List.ext_getElem?
 intro j
 by_cases hj:j < n * z.size
 ·rw [rep_get z.toList n j (by simpa using hj)]
  have hz:0 < z.size:=by
   rcases Nat.eq_zero_or_pos z.size with e | e
   ·rw [e] at hj; simp at hj
   ·exact e
  have hm:=Nat.mod_lt j hz
  simp [hj,hm]
 ·rw [List.getElem?_eq_none (by simpa using hj),List.getElem?_eq_none (by rw [rep_length]; simpa using hj)]
theorem rep_zero {α:Type}:∀ n:Nat,rep n ([]:List α)=[]
 | 0=>rfl
 | n+1=>by simp [rep,rep_zero n]
theorem zeros_run {e:TypeId} {z:List AV} (hz:zeroC P e=some z) (n:Nat):∃ (zero:Array Value),(∀ (K:Array Value→Sem Value) w,
   (if n * szOf P e=0 then (do let zero ← pure #[]; K zero) else (do let v ← zeroValue e; let zero ← pure v.cells; K zero):Sem Value).run P w=(K zero).run P w) ∧
  ConcL E (rep n z) ((Array.range (n * szOf P e)).map (zero[· % zero.size]!)).toList:=by
 obtain ⟨v,g1,g2,g3,g4⟩:=zeroC_spec (E:=E) hz
 have hsz:v.cells.size=szOf P e:=by have:=g2.length; simp at this; omega
 by_cases h0:n * szOf P e=0
 ·refine ⟨#[],fun K w=>by rw [if_pos h0]; rfl,?_⟩
  rw [h0]
  have:rep n z=[]:=by
   rcases Nat.mul_eq_zero.1 h0 with hh | hh
   ·subst hh; rfl
   ·have:z=[]:=List.length_eq_zero_iff.1 (by omega)
    subst this; exact rep_zero n
  rw [this]
  simpa using ConcL.nil
 ·refine ⟨v.cells,fun K w=>by rw [if_neg h0,Sem.run_bind,g1]; rfl,?_⟩
  rw [range_map_rep v.cells n _ hsz]
  exact rep_conc g2 n
theorem newSl_spec (h:Rel E w.heap st) {len z:Nat} {l:List AV} {v:AV} {st':St} (hs:newSl st len z (some l)=some (v,st')) (hn:st'.next≤E.top) {us:Array Value} (t:TypeId) (hc:ConcL E l us.toList) :
  ∃ E' w' a,(newRow t us).run P w = .ok a w'∧StepW E E' w w' st st'∧Conc E' v (.slice (some a) len len):=by
 cases hs
 obtain ⟨E',w',h1,h2,h3⟩:=alloc_spec (P:=P) h (show st.next+1≤E.top from hn) t hc
 exact ⟨E',w',_,h1,h2,.slk st.next 0 len z len _ (Nat.le_refl _) (.inr ⟨_,h3,by simp⟩)⟩
theorem buildSlice_spec (h:Rel E w.heap st) {S:Self} {t:Tr AV} {ρ:Operand→Value} (hρ:∀ x,Conc E (evO t x) (ρ x)) {ty:TypeId} {len:Nat} {parts:Array (Nat × Operand)} {v:AV} {st':St}
  (hb:opBuildSlice ty len parts P S t st=some (v,st')) (hn:st'.next≤E.top) :
  ∃ E' w' z,(Instr.buildSlice ty len (parts.map fun (i,x)=>(i,ρ x))).run P w = .ok z w'∧StepW E E' w w' st st'∧Conc E' v z:=by
 unfold opBuildSlice at hb
 split at hb
 ·cases hb
 ·rename_i e he
  have hu:=elOf_spec he
  cases hz:zeroC P e with
  | none=>rw [hz] at hb; cases hb
  | some z =>
   rw [hz] at hb
   obtain ⟨hle,hb⟩:=brec hb
   obtain ⟨zero,g1,g2⟩:=zeros_run (E:=E) hz len
   have hi:hasInfo P e=true:=by obtain ⟨_,_,_,g3,_⟩:=zeroC_spec (E:=E) hz; exact g3
   cases hf:fill (placeE (szOf P e)) (rep len z) (vals t parts.toList) with
   | none=>rw [hf] at hb; cases hb
   | some l' =>
    rw [hf] at hb
    obtain ⟨us',h1,h2⟩:=fill_spec hρ parts.toList _ l' _ hf g2
    obtain ⟨E',w',a,k1,k2,k3⟩:=newSl_spec (P:=P) h hb hn e h2
    refine ⟨E',w',_,?_,k2,k3⟩
    have hle':¬ len * szOf P e > 2 ^ 24:=by have:=Nat.le_of_ble_eq_true hle; omega
    have h1':Instr.fill (fun i=>some (i * szOf P e,szOf P e)) ((Array.range (len * szOf P e)).map (zero[· % zero.size]!)) (parts.map fun (i,x)=>(i,ρ x)).toList=some us':=by
     have:(fun i=>some (i * szOf P e,szOf P e))=placeE (szOf P e):=rfl
     rw [this]; simpa using h1
    simp only [Instr.buildSlice,Sem.run_bind,run_under hu,Result.andThen_ok,run_size hi,if_neg hle']
    refine (g1 (fun zero=>_) w).trans ?_
    rw [h1']
    simp only [Sem.run_bind,k1,Result.andThen_ok,Sem.run_pure]
theorem zeroC_info {e:TypeId} {l:List AV} (hz:zeroC P e=some l):∃ i z,P.info? e=some i∧i.zero=some z∧ConcL E l z.cells.toList∧i.size=l.length∧hasInfo P e=true:=by
 obtain ⟨z,g1,g2,g3,g4⟩:=zeroC_spec (E:=E) hz
 obtain ⟨i,d,hi,hd⟩:=info_of g3
 have hs:szOf P e=i.size:=by simp [szOf,hi]
 refine ⟨i,z,hi,?_,g2,by omega,g3⟩
 have:=g1 default
 simp only [zeroValue,Sem.run_bind,run_typeInfo' hi,Result.andThen_ok] at this
 cases hzz:i.zero with
 | none=>rw [hzz] at this; cases this
 | some v=>rw [hzz] at this; cases this; rfl
theorem made_conc {z:List AV} {v:Array Value} (h:ConcL E z v.toList) (n:Nat):ConcL E (rep n z) (madeCells v (n * z.length)).toList:=by
 have hl:=h.length
 simp at hl
 unfold madeCells
 rw [range_map_rep v n _ hl.symm]
 exact rep_conc h n
theorem makeSlice_spec (h:Rel E w.heap st) {S:Self} {t:Tr AV} {ρ:Operand→Value} (hρ:∀ x,Conc E (evO t x) (ρ x)) {ty:TypeId} {lx cx:Operand} {v:AV} {st':St}
  (hb:opMakeSlice ty lx cx P S t st=some (v,st')) (hn:st'.next≤E.top) :
  ∃ E' w' z,(Instr.makeSlice ty (ρ lx) (ρ cx)).run P w = .ok z w'∧StepW E E' w w' st st'∧Conc E' v z:=by
 unfold opMakeSlice at hb
 split at hb
 ·rename_i e l c he hl hc
  have hu:=elOf_spec he
  cases hz:zeroC P e with
  | none=>rw [hz] at hb; cases hb
  | some z =>
   rw [hz] at hb
   obtain ⟨hle,hb⟩:=brec hb
   simp only [Bool.and_eq_true,Nat.ble_eq] at hle
   obtain ⟨hlc,hc1,hsz⟩:=hle
   cases hb
   obtain ⟨i,zv,hi1,hi2,g2,hs,hi⟩:=zeroC_info (E:=E) hz
   obtain ⟨k,hk⟩:=natOf_spec hl (hρ lx)
   obtain ⟨k',hk'⟩:=natOf_spec hc (hρ cx)
   obtain ⟨E',w',h1,h2,h3⟩:=alloc_spec (P:=P) h (show st.next+1≤E.top from hn) e (made_conc g2 c)
   refine ⟨E',w',.slice (some ⟨w.heap.size,0,none⟩) l c,?_,h2,.slk st.next 0 l _ c _ hlc (.inr ⟨_,h3,by simp⟩)⟩
   have hbc:(i.bytes:Int) * (c:Int)≤281474976710656:=by
    have hb:byOf P e=i.bytes:=by simp [byOf,hi1]
    rw [hb] at hsz
    have h1:i.bytes * c≤281474976710656:=by rw [Nat.mul_comm]; omega
    have h2:((i.bytes * c:Nat):Int)≤281474976710656:=by omega
    rwa [Int.natCast_mul] at h2
   rw [hk,hk']
   have:=run_make (P:=P) w ty e i zv hu hi1 hi2 k k' (Int.ofNat l) (Int.ofNat c) (Int.natCast_nonneg l) (Int.ofNat_le.2 hlc) hbc (by simp only [Int.ofNat_eq_natCast]; omega)
   rw [this,hs]
   simp only [newRow,Sem.run_bind,run_newObj,Result.andThen_ok,Sem.run_pure] at h1
   cases h1
   rfl
 ·cases hb
end
end
end Go.Ev
