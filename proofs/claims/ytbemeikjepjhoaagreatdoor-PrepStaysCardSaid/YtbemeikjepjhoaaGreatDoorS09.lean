/-
  Each operation does in the model's memory what it does in the abstract state: iterators, interfaces, conversions, built-in functions. · Each operation does in the model's memory what it does in the abstract state: interfaces, conversions, built-in functions.
-/
import Derived.Test.YtbemeikjepjhoaaGreatDoorS08
namespace Go.Ev
noncomputable section
section
variable {P : Program} {w : World} {E : Env} {st : St}
theorem Rel.row (h:Rel E w.heap st) {r:Nat} {row:Row} (hr:st.get r=some row) (hce:∀ l g,row≠.ce l g) (hty:∀ t r0 x,row≠.ty t r0 x:=by (intro _ _ _ h; cases h)):∃ B,E.phi r=some B∧RowOK E w.heap B row∧st.alive r=some row:=by
 have ha:st.alive r=some row:=by
  unfold St.alive
  rw [hr]
  cases row with
  | ce l g=>exact absurd rfl (hce l g)
  | mp=>rfl
  | si=>rfl
  | mi=>rfl
  | lp=>rfl
  | mu=>rfl
  | ch=>rfl
  | ty t r0 x=>exact absurd rfl (hty t r0 x)
 obtain ⟨B,hB,hR⟩:=h.rows r row ha
 exact ⟨B,hB,hR,ha⟩
theorem newRow_gives (h:Rel E w.heap st) (hn:st.next+1≤E.top) (o:Obj) (row:Row) (hce:∀ l g,row≠.ce l g)
  (hrow:∀ F,E.le F→RowOK F (w.heap.push o) ⟨w.heap.size,0,0⟩ row) :
  StepW E (E.bind st.next ⟨w.heap.size,0,0⟩) w { w with heap:=w.heap.push o } st (st.new row):=.of (Step.newRow h hn o row hce hrow)
theorem rangeOf_spec (h:Rel E w.heap st) {ty:TypeId} {x v:AV} {u:Value} {st':St} (hr:rangeOf P ty st x=some (v,st')) (hx:Conc E x u) (hn:st'.next≤E.top) :
  ∃ E' w' z,(Instr.range ty u).run P w = .ok z w'∧StepW E E' w w' st st'∧Conc E' v z:=by
 unfold rangeOf at hr
 split at hr
 ·rename_i l hu
  cases hr
  cases hx
  rename_i bs
  have hn':st.next+1≤E.top:=hn
  refine ⟨_,{ w with heap:=w.heap.push (.stringIter bs 0) },.pointer (some ⟨w.heap.size,0,none⟩),?_,newRow_gives h hn' _ (.si _ 0) (fun _ _ e=>by cases e) ?_,?_⟩
  ·simp only [Instr.range,Sem.run_bind,run_under hu,Result.andThen_ok,Sem.run_pure,run_newObj]
  ·intro F _
   exact ⟨rfl,bs,by simp,rfl⟩
  ·have:=Conc.p (E:=E.bind st.next ⟨w.heap.size,0,0⟩) st.next 0 _ Env.bind_self
   simpa using this
 ·rename_i k e hu
  cases hr
  cases hx
  have hn':st.next+1≤E.top:=hn
  refine ⟨_,{ w with heap:=w.heap.push (.mapIter none 0 #[] 0) },.pointer (some ⟨w.heap.size,0,none⟩),?_,newRow_gives h hn' _ (.mi none 0 [] 0) (fun _ _ e=>by cases e) ?_,?_⟩
  ·simp only [Instr.range,Sem.run_bind,run_under hu,Result.andThen_ok,Sem.run_pure,run_newObj]
  ·intro F _
   exact ⟨rfl,none,by simp,rfl⟩
  ·have:=Conc.p (E:=E.bind st.next ⟨w.heap.size,0,0⟩) st.next 0 _ Env.bind_self
   simpa using this
 ·rename_i k e r hu
  split at hr
  ·rename_i es clock hg
   cases hr
   cases hx
   rename_i B hB
   have hn':st.next+1≤E.top:=hn
   obtain ⟨B',ents,hB',hw,hc,_⟩:=Rel.mp h hg
   rw [hB] at hB'; cases hB'
   refine ⟨_,{ w with heap:=w.heap.push (.mapIter (some B.b) clock #[] clock) },.pointer (some ⟨w.heap.size,0,none⟩),?_,newRow_gives h hn' _ (.mi (some r) clock [] clock) (fun _ _ e=>by cases e) ?_,?_⟩
   ·simp only [Instr.range,Sem.run_bind,run_under hu,Result.andThen_ok,getObj_run hw (fun _ _ _ e=>by cases e),Sem.run_pure,run_newObj]
   ·intro F hF
    exact ⟨rfl,some B.b,by simp,B,hF.phi _ _ hB,rfl⟩
   ·have:=Conc.p (E:=E.bind st.next ⟨w.heap.size,0,0⟩) st.next 0 _ Env.bind_self
    simpa using this
  ·cases hr
 ·cases hr
theorem filter_left {seen:List Nat}:∀ {es:List (AV × AV × Nat)} {ms:List MapEntry},ConcE E es ms→ConcE E (left seen es) (ms.filter fun e=>!seen.contains e.born)
 | [],[],_=>trivial
 | e :: es,m :: ms,⟨h,t⟩=>by
  have hm:mem e.2.2 seen=seen.contains m.born:=by
   rw [h.2.2,Bool.eq_iff_iff,mem_iff]; simp
  have ih:=filter_left (seen:=seen) t
  unfold left at ih ⊢
  simp only [List.filter_cons,hm]
  split
  ·exact ⟨h,ih⟩
  ·exact ih
theorem all_born {last:Nat}:∀ {es:List (AV × AV × Nat)} {ms:List MapEntry},ConcE E es ms→(es.all fun e=>Nat.ble last e.2.2)=ms.all fun e=>decide (e.born ≥ last)
 | [],[],_=>rfl
 | e :: es,m :: ms,⟨h,t⟩=>by
  simp only [List.all_cons,all_born t,h.2.2]
  congr 1
  rw [Bool.eq_iff_iff]; simp [Nat.ble_eq]
theorem empty_eq:∀ {es:List (AV × AV × Nat)} {ms:List MapEntry},ConcE E es ms→es.isEmpty=ms.isEmpty
 | [],[],_=>rfl
 | _ :: _,_ :: _,_=>rfl
theorem drop_cons_get {α:Type}:∀ {l:List α} {n:Nat} {c:α} {t:List α},l.drop n=c :: t→l[n]? = some c
 | [],n,c,t,h=>by simp at h
 | x :: l,0,c,t,h=>by simp at h; simp [h.1]
 | x :: l,n+1,c,t,h=>by simpa using drop_cons_get (l:=l) (n:=n) (by simpa using h)
theorem bytes_at {s:ByteArray} {n c:Nat} (h:(s.data.toList.map UInt8.toNat)[n]? = some c):n < s.size∧(s.get! n).toNat=c:=by
 rw [List.getElem?_map] at h
 cases hx:s.data.toList[n]? with
 | none=>rw [hx] at h; cases h
 | some b =>
  rw [hx] at h
  simp only [Option.map_some,Option.some.injEq] at h
  rw [Array.getElem?_toList] at hx
  have hlt:n < s.data.size:=by
   rcases Nat.lt_or_ge n s.data.size with hh | hh
   ·exact hh
   ·rw [Array.getElem?_eq_none hh] at hx; cases hx
  refine ⟨hlt,?_⟩
  have:s.get! n=s.data[n]!:=rfl
  rw [this,getElem!_pos s.data n hlt]
  rw [Array.getElem?_eq_getElem hlt] at hx
  cases hx; exact h
theorem decode_ascii {s:ByteArray} {n c:Nat} (h:(s.get! n).toNat=c) (hc:c < 128):Utf8.decode s n=(c,1):=by
 unfold Utf8.decode
 simp only [Nat.add_zero,h]
 rw [if_pos hc]
theorem choose_one {q:Question} (h:q.forced=true):(choose q).run P w = .ok 0 w:=by
 rw [run_choose,if_pos h]
theorem nextOf_spec (h:Rel E w.heap st) {isS:Bool} {x v:AV} {u:Value} {st':St} (hr:nextOf st isS x=some (v,st')) (hx:Conc E x u) (ty:TypeId) :
  ∃ w' z,(Instr.next u isS ty).run P w = .ok z w'∧StepW E E w w' st st'∧Conc E v z:=by
 unfold nextOf at hr
 split at hr
 ·rename_i r
  cases hx
  rename_i B hB
  split at hr
  ·rename_i l n hg
   obtain ⟨B',hB',hR,ha⟩:=Rel.row h hg (fun _ _ e=>by cases e)
   rw [hB] at hB'; cases hB'
   obtain ⟨hd,bs,hw,rfl⟩:=hR
   have he:(Instr.next (.pointer (some ⟨B.b,0+B.d,none⟩)) true ty).run P w=(Instr.next (.pointer (some ⟨B.b,0,none⟩)) true ty).run P w:=by rw [hd]
   rw [he]
   split at hr
   ·rename_i hnil
    cases hr
    have hle:¬ n < bs.size:=by
     rw [List.drop_eq_nil_iff] at hnil
     simp at hnil
     have:bs.size=bs.data.size:=rfl
     omega
    refine ⟨w,_,?_,.refl h,.tu _ [.bool false] (.cons _ _ _ _ (.b false) .nil)⟩
    simp only [Instr.next,Sem.run_bind,getObj_run hw (fun _ _ _ e=>by cases e),Result.andThen_ok,if_neg hle,Sem.run_pure]
   ·rename_i c _ hcons
    obtain ⟨hc,hr⟩:=brec hr
    cases hr
    obtain ⟨h1,h2⟩:=bytes_at (drop_cons_get hcons)
    have hc':c < 128:=by simpa [Nat.blt_eq] using hc
    refine ⟨{ w with heap:=w.heap.setIfInBounds B.b (.stringIter bs (n+1)) },.tuple #[.bool true,goInt n,.int .i32 c],?_,?_,?_⟩
    ·simp only [Instr.next,Sem.run_bind,getObj_run hw (fun _ _ _ e=>by cases e),Result.andThen_ok,if_pos h1,decode_ascii h2 hc',setObj_run hw (fun _ _ _ e=>by cases e),Sem.run_pure]
    ·exact StepW.of <| Step.putRow h ha hB (fun _ _ e=>by cases e) (fun _ _ e=>by cases e) _ (fun H' hH=>⟨hd,bs,hH,rfl⟩)
    ·exact .tu _ [.bool true,goInt n,.int .i32 c] (.cons _ _ _ _ (.b true) (.cons _ _ _ _ (.i .i64 _) (.cons _ _ _ _ (.i .i32 _) .nil)))
  ·rename_i hg
   cases hr
   obtain ⟨B',hB',hR,ha⟩:=Rel.row h hg (fun _ _ e=>by cases e)
   rw [hB] at hB'; cases hB'
   obtain ⟨hd,mm,hw,rfl⟩:=hR
   have he:(Instr.next (.pointer (some ⟨B.b,0+B.d,none⟩)) false ty).run P w=(Instr.next (.pointer (some ⟨B.b,0,none⟩)) false ty).run P w:=by rw [hd]
   rw [he]
   refine ⟨w,_,?_,.refl h,.tu _ [.bool false] (.cons _ _ _ _ (.b false) .nil)⟩
   simp only [Instr.next,Sem.run_bind,getObj_run hw (fun _ _ _ e=>by cases e),Result.andThen_ok,Sem.run_pure]
  ·rename_i m since seen last hg
   split at hr
   ·rename_i es clock hgm
    obtain ⟨B',hB',hR,ha⟩:=Rel.row h hg (fun _ _ e=>by cases e)
    rw [hB] at hB'; cases hB'
    obtain ⟨hd,mm,hw,Bm,hBm,rfl⟩:=hR
    obtain ⟨Bm',ents,hBm',hwm,hc,_⟩:=Rel.mp h hgm
    rw [hBm] at hBm'; cases hBm'
    have he:(Instr.next (.pointer (some ⟨B.b,0+B.d,none⟩)) false ty).run P w=(Instr.next (.pointer (some ⟨B.b,0,none⟩)) false ty).run P w:=by rw [hd]
    rw [he]
    unfold nextM at hr
    have hguard:(!seen.toArray.isEmpty && !ents.isEmpty && ents.all fun e=>decide (e.born ≥ last))=(!seen.isEmpty && !es.isEmpty && es.all fun e=>Nat.ble last e.2.2):=by
     rw [all_born hc,empty_eq hc]
     simp
    cases hgd:(!seen.isEmpty && !es.isEmpty && es.all fun e=>Nat.ble last e.2.2) with
    | true=>rw [hgd] at hr; cases hr
    | false =>
     rw [hgd] at hr hguard
     have hfl:=filter_left (seen:=seen) hc
     have hfa:(ents.filter fun e=>!seen.toArray.contains e.born).toList=ents.toList.filter fun e=>!seen.contains e.born:=by simp
     dsimp only at hr
     split at hr
     ·rename_i hl
      cases hr
      rw [hl] at hfl
      have hz:ents.toList.filter (fun e=>!seen.contains e.born)=[]:=by
       cases hf:ents.toList.filter (fun e=>!seen.contains e.born) with
       | nil=>rfl
       | cons a b=>rw [hf] at hfl; exact absurd hfl (by simp [ConcE])
      have hze:(ents.filter fun e=>!seen.toArray.contains e.born) = #[]:=Array.toList_inj.1 (by rw [hfa,hz])
      refine ⟨w,_,?_,.refl h,.tu _ [.bool false] (.cons _ _ _ _ (.b false) .nil)⟩
      unfold Instr.next
      simp only [Sem.run_bind,getObj_run hw (fun _ _ _ e=>by cases e),getObj_run hwm (fun _ _ _ e=>by cases e),Result.andThen_ok,hguard,Bool.false_eq_true,if_false,hze]
      rw [show ((if ((#[]:Array MapEntry).filter fun x=>decide (x.born < since)).isEmpty=true then #[none] else #[])++((#[]:Array MapEntry).filter (fun x=>decide (x.born < since))++(#[]:Array MapEntry).filter (fun x=>decide (x.born ≥ since))).map some) = #[(none:Option MapEntry)] by simp]
      rw [choose_one (by rfl)]
      rfl
     ·rename_i k v0 b hl
      obtain ⟨hb,hr⟩:=brec hr
      cases hr
      rw [hl] at hfl
      obtain ⟨me,hz,hk,hv,hbo⟩:∃ me,ents.toList.filter (fun e=>!seen.contains e.born)=[me]∧Conc E k me.key∧Conc E v0 me.val∧me.born=b:=by
       cases hf:ents.toList.filter (fun e=>!seen.contains e.born) with
       | nil=>rw [hf] at hfl; exact absurd hfl (by simp [ConcE])
       | cons a t =>
        rw [hf] at hfl
        cases t with
        | nil=>exact ⟨a,rfl,hfl.1.1,hfl.1.2.1,hfl.1.2.2⟩
        | cons _ _=>exact absurd hfl.2 (by simp [ConcE])
      have hze:(ents.filter fun e=>!seen.toArray.contains e.born) = #[me]:=Array.toList_inj.1 (by rw [hfa,hz])
      have hlt:me.born < since:=by rw [hbo]; simpa [Nat.blt_eq] using hb
      refine ⟨{ w with heap:=w.heap.setIfInBounds B.b (.mapIter (some Bm.b) since (seen.toArray.push me.born) clock) },.tuple #[.bool true,me.key,me.val],?_,?_,?_⟩
      ·unfold Instr.next
       simp only [Sem.run_bind,getObj_run hw (fun _ _ _ e=>by cases e),getObj_run hwm (fun _ _ _ e=>by cases e),Result.andThen_ok,hguard,Bool.false_eq_true,if_false,hze]
       rw [show ((if ((#[me]:Array MapEntry).filter fun x=>decide (x.born < since)).isEmpty=true then #[none] else #[])++((#[me]:Array MapEntry).filter (fun x=>decide (x.born < since))++(#[me]:Array MapEntry).filter (fun x=>decide (x.born ≥ since))).map some) = #[some me] by
        have:¬ since≤me.born:=by omega
        simp [hlt,this]]
       rw [choose_one (by rfl)]
       show (Sem.run P (setObj B.b _ >>= fun _=>_) w)=_
       rw [Sem.run_bind,setObj_run hw (fun _ _ _ e=>by cases e)]
       rfl
      ·exact StepW.of <| Step.putRow h ha hB (fun _ _ e=>by cases e) (fun _ _ e=>by cases e) _ (fun H' hH=>⟨hd,some Bm.b,by rw [hH]; simp [hbo],Bm,hBm,rfl⟩)
      ·exact .tu _ [.bool true,me.key,me.val] (.cons _ _ _ _ (.b true) (.cons _ _ _ _ hk (.cons _ _ _ _ hv .nil)))
     ·cases hr
   ·cases hr
  ·cases hr
 ·cases hr
theorem lastN_eq:∀ l:List Nat,lastN l=l.getLast?
 | []=>rfl
 | [_]=>rfl
 | _ :: y :: l=>by rw [List.getLast?_cons_cons]; exact lastN_eq (y :: l)
theorem findB_spec {b:Nat} {v:AV} {st':St}:∀ {es:List (AV × AV × Nat)} {ms:List MapEntry},ConcE E es ms→findB b st es=some (v,st')→st'=st∧∃ m,ms.find? (fun e=>e.born == b)=some m∧Conc E v (.tuple #[m.key,m.val])
 | [],_,_,h=>by cases h
 | (k,x,n) :: es,[],hc,_=>hc.elim
 | (k,x,n) :: es,m :: ms,⟨hm,ht⟩,h=>by
  have hborn:m.born=n:=hm.2.2
  unfold findB at h
  cases hb:Nat.beq n b with
  | true =>
   rw [hb] at h
   cases h
   have:(m.born == b)=true:=by rw [hborn]; simpa using hb
   exact ⟨rfl,m,by simp [this],.tu _ [m.key,m.val] (.cons _ _ _ _ hm.1 (.cons _ _ _ _ hm.2.1 .nil))⟩
  | false =>
   rw [hb] at h
   have:(m.born == b)=false:=by
    rw [hborn,beq_eq_false_iff_ne]
    rintro rfl
    rw [nbeq] at hb; simp at hb
   obtain ⟨h1,m',h2,h3⟩:=findB_spec ht h
   exact ⟨h1,m',by rw [List.find?_cons_of_neg (by simp [this])]; exact h2,h3⟩
theorem entryOf_spec (h:Rel E w.heap st) {x v:AV} {u:Value} {st':St} (hr:entryOf st x=some (v,st')) (hx:Conc E x u) :
  st'=st∧∃ z,(Instr.entry u).run P w = .ok z w∧Conc E v z:=by
 unfold entryOf at hr
 split at hr
 ·rename_i r
  cases hx
  rename_i B hB
  split at hr
  ·rename_i m since seen last hg
   split at hr
   ·rename_i es clock hgm
    obtain ⟨B',hB',hR,ha⟩:=Rel.row h hg (fun _ _ e=>by cases e)
    rw [hB] at hB'; cases hB'
    obtain ⟨hd,mm,hw,Bm,hBm,rfl⟩:=hR
    obtain ⟨Bm',ents,hBm',hwm,hc,_⟩:=Rel.mp h hgm
    rw [hBm] at hBm'; cases hBm'
    have he:(Instr.entry (.pointer (some ⟨B.b,0+B.d,none⟩))).run P w=(Instr.entry (.pointer (some ⟨B.b,0,none⟩))).run P w:=by rw [hd]
    unfold entryM at hr
    split at hr
    ·rename_i b hb
     obtain ⟨hcl,hr'⟩:=brec hr
     clear hr
     rw [nbeq,decide_eq_true_eq] at hcl
     subst hcl
     obtain ⟨h1,me,h2,h3⟩:=findB_spec hc hr'
     refine ⟨h1,_,?_,h3⟩
     rw [he]
     have hbk:seen.toArray.back? = some b:=by
      rw [List.back?_toArray,← lastN_eq]; exact hb
     have hfd:ents.find? (fun e=>e.born == b)=some me:=by
      rw [← Array.find?_toList]; exact h2
     unfold Instr.entry
     simp only [Sem.run_bind,getObj_run hw (fun _ _ _ e=>by cases e),Result.andThen_ok,hbk,getObj_run hwm (fun _ _ _ e=>by cases e),bne_self_eq_false,Bool.false_eq_true,if_false,hfd,Sem.run_pure]
    ·cases hr
   ·cases hr
  ·cases hr
 ·cases hr
end
end
end Go.Ev
namespace Go.Ev
noncomputable section
section
variable {P : Program} {w : World} {E : Env} {st : St}
theorem assertOf_spec {as xt:TypeId} {ok:Bool} {x v:AV} {u:Value} {st':St} (h:assertOf P as ok st x=some (v,st')) (hx:Conc E x u) :
  st'=st∧∃ z,(Instr.typeAssert u xt as ok).run P w = .ok z w∧Conc E v z:=by
 unfold assertOf at h
 split at h
 ·rename_i ty y
  cases hx
  rename_i u' hu'
  have hold:∀ v',v'=cond ok (.tu [.ifc ty y,.b true]) (.ifc ty y)→∃ z,z=(if ok then Value.tuple #[.iface ty u',.bool true] else .iface ty u')∧Conc E v' z:=by
   intro v' e
   refine ⟨_,rfl,?_⟩
   cases ok
   ·subst e; exact .ifc _ _ _ hu'
   ·subst e; exact .tu _ [_,_] (.cons _ _ _ _ (.ifc _ _ _ hu') (.cons _ _ _ _ (.b true) .nil))
  split at h
  ·rename_i want hu
   split at h
   ·rename_i i hi
    split at h
    ·rename_i hm
     cases h
     obtain ⟨z,h1,h2⟩:=hold _ rfl
     refine ⟨rfl,z,?_,h2⟩
     unfold Instr.typeAssert
     simp only [Sem.run_bind,run_under hu,Result.andThen_ok,run_typeInfo' hi,hm,Sem.run_pure,h1]
    ·cases h
   ·cases h
  ·rename_i d hnd hu
   cases hb:Nat.beq ty as with
   | true =>
    rw [hb] at h
    cases h
    have:ty=as:=Nat.eq_of_beq_eq_true hb
    refine ⟨rfl,if ok then .tuple #[u',.bool true] else u',?_,?_⟩
    ·unfold Instr.typeAssert
     simp only [Sem.run_bind,run_under hu,Result.andThen_ok]
     cases d <;> first | exact (hnd _ rfl).elim | (simp only [if_pos this]; rfl)
    ·cases ok
     ·exact hu'
     ·exact .tu _ [_,_] (.cons _ _ _ _ hu' (.cons _ _ _ _ (.b true) .nil))
   | false =>
    rw [hb] at h
    have hne:¬ ty=as:=fun e=>by rw [e] at hb; simp at hb
    cases ok with
    | false=>cases h
    | true =>
     simp only [cond_true] at h
     split at h
     ·rename_i z hz
      cases h
      obtain ⟨zv,rfl,hzr⟩:=zero_of hz
      refine ⟨rfl,.tuple #[zv,.bool false],?_,.tu _ [_,_] (.cons _ _ _ _ (ofVal_conc zv) (.cons _ _ _ _ (.b false) .nil))⟩
      unfold Instr.typeAssert
      simp only [Sem.run_bind,run_under hu,Result.andThen_ok]
      cases d <;> first | exact (hnd _ rfl).elim | (simp only [if_neg hne,if_true,Sem.run_bind,hzr,Result.andThen_ok,Sem.run_pure])
     ·cases h
  ·cases h
 ·cases h
theorem nth_spec {n:Nat} {x v:AV} {u:Value} {st':St} (h:nth n st x=some (v,st')) (hx:Conc E x u):st'=st∧∃ z,(Instr.extract u n).run P w = .ok z w∧Conc E v z:=by
 unfold nth at h
 split at h
 ·obtain ⟨h1,h2⟩:=give_spec h
  cases hx
  rename_i vs hc
  obtain ⟨z,g1,g2⟩:=hc.get n v h1
  refine ⟨h2,z,?_,g2⟩
  simp [Instr.extract,g1]
 ·cases h
theorem field_spec {S:Self} {t:Tr AV} {ρ:Operand→Value} (hρ:∀ x,Conc E (evO t x) (ρ x)) {s:TypeId} {x:Operand} {n:Nat} {v:AV} {st':St} (h:opField s x n P S t st=some (v,st')) :
  st'=st∧∃ z,(Instr.field s (ρ x) n).run P w = .ok z w∧Conc E v z:=by
 unfold opField at h
 split at h
 ·rename_i f cs hf hx
  obtain ⟨h1,h2⟩:=give_spec h
  have hc:=hρ x
  rw [hx] at hc
  generalize ρ x=u at hc
  cases hc
  rename_i vs hc
  obtain ⟨z,g1,g2⟩:=part_spec (P:=P) (w:=w) (us:=vs.toArray) h1 (by simpa using hc)
  refine ⟨h2,z,?_,g2⟩
  unfold fieldOf at hf
  split at hf
  ·rename_i fs hu
   simp only [Instr.field,Sem.run_bind,run_under hu,Result.andThen_ok,hf,asAgg,Sem.run_pure,g1]
  ·cases hf
 ·cases h
theorem bool_rec {α:Type} {a:Bool} {x:Option α} {y:α} (h:(@Bool.rec (fun _=>Option α) x none a)=some y):a=false∧x=some y:=by
 cases a with
 | false=>exact ⟨rfl,h⟩
 | true=>cases h
theorem int64_spec {n:Option Nat} {v:AV} {st':St} (h:int64 st n=some (v,st')):st'=st∧∃ k,n=some k∧v = .i .i64 (Int.ofNat k):=by
 cases n with
 | none=>cases h
 | some k=>cases h; exact ⟨rfl,k,rfl,rfl⟩
theorem len_spec (h:Rel E w.heap st) {ts:List TypeId} {x v:AV} {u:Value} {st':St} (hl:bLen1 P st ts x=some (v,st')) (hx:Conc E x u) (ty:TypeId) :
  st'=st∧∃ z,(Builtin.len_ ts.toArray ty #[u]).run P w = .ok z w∧Conc E v z:=by
 unfold bLen1 at hl
 split at hl
 ·rename_i t r
  split at hl
  ·rename_i hu
   obtain ⟨ht,hl⟩:=brec hl
   obtain ⟨rfl,k,hk,rfl⟩:=int64_spec hl
   cases x <;> simp only [isText] at ht <;> first | (cases ht; done) | skip
   cases hx
   rename_i bs
   cases hk
   refine ⟨rfl,_,?_,.i .i64 _⟩
   simp [Builtin.len_,run_under hu,goInt]
  ·rename_i e hu
   obtain ⟨ht,hl⟩:=bool_rec hl
   obtain ⟨rfl,k,hk,rfl⟩:=int64_spec hl
   refine ⟨rfl,.int .i64 k,?_,.i .i64 _⟩
   cases hx <;> first | (cases hk; done) | (simp only [isText] at ht; cases ht; done) | skip
   all_goals (cases hk; simp [Builtin.len_,run_under hu,goInt])
  ·rename_i kt e hu
   unfold lenMap at hl
   split at hl
   ·split at hl
    ·rename_i es clock hg
     cases hl
     cases hx
     rename_i B hB
     obtain ⟨B',ents,hB',hw,hc,_⟩:=Rel.mp h hg
     rw [hB] at hB'; cases hB'
     refine ⟨rfl,.int .i64 es.length,?_,.i .i64 _⟩
     have hlen:es.length=ents.size:=by simpa using hc.length
     simp [Builtin.len_,run_under hu,goInt,getObj_run hw (fun _ _ _ e=>by cases e),hlen]
    ·cases hl
   ·cases hl
    cases hx
    exact ⟨rfl,.int .i64 0,by simp [Builtin.len_,run_under hu,goInt],.i .i64 _⟩
   ·cases hl
  ·rename_i n e hu
   obtain ⟨rfl,k,hk,rfl⟩:=int64_spec hl
   cases hk
   refine ⟨rfl,.int .i64 n,?_,.i .i64 _⟩
   simp [Builtin.len_,run_under hu,goInt]
  ·rename_i e hu
   split at hl
   ·rename_i n e' hu'
    obtain ⟨rfl,k,hk,rfl⟩:=int64_spec hl
    cases hk
    refine ⟨rfl,.int .i64 n,?_,.i .i64 _⟩
    simp [Builtin.len_,run_under hu,run_under hu',goInt]
   ·cases hl
  ·rename_i dd e hu
   unfold lenChan at hl
   split at hl
   ·split at hl
    ·rename_i cap buf hg
     cases hl
     cases hx
     rename_i B hB
     obtain ⟨_,B',s,q,us,hB',hw,hc⟩:=h.ch hg
     rw [hB] at hB'; cases hB'
     refine ⟨rfl,.int .i64 buf.length,?_,.i .i64 _⟩
     have hlen:buf.length=us.length:=hc.length
     simp [Builtin.len_,run_under hu,goInt,getObj_run hw (fun _ _ _ e=>by cases e),hlen]
    ·cases hl
   ·cases hl
    cases hx
    exact ⟨rfl,.int .i64 0,by simp [Builtin.len_,run_under hu,goInt],.i .i64 _⟩
   ·cases hl
  ·cases hl
 ·cases hl
theorem cap_spec {t:TypeId} {r:List TypeId} {e:TypeId} {x v:AV} {u:Value} {st':St} (he:elOf P t=some e) (hl:capV st x=some (v,st')) (hx:Conc E x u) (ty:TypeId) :
  st'=st∧∃ z,(Builtin.cap_ (t :: r).toArray ty #[u]).run P w = .ok z w∧Conc E v z:=by
 have hu:=elOf_spec he
 unfold capV at hl
 split at hl
 ·cases hl
  cases hx
  rename_i c a hn hh
  exact ⟨rfl,.int .i64 c,by simp [Builtin.cap_,run_under hu,goInt],.i .i64 _⟩
 ·cases hl
  cases hx
  exact ⟨rfl,.int .i64 0,by simp [Builtin.cap_,run_under hu,goInt],.i .i64 _⟩
 ·cases hl
theorem max_spec {as:List AV} {us:List Value} {v:AV} {st':St} {ts:List TypeId} (hl:bMax P st ts as=some (v,st')) (hx:ConcL E as us) (ts':Array TypeId) (ty:TypeId) :
  st'=st∧∃ z,(Builtin.max_ ts' ty us.toArray).run P w = .ok z w∧Conc E v z:=by
 unfold bMax at hl
 split at hl
 ·cases hl
  rename_i k a k' b
  cases hx with | cons _ _ u us h t =>
  cases t with | cons _ _ u' us' h' t' =>
  cases t'; cases h; cases h'
  refine ⟨rfl,.int k (if b > a then b else a),by simp [Builtin.max_,Builtin.max2],?_⟩
  have:(@Bool.rec (fun _=>Int) a b (ilt a b))=if b > a then b else a:=by
   rw [ilt_eq]
   by_cases hh:a < b <;> simp [hh]
  rw [this]
  exact .i k _
 ·cases hl
theorem min_spec {as:List AV} {us:List Value} {v:AV} {st':St} {ts:List TypeId} (hl:bMin P st ts as=some (v,st')) (hx:ConcL E as us) (ts':Array TypeId) (ty:TypeId) :
  st'=st∧∃ z,(Builtin.min_ ts' ty us.toArray).run P w = .ok z w∧Conc E v z:=by
 unfold bMin at hl
 split at hl
 ·cases hl
  rename_i k a k' b
  cases hx with | cons _ _ u us h t =>
  cases t with | cons _ _ u' us' h' t' =>
  cases t'; cases h; cases h'
  refine ⟨rfl,.int k (if b < a then b else a),by simp [Builtin.min_,Builtin.min2],?_⟩
  have:(@Bool.rec (fun _=>Int) a b (ilt b a))=if b < a then b else a:=by
   rw [ilt_eq]
   by_cases hh:b < a <;> simp [hh]
  rw [this]
  exact .i k _
 ·cases hl
end
end
end Go.Ev
