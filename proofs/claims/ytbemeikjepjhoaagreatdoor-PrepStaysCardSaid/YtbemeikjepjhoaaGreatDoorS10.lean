/-
  Each operation does in the model's memory what it does in the abstract state: copies, conversions.
-/
import Derived.Test.YtbemeikjepjhoaaGreatDoorS05
import Derived.Test.YtbemeikjepjhoaaGreatDoorS09
import Derived.Lib.Builder
import Derived.Lib.ConvBytes
import Derived.Laws.BytesString
import Derived.Laws.BytesArg
namespace Go.Ev
noncomputable section
section
variable {P : Program} {w : World} {E : Env} {st : St}
theorem ovr_nil {α:Type} (l:List α) (o:Nat):ovr l o ([]:List α)=l:=by
 induction l generalizing o with
 | nil=>cases o <;> simp [ovr,over]
 | cons x l ih=>cases o <;> simp [ovr,over,ih]
theorem setSame {H:Array Obj} {b:Nat} {o:Obj} (h:H[b]? = some o):H.setIfInBounds b o=H:=by
 apply Array.ext_getElem?
 intro j
 by_cases e:b=j
 ·subst e
  rw [Array.getElem?_setIfInBounds_self]
  rw [h]
  have:b < H.size:=by
   rcases Nat.lt_or_ge b H.size with hh | hh
   ·exact hh
   ·rw [Array.getElem?_eq_none hh] at h; cases h
  simp [this]
 ·rw [Array.getElem?_setIfInBounds_ne e]
theorem firstCells_len {z n m:Nat} {x:AV} {l:List AV} (hf:firstCells st z n x=some l) (hm:lenOf x=some m) (hn:n≤m):l.length=n * z:=by
 cases x <;> simp only [firstCells] at hf <;> first | (cases hf; done) | skip
 ·rename_i s
  obtain ⟨hz,hf⟩:=bor hf
  rw [nbeq,decide_eq_true_eq] at hz
  subst hf hz
  cases hm
  simp; omega
 ·by_cases h0:n=0
  ·subst h0; cases hf; simp
  ·rw [nbeq,decide_eq_false h0] at hf
   simp only [rd] at hf
   split at hf
   ·exact cut_length hf
   ·cases hf
 ·obtain ⟨h0,hf⟩:=bor hf
  rw [nbeq,decide_eq_true_eq] at h0
  subst h0; cases hf; simp
 ·exact cut_length hf
theorem copy_spec (h:Rel E w.heap st) {ts:List TypeId} {d x v:AV} {ud ux:Value} {st':St} (hc:bCopy P st ts [d,x]=some (v,st')) (hd:Conc E d ud) (hx:Conc E x ux) (ty:TypeId) :
  ∃ w' z,(Builtin.copy_ ts.toArray ty #[ud,ux]).run P w = .ok z w'∧StepW E E w w' st st'∧Conc E v z:=by
 cases ts with
 | nil=>cases hc
 | cons t r =>
  simp only [bCopy] at hc
  cases he:elOf P t with
  | none=>rw [he] at hc; cases hc
  | some e =>
   cases hl:lenOf x with
   | none=>rw [he,hl] at hc; cases hc
   | some n =>
    rw [he,hl] at hc
    simp only at hc
    obtain ⟨hi,hc⟩:=brec hc
    have hu:=elOf_spec he
    have hlen:=lenOf_spec (P:=P) (w:=w) hl hx
    unfold copyV at hc
    split at hc
    ·rename_i r0 o m z' c _
     unfold copyTo at hc
     split at hc
     ·rename_i l hf
      obtain ⟨hz,hc2⟩:=brec hc
      clear hc
      rw [nbeq,decide_eq_true_eq] at hz
      subst hz
      split at hc2
      ·rename_i st1 hw
       cases hc2
       obtain ⟨us,hus,hcl⟩:=firstCells_spec (P:=P) h hf hx hl (Nat.min_le_left n m)
       obtain ⟨B,cs,t0,fz,hB,hH,hfz,hroom,hone,hst⟩:=Step.wt h hw hcl
       have hul:us.length=min n m * szOf P e:=by rw [← hcl.length]; exact firstCells_len hf hl (Nat.min_le_left n m)
       have hmin:Nat.min n m=min n m:=rfl
       have key:∀ (a:Addr) (k:Nat),(us=[]∨a=⟨B.b,o+B.d,none⟩)→(Builtin.copy_ (t :: r).toArray ty #[.slice (some a) m k,ux]).run P w = .ok (.int .i64 ((min n m:Nat):Int)) { w with heap:=w.heap.setIfInBounds B.b (.cells (ovr cs (o+B.d) us).toArray t0 fz) }:=by
        intro a k ha
        have hs:(storeCells a us).run P w = .ok () { w with heap:=w.heap.setIfInBounds B.b (.cells (ovr cs (o+B.d) us).toArray t0 fz) }:=by
         rcases ha with rfl | rfl
         ·rw [ovr_nil,setSame hH]; rfl
         ·have:=run_storeCells_row P B.b (o+B.d) t0 fz us 0 cs w hH hfz.not (by simpa using hroom) hone
          simpa using this
        simp only [Builtin.copy_,List.getElem?_toArray,List.getElem?_cons_zero,List.getElem?_cons_succ,Sem.run_bind,run_under hu,Result.andThen_ok,hlen,hmin,run_size hi,hus,hs,Sem.run_pure]
        rfl
       have hus0:m=0→us=[]:=by
        rintro rfl
        apply List.eq_nil_of_length_eq_zero; rw [hul]; simp
       cases hd with
       | slk _ _ _ _ c' a hn hh =>
        refine ⟨_,_,key a c' ?_,.of hst,.i .i64 _⟩
        rcases hh with rfl | ⟨B',hB',rfl⟩
        ·exact .inl (hus0 (by omega))
        ·rw [hB] at hB'; cases hB'; exact .inr rfl
       | slu _ _ _ _ c' a hn hh =>
        refine ⟨_,_,key a c' ?_,.of hst,.i .i64 _⟩
        obtain ⟨B',hB',hcc,-⟩:=hh
        rcases hcc with rfl | rfl
        ·exact .inl (hus0 (by omega))
        ·rw [hB] at hB'; cases hB'; exact .inr rfl
      ·cases hc2
     ·cases hc
    ·cases hc
     cases hd
     have hus:∃ us:Array Value,(Builtin.firstCells (szOf P e) 0 ux).run P w = .ok us w:=by
      cases hx <;> first | (cases hl; done) | skip
      all_goals (simp only [Builtin.firstCells,Nat.zero_mul]; exact ⟨_,rfl⟩)
     obtain ⟨us,hus⟩:=hus
     refine ⟨w,.int .i64 ((0:Nat):Int),?_,.refl h,.i .i64 _⟩
     simp only [Builtin.copy_,List.getElem?_toArray,List.getElem?_cons_zero,List.getElem?_cons_succ,Sem.run_bind,run_under hu,Result.andThen_ok,hlen,Nat.min_zero,run_size hi,hus,Sem.run_pure]
     rfl
    ·cases hc
theorem zeroCells_rep (z:Array Value) (n:Nat):(Builtin.zeroCells z n).toList=rep n z.toList:=by
 apply List.ext_getElem?
 intro i
 rcases Nat.lt_or_ge i (n * z.size) with hi | hi
 ·rw [rep_get _ _ _ (by simpa using hi)]
  have hz:0 < z.size:=by
   rcases Nat.eq_zero_or_pos z.size with h | h
   ·rw [h] at hi; simp at hi
   ·exact h
  have hm:i % z.size < z.size:=Nat.mod_lt _ hz
  simp [Builtin.zeroCells,hi,hm]
 ·rw [List.getElem?_eq_none (l:=rep n z.toList) (by rw [rep_length]; simpa using hi),List.getElem?_eq_none (by simpa [Builtin.zeroCells] using hi)]
theorem appendZ_spec (h:Rel E w.heap st) {ts:List TypeId} {k:IntKind} {n:Nat} {v:AV} {st':St} (ha:appendZ P st n ts=some (v,st')) (hn:st'.next≤E.top) (ty:TypeId) :
  ∃ E' w' cv,(Builtin.append_ ts.toArray ty #[.slice none 0 0,.int k (Int.ofNat n)]).run P w = .ok cv w'∧StepW E E' w w' st st'∧Conc E' v cv:=by
 unfold appendZ at ha
 split at ha
 ·rename_i t x r
  cases he:elOf P t with
  | none=>rw [he] at ha; cases ha
  | some e =>
   rw [he] at ha
   simp only [appendZ2] at ha
   obtain ⟨hb,ha⟩:=brec ha
   simp only [Bool.and_eq_true] at hb
   obtain ⟨⟨hx,hi⟩,hsm⟩:=hb
   have hsm:=Nat.le_of_ble_eq_true hsm
   have hu:=elOf_spec he
   obtain ⟨kk,hk⟩:∃ kk,P.underlying x=some (.int kk):=by
    unfold intT at hx
    split at hx
    ·exact ⟨_,by assumption⟩
    ·cases hx
   obtain ⟨i,dd,hinf,hdd⟩:=info_of hi
   have hby:byOf P e=i.bytes:=by simp [byOf,hinf]
   have hw:IntKind.i64.wrap (Int.ofNat n)=Int.ofNat n:=IntWalk.i64_in _ ⟨by show (-9223372036854775808:Int)≤(n:Int); omega,by show (n:Int)≤9223372036854775807; omega⟩
   have hw':IntKind.i64.wrap (n:Int)=(n:Int):=hw
   by_cases h0:n=0
   ·rw [nbeq,decide_eq_true h0] at ha
    cases ha
    subst h0
    have hr:(Builtin.append_ (t :: x :: r).toArray ty #[.slice none 0 0,.int k (Int.ofNat 0)]).run P w = .ok (.slice none 0 0) w:=by
     have hw0:IntKind.i64.wrap 0=0:=hw
     simp [Builtin.append_,run_under hu,run_under hk,run_size hi,run_typeInfo' hinf,asInt,asIntOf,hw0]
    exact ⟨E,w,_,hr,.refl h,.sn⟩
   ·rw [nbeq,decide_eq_false h0] at ha
    simp only at ha
    cases hz:zeroC P e with
    | none=>rw [hz] at ha; cases ha
    | some l =>
     rw [hz] at ha
     simp only [appendZ1] at ha
     obtain ⟨hfit,ha⟩:=brec ha
     cases ha
     obtain ⟨z,g1,g2,g3,g4⟩:=fits_spec hfit
     obtain ⟨z',q1,q2,q3,q4⟩:=zeroC_spec (E:=E) hz
     have hzz:z'=z:=by
      have a:=q1 w; have b:=g1 w; rw [a] at b; cases b; rfl
     subst hzz
     rw [hby] at g3 g4
     have hcap:Builtin.nextslicecap n 0=n:=by
      unfold Builtin.nextslicecap
      rw [if_pos (by omega)]
     have hbytes:¬ n * i.bytes > 2 ^ 48:=by
      have:n * i.bytes≤(2 * n+2000) * i.bytes:=Nat.mul_le_mul_right _ (by omega)
      omega
     have hneg:¬ (n:Int) < 0:=by omega
     have hmax':¬ (9223372036854775807:Int) < (n:Int):=by omega
     have hbytes':¬ (281474976710656:Int) < (n:Int) * (i.bytes:Int):=by
      have:((n * i.bytes:Nat):Int)≤281474976710656:=by omega
      rw [Int.natCast_mul] at this
      omega
     have hmax:¬ ((n:Int) > IntKind.i64.max):=by
      simp [IntKind.max,IntKind.signed,IntKind.bits]; omega
     have hq:(Question.appendCap n 0 e).forced=false:=rfl
     have hb0:¬ i.bytes=0:=by omega
     have hnew:(if n * szOf P e=0 then (#[]:Array Value) else Builtin.zeroCells z'.cells n)=(rep n z'.cells.toList).toArray:=by
      apply Array.ext'
      split
      ·rename_i h0'
       have:(rep n z'.cells.toList).length=0:=by rw [rep_length,Array.length_toList,g2,h0']
       simp [List.eq_nil_of_length_eq_zero this]
      ·simp [zeroCells_rep]
     let c:=n+w.tape w.drawn (.appendCap n 0 e) % (2 ^ 63 - n)
     have hr:(Builtin.append_ (t :: x :: r).toArray ty #[.slice none 0 0,.int k (Int.ofNat n)]).run P w = .ok (.slice (some ⟨w.heap.size,0,none⟩) n c)
       (w.drew.alloc (.cells ((rep n z'.cells.toList).toArray++Builtin.zeroCells z'.cells (c - n)) e)):=by
      rw [← hnew]
      by_cases hsz:n * szOf P e=0
      ·have hsz':=Nat.mul_eq_zero.1 hsz
       simp [Builtin.append_,run_under hu,run_under hk,run_size hi,run_typeInfo' hinf,asInt,asIntOf,hw',hneg,hmax',hbytes',h0,hcap,hbytes,hq,Question.cut,g1,newRow,hb0,Builtin.firstCells,hsz,c]
      ·have hsz':¬ (n=0∨szOf P e=0):=fun hh=>hsz (Nat.mul_eq_zero.2 hh)
       simp [Builtin.append_,run_under hu,run_under hk,run_size hi,run_typeInfo' hinf,asInt,asIntOf,hw',hneg,hmax',hbytes',h0,hcap,hbytes,hq,Question.cut,g1,newRow,hb0,Builtin.firstCells,hsz,c]
     obtain ⟨E',p1,p2,-⟩:=fresh_slice (w:=w) h (show st.next < E.top from hn) (z:=szOf P e) (need:=n) (newCap:=c) e (rep_conc q2 n) (by rw [rep_length,Array.length_toList,g2])
      (by rw [zeroCells_size,g2]) (by omega)
     exact ⟨E',_,_,hr,⟨p1,rfl,rfl⟩,p2⟩
 ·cases ha
theorem bClear_one {ts:List TypeId} {as:List AV} {r:AV × St} (h:bClear P st ts as=some r):∃ x,as=[x]:=by
 unfold bClear at h
 split at h
 ·exact ⟨_,rfl⟩
 ·cases h
theorem clear_spec (h:Rel E w.heap st) {ts:List TypeId} {x v:AV} {u:Value} {st':St} (hc:bClear P st ts [x]=some (v,st')) (hx:Conc E x u) (ty:TypeId) :
  ∃ w',(Builtin.clear_ ts.toArray ty #[u]).run P w = .ok (.tuple #[]) w'∧StepW E E w w' st st'∧v = .tu []:=by
 unfold bClear at hc
 split at hc
 ·rename_i t r x' heq
  cases heq
  cases he:elOf P t with
  | none=>rw [he] at hc; cases hc
  | some e =>
   rw [he] at hc
   have hu:=elOf_spec he
   simp only at hc
   unfold clearV at hc
   have key:∀ (a:Addr) (n c:Nat) {r0 o:Nat},(@Bool.rec (fun _=>Res) (clearTo st r0 o n (zeroC P e)) (some (.tu [],st)) (Nat.beq n 0))=some (v,st')→(n≠0→∃ B,E.phi r0=some B∧a=⟨B.b,o+B.d,none⟩) →
     ∃ w',(Builtin.clear_ (t :: r).toArray ty #[.slice (some a) n c]).run P w = .ok (.tuple #[]) w'∧StepW E E w w' st st'∧v = .tu []:=by
    intro a n c r0 o hc ha
    cases n with
    | zero =>
     cases hc
     exact ⟨w,by simp [Builtin.clear_,run_under hu],.refl h,rfl⟩
    | succ n =>
     have hc:clearTo st r0 o (n+1) (zeroC P e)=some (v,st'):=hc
     unfold clearTo at hc
     split at hc
     ·rename_i l hz
      obtain ⟨z,g1,g2,g3,g4⟩:=zeroC_spec (E:=E) hz
      unfold okTu at hc
      split at hc
      ·rename_i st1 hw
       cases hc
       obtain ⟨B,cs,t0,fz,hB,hH,hfz,hroom,hone,hst⟩:=Step.wt h hw (rep_conc g2 (n+1))
       obtain ⟨B',hB',rfl⟩:=ha (by omega)
       rw [hB] at hB'; cases hB'
       have hs:=run_storeCells_row P B.b (o+B.d) t0 fz (rep (n+1) z.cells.toList) 0 cs w hH hfz.not (by simpa using hroom) hone
       refine ⟨_,?_,.of hst,rfl⟩
       simp [Builtin.clear_,run_under hu,g1,zeroCells_rep,hs]
      ·cases hc
     ·cases hc
   cases hx <;> first | (cases hc; done) | skip
   ·rename_i r0 o n z c a hle hh
    exact key a n c hc fun hn=>hh.resolve_left (by omega)
   ·rename_i r0 o n z c a hle hh
    obtain ⟨B,hB,hcc,-⟩:=hh
    exact key a n c hc fun hn=>⟨B,hB,hcc.resolve_left (by omega)⟩
   ·cases hc
    exact ⟨w,by simp [Builtin.clear_,run_under hu],.refl h,rfl⟩
 ·cases hc
theorem byteOf_all:∀ {l:List AV} {bs:List Nat} {us:List Value},pmapO byteOf l=some bs→ConcL E l us→us=bs.map (fun n=>.int .u8 (Int.ofNat n))∧∀ b ∈ bs,b < 256
 | [],bs,us,h,hc=>by cases h; cases hc; exact ⟨rfl,by simp⟩
 | v :: l,bs,us,h,hc=>by
  cases hc with
  | cons _ _ u us hv ht =>
  simp only [pmapO] at h
  cases hb:byteOf v with
  | none=>rw [hb] at h; cases h
  | some n =>
   rw [hb] at h
   simp only at h
   cases hp:pmapO byteOf l with
   | none=>rw [hp] at h; cases h
   | some r =>
    rw [hp] at h; cases h
    obtain ⟨this,hall⟩:=byteOf_all hp ht
    subst this
    unfold byteOf at hb
    split at hb
    ·obtain ⟨h1,h2⟩:=bor hb
     subst h2
     cases hv
     refine ⟨rfl,?_⟩
     intro b hb
     rcases List.mem_cons.1 hb with rfl | hb
     ·simpa [Nat.blt_eq] using h1
     ·exact hall b hb
    ·cases hb
def textOf (bs:List Nat):ByteArray:=⟨(bs.map fun n=>UInt8.ofNat n).toArray⟩
theorem textOf_conc {bs:List Nat} (h:∀ b ∈ bs,b < 256):Conc E (.s bs) (.string (textOf bs)):=by
 have:(textOf bs).data.toList.map UInt8.toNat=bs:=by
  simp only [textOf,List.map_map]
  conv=>rhs; rw [← List.map_id bs]
  apply List.map_congr_left
  intro b hb
  have:=h b hb
  simp only [Function.comp,UInt8.toNat_ofNat',id]
  omega
 have hc:=Conc.s (E:=E) (textOf bs)
 rwa [this] at hc
theorem bytesStr_spec (h:Rel E w.heap st) {x v:AV} {u:Value} {st':St} (hs:bytesStr st x=some (v,st')) (hx:Conc E x u) (hne:∀ l,x≠.s l) :
  st'=st∧(∃ a l c,u = .slice a l c)∧∃ z,(Conv.bytesToString u).run P w = .ok z w∧Conc E v z:=by
 unfold bytesStr at hs
 split at hs
 ·cases hs
  cases hx
  refine ⟨rfl,⟨_,_,_,rfl⟩,.string .empty,rfl,?_⟩
  exact textOf_conc (E:=E) (bs:=[]) (by simp)
 ·split at hs
  ·rename_i n hl
   unfold strOf at hs
   split at hs
   ·rename_i l hf
    split at hs
    ·rename_i bs hp
     cases hs
     obtain ⟨us,h1,h2⟩:=firstCells_spec (P:=P) h hf hx hl (Nat.le_refl _)
     obtain ⟨rfl,hall⟩:=byteOf_all hp h2
     have key:∀ a c,u = .slice (some a) n c→(∃ a l c,u = .slice a l c)∧∃ z,(Conv.bytesToString u).run P w = .ok z w∧Conc E (.s bs) z:=by
      rintro a c rfl
      simp only [Builtin.firstCells,Nat.mul_one] at h1
      have:=run_bytesToString (P:=P) w a n c (bs.map Int.ofNat) (by rw [h1]; congr 2; simp)
      refine ⟨⟨_,_,_,rfl⟩,_,this,?_⟩
      rw [foldl_push_bytes]
      have e:(⟨ByteArray.empty.data++((bs.map Int.ofNat).map fun n=>UInt8.ofNat n.toNat).toArray⟩:ByteArray)=textOf bs:=by
       have h0:ByteArray.empty.data = #[]:=rfl
       rw [h0,Array.empty_append,List.map_map]
       rfl
      rw [e]
      exact textOf_conc hall
     cases hx <;> first | (cases hl; done) | (exact absurd rfl (hne _)) | skip
     all_goals (cases hl; try exact ⟨rfl,key _ _ rfl⟩)
     exact (‹AV.sn=AV.sn→False› rfl).elim
    ·cases hs
   ·cases hs
  ·cases hs
theorem bytesHeap (e:TypeId) (s:ByteArray):(Lib.bytesWorld w e s).heap=w.heap.push (.cells (Lib.bytesCells w e s) e ((Lib.bytesCells w e s).size,(Lib.bytesCells w e s).size+1)):=by
 apply Array.ext_getElem?
 intro j
 rw [Array.getElem?_push]
 by_cases hj:j=w.heap.size
 ·subst hj; rw [Lib.bytesWorld_at_new,if_pos rfl]
 ·rw [if_neg hj]
  rcases Nat.lt_or_ge j w.heap.size with hh | hh
  ·exact Lib.bytesWorld_at_old w e s j hh
  ·rw [Array.getElem?_eq_none (by rw [Lib.bytesWorld_size]; omega),Array.getElem?_eq_none hh]
theorem modify_set {H:Array Obj} {b:Nat} {o:Obj} {f:Obj→Obj} (h:H[b]? = some o):H.modify b f=H.setIfInBounds b (f o):=by
 apply Array.ext_getElem?
 intro j
 have hlt:=(Array.getElem?_eq_some_iff.1 h).1
 by_cases e:j=b
 ·subst e
  rw [Array.getElem?_modify,Array.getElem?_setIfInBounds_self_of_lt hlt]
  simp [h]
 ·rw [Array.getElem?_modify,Array.getElem?_setIfInBounds_ne (Ne.symm e)]
  rw [if_neg (fun h=>e h.symm)]
def frostOf (n:Nat) (fz:Nat × Nat):Nat × Nat:=if fz.1 == fz.2 then (n,n+1) else (min fz.1 n,max fz.2 (n+1))
theorem frostOf_ok {n:Nat} {fz:Nat × Nat} (h:FzOk n fz):FzOk n (frostOf n fz):=by
 unfold frostOf
 rcases h with h | h
 ·rw [if_pos (by simpa using h)]; exact .inr (Nat.le_refl _)
 ·split
  ·exact .inr (Nat.le_refl _)
  ·exact .inr (by simp; omega)
theorem run_mark {w:World} {b o:Nat} {cs:Array Value} {t:TypeId} {fz:Nat × Nat} (h:w.heap[b]? = some (.cells cs t fz)) :
  (markStringish ⟨b,o,none⟩).run P w = .ok () { w with heap:=w.heap.setIfInBounds b (.cells cs t (frostOf cs.size fz)) }:=by
 have hs:w.shape? b=some (t,cs.size):=by simp [World.shape?,h]
 have hf:w.freeze ⟨b,cs.size,none⟩ 1 = { w with heap:=w.heap.setIfInBounds b (.cells cs t (frostOf cs.size fz)) }:=by
  unfold World.freeze
  rw [if_neg (by decide),modify_set h]
  obtain ⟨lo,hi⟩:=fz
  rfl
 simp [markStringish,hs,hf]
theorem isU8_u8 {e:TypeId} (h:isU8 P e=true):P.underlying e=some (.int .u8):=by
 unfold isU8 at h
 split at h
 ·assumption
 ·cases h
theorem aliveCe_ce {r:Nat} (h:aliveCe st r=true):∃ l g al,st.ce r=some (l,g,al):=by
 unfold aliveCe at h
 split at h
 ·rename_i p hp; exact ⟨p.1,p.2.1,p.2.2,hp⟩
 ·cases h
theorem convSl_spec (h:Rel E w.heap st) {src dst e' e:TypeId} {x v:AV} {u:Value} {st':St} (hs:P.underlying src=some (.slice e')) (hd:P.underlying dst=some (.slice e)) (hc:convSl P st src dst e x=some (v,st')) (hx:Conc E x u) :
  ∃ E' w' z,(convert src dst u).run P w = .ok z w'∧StepW E E' w w' st st'∧Conc E' v z:=by
 unfold convSl at hc
 split at hc
 ·rename_i r o n z c
  obtain ⟨hr,hc⟩:=brec hc
  cases hc
  simp only [Bool.and_eq_true,Nat.beq_eq,Nat.blt_eq] at hr
  obtain ⟨hsd,h8,hcp,hal⟩:=hr
  have he:=isU8_u8 h8
  obtain ⟨l,g,al,hce⟩:=aliveCe_ce hal
  obtain ⟨B,cs,t,fz,hB,hH,hfz,hn,hdl,hC⟩:=h.cells hce
  obtain ⟨ha,-,-,-⟩:=St.ce_spec hce
  cases hx with
  | slk _ _ _ _ _ a hle hcase =>
   rcases hcase with rfl | ⟨B',hB',rfl⟩
   ·omega
   ·rw [hB] at hB'; cases hB'
    refine ⟨E,{ w with heap:=w.heap.setIfInBounds B.b (.cells cs.toArray t (frostOf cs.toArray.size fz)) },.slice (some ⟨B.b,o+B.d,none⟩) n c,?_,⟨?_,rfl,rfl⟩,.slk _ _ _ _ _ _ hle (.inr ⟨B,hB,rfl⟩)⟩
    ·have hm:=run_mark (P:=P) (w:=w) (o:=o+B.d) hH
     simp [convert,run_under hd,run_under he,hsd,hm]
    ·exact Step.frost h hH ⟨r,_,B,ha,hB,rfl⟩ (h.own r _ B ha hB) (fun hz=>frostOf_ok hz)
 ·cases hc
theorem offIn_ce {r o:Nat} (h:offIn st r o=true):∃ l g al,st.ce r=some (l,g,al)∧o < l.length:=by
 unfold offIn at h
 split at h
 ·rename_i l g al hp
  exact ⟨l,g,al,hp,by simpa [Nat.blt_eq] using h⟩
 ·cases h
theorem shape_of {b:Nat} {cs:List Value} {t:TypeId} {fz:Nat × Nat} (h:w.heap[b]? = some (.cells cs.toArray t fz)):w.shape? b=some (t,cs.length):=by
 simp [World.shape?,h]
theorem liesAt_self {e:TypeId} (count:Nat) (hc:P.cellsOf e≠0) (hn:1≤count):liesAt P P.depth e count 0 e 1=true:=by
 have hd:P.depth=(2 * (P.types.size+Made.depth)+1)+1:=rfl
 rw [hd]
 simp only [liesAt,Bool.or_eq_true]
 left
 rw [hd]
 simp [rowAt,hc,hn,sameLayout]
theorem convUp_spec (h:Rel E w.heap st) {src dst t:TypeId} {r o:Nat} {v:AV} {u:Value} {st':St} (hs:P.underlying src=some (.pointer t)) (hd:P.underlying dst=some .unsafePointer) (hc:convUp P st t r o=some (v,st')) (hx:Conc E (.p r o) u) :
  ∃ E' w' z,(convert src dst u).run P w = .ok z w'∧StepW E E' w w' st st'∧Conc E' v z:=by
 unfold convUp at hc
 obtain ⟨hb,hc⟩:=brec hc
 cases hc
 simp only [Bool.and_eq_true] at hb
 obtain ⟨hi,hz,ho⟩:=hb
 obtain ⟨l,g,al,hce,hol⟩:=offIn_ce ho
 obtain ⟨B,cs,t',fz,hB,hH,hfz,hn,hdl,hC⟩:=h.cells hce
 obtain ⟨i,dd,hinf,hdd⟩:=info_of hi
 have hj:i.size≠0:=by
  have:szOf P t=i.size:=by simp [szOf,hinf]
  have hz':0 < szOf P t:=by simpa [Nat.blt_eq] using hz
  omega
 cases hx with
 | p _ _ B' hB' =>
  rw [hB] at hB'; cases hB'
  exact ⟨E,w,_,Lib.run_to_unsafe w ⟨B.b,o+B.d,none⟩ hs hd hinf hj (shape_of hH) (by show o+B.d < cs.length; omega),.refl h,.p r o B hB⟩
theorem convDown_spec (h:Rel E w.heap st) {src dst u':TypeId} {r o:Nat} {v:AV} {u:Value} {st':St} (hs:P.underlying src=some .unsafePointer) (hd:P.underlying dst=some (.pointer u')) (hc:convDown P st u' r o=some (v,st')) (hx:Conc E (.p r o) u) :
  ∃ E' w' z,(convert src dst u).run P w = .ok z w'∧StepW E E' w w' st st'∧Conc E' v z:=by
 unfold convDown at hc
 obtain ⟨hb,hc⟩:=brec hc
 cases hc
 simp only [Bool.and_eq_true] at hb
 obtain ⟨hi,ho0,hty,hz,ho⟩:=hb
 obtain ⟨l,g,al,hce,hol⟩:=offIn_ce ho
 obtain ⟨B,cs,t',fz,hB,hH,hfz,hn,hdl,hC⟩:=h.cells hce
 obtain ⟨B2,hB2,hd2,cs2,fz2,hH2⟩:=tyIs_at h hty
 rw [hB] at hB2; cases hB2
 have htt:t'=u':=by rw [hH] at hH2; simp only [Option.some.injEq,Obj.cells.injEq] at hH2; exact hH2.2.1
 subst htt
 obtain ⟨i,dd,hinf,hdd⟩:=info_of hi
 have hz':0 < szOf P t':=by simpa [Nat.blt_eq] using hz
 have ho':o=0:=Nat.eq_of_beq_eq_true ho0
 subst ho'
 have hol':szOf P t' - 1 < l.length:=hol
 have hcells:szOf P t'=P.cellsOf t':=by
  unfold szOf Program.cellsOf
  cases P.info? t' <;> rfl
 cases hx with
 | p _ _ B' hB' =>
  rw [hB] at hB'; cases hB'
  have hoff:(⟨B.b,0+B.d,none⟩:Addr).off=0:=by show 0+B.d=0; rw [hd2 rfl]
  refine ⟨E,w,_,Lib.run_from_unsafe w ⟨B.b,0+B.d,none⟩ hs hd hinf (shape_of hH) ?_,.refl h,.p r 0 B hB⟩
  rw [hoff]
  refine liesAt_self _ (by omega) ?_
  rw [← hcells,Nat.le_div_iff_mul_le hz']
  omega
theorem conv_spec (h:Rel E w.heap st) {src dst:TypeId} {x v:AV} {u:Value} {st':St} (hc:conv P st src dst x=some (v,st')) (hx:Conc E x u) (hn:st'.next≤E.top) :
  ∃ E' w' z,(convert src dst u).run P w = .ok z w'∧StepW E E' w w' st st'∧Conc E' v z:=by
 unfold conv at hc
 split at hc
 ·rename_i d k k' n hs hd
  cases hc
  cases hx
  refine ⟨E,w,.int k (k.wrap n),?_,.refl h,?_⟩
  ·simp [convert,run_under hs,run_under hd,Conv.intToInt]
  ·rw [wr_eq]; exact .i k _
 ·rename_i d l hs hd
  cases hc
  cases hx
  rename_i bs
  exact ⟨E,w,.string bs,by simp [convert,run_under hs,run_under hd],.refl h,.s bs⟩
 ·rename_i d k n hs hd
  obtain ⟨hr,hc⟩:=brec hc
  cases hc
  cases hx
  simp only [Bool.and_eq_true,ilt_eq,Bool.not_eq_true',decide_eq_true_eq,decide_eq_false_iff_not] at hr
  refine ⟨E,w,.string (Utf8.encode n),by simp [convert,run_under hs,run_under hd,Conv.intToString],.refl h,?_⟩
  have hv:Utf8.valid n=true:=by
   unfold Utf8.valid
   simp only [Bool.or_eq_true,Bool.and_eq_true,decide_eq_true_eq]
   left; omega
  have he:Utf8.encode n=textOf [n.toNat]:=by
   unfold Utf8.encode
   simp only [hv,if_true]
   rw [if_pos (by omega)]
   rfl
  rw [he]
  exact textOf_conc (by simp; omega)
 ·rename_i e hs hd hns hni
  split at hc
  ·rename_i he
   obtain ⟨rfl,⟨a,l,c,rfl⟩,z,h1,h2⟩:=bytesStr_spec (P:=P) h hc hx (fun l e=>hns l e)
   exact ⟨E,w,z,by rw [run_convert_bytes_string w src dst e a l c hs he hd]; exact h1,.refl h,h2⟩
  ·cases hc
 ·rename_i e l hs hd
  split at hc
  ·rename_i he
   cases hc
   cases hx
   rename_i bs
   have hr:=Lib.run_convert_string_bytes (P:=P) w src dst e bs hs hd he
   have hcap:bs.size≤grownCap w bs.size 0 e:=by unfold grownCap Question.cut; simp only; omega
   have hsz:(Lib.bytesCells w e bs).size=grownCap w bs.size 0 e:=by
    have:bs.data.size=bs.size:=rfl
    simp [Lib.bytesCells]; omega
   have hs:=Step.newCe h (show st.next < E.top from hn) ((bs.data.toList.map UInt8.toNat).map fun b=>AV.i .u8 (Int.ofNat b)) (Lib.bytesCells w e bs).toList e ((Lib.bytesCells w e bs).size,(Lib.bytesCells w e bs).size+1)
    (.inr (by simp)) (by have:bs.data.size=bs.size:=rfl; simp; omega) (by
     have:(Lib.bytesCells w e bs).toList.take (((bs.data.toList.map UInt8.toNat).map fun b=>AV.i .u8 (Int.ofNat b)).length)=bs.data.toList.map fun b=>Value.int .u8 b.toNat:=by
      simp [Lib.bytesCells]
     rw [this]
     generalize bs.data.toList=l
     induction l with
     | nil=>exact .nil
     | cons b l ih=>exact .cons _ _ _ _ (.i _ _) ih)
   have hphi:(E.bind st.next ⟨w.heap.size,0,(Lib.bytesCells w e bs).toList.length⟩).phi st.next=some ⟨w.heap.size,0,(Lib.bytesCells w e bs).toList.length⟩:=Env.bind_self
   have hsl:Conc (E.bind st.next ⟨w.heap.size,0,(Lib.bytesCells w e bs).toList.length⟩) (.sl st.next 0 bs.size 1 none) (.slice (some ⟨w.heap.size,0,none⟩) bs.size (grownCap w bs.size 0 e)) :=
    .slu st.next 0 _ 1 (grownCap w bs.size 0 e) _ hcap ⟨_,hphi,.inr (by simp),by simp; omega⟩
   refine ⟨E.bind st.next ⟨w.heap.size,0,(Lib.bytesCells w e bs).toList.length⟩,_,_,hr,?_,?_⟩
   ·exact ⟨by rw [bytesHeap]; simpa using hs,rfl,rfl⟩
   ·have:(bs.data.toList.map UInt8.toNat).length=bs.size:=by simp
    rw [this]; simpa using hsl
  ·cases hc
 ·rename_i hs hd
  exact convSl_spec h hs hd hc hx
 ·rename_i t r o hs hd
  exact convUp_spec h hs hd hc hx
 ·rename_i u r o hs hd
  exact convDown_spec h hs hd hc hx
 ·cases hc
end
end
end Go.Ev
