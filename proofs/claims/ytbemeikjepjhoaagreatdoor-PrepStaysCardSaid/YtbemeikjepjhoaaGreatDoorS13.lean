/-
  Calls: of functions, of function values, of methods, of a loop's round. · Any operation: what it gives; the machine's steps over it.
-/
import Derived.Test.YtbemeikjepjhoaaGreatDoorS12
import Derived.Laws.Externs
import Derived.Lib.Builder
import Derived.Lib.MakeNoZero
import Derived.KernelRfl
namespace Go.Ev
noncomputable section
def Out.lim (n:Nat):Out→Prop
 | .nx _ st=>st.next≤n
 | .ex _ _ st=>st.next≤n
 | .rt _ st=>st.next≤n
 | .no=>True
structure SelfOK (P:Program) (S:Self):Prop where
 ng:NoNG P
 mixed:P.follows .mixedOrders=true
 up:SelfUp S
 call:∀ {E:Env} {w:World} {st st':St} {f:FuncId} {as:List AV} {us:List Value} {v:AV},Rel E w.heap st→ConcL E as us→S.call f as st=some (v,st')→st'.next≤E.top →
  ∃ E' w' cv,CallsTo P f us.toArray w w' cv∧StepW E E' w w' st st'∧Conc E' v cv
 code:∀ {E:Env} {w:World} {st:St} {nt:Nat} {c:Code} {t:Tr AV} {a:Act} {b:Frame} (k:List Item),b.roundOf.isSome=true→Rel E w.heap st→ConcT E nt t a.tmps→Marks 0 b.defers E w.heap st a.defers →
  (S.code nt c t st).lim E.top→Arr P 0 E nt b w st (fun cs=>lone (b.atR a (.code c :: k)) cs w) k (S.code nt c t st)
 dcall:∀ {E:Env} {w:World} {st st':St} {f:FuncId} {as:List AV} {us:List Value} {v:AV},Rel E w.heap st→ConcL E as us→S.dcall f as st=some (v,st')→st'.next≤E.top →
  ∃ E' w' cv,CallsK P .deferred f us.toArray w w' cv∧StepW E E' w w' st st'∧Conc E' v cv
theorem run_getLoop {P:Program} {w:World} {l:Nat} {r:Loop} (h:w.heap[l]? = some (.loop r)):(Instr.getLoop l).run P w = .ok r w:=by
 simp [Instr.getLoop,getObj,Sem.run,h]
theorem run_setLoop {P:Program} {w:World} {l:Nat} {r:Loop} (h:w.heap[l]? = some (.loop r)) (o:Obj):(setObj l o).run P w = .ok () { w with heap:=w.heap.setIfInBounds l o }:=by
 simp [setObj,Sem.run,h]
def Tells (P:Program) (w w':World) (cv:Value) (r:Result Next):Prop :=
 ∃ cases bl sh,r = .ok (.comm cases bl sh) w∧∀ (fr:Frame) (cs:List Frame) (es:Array Event),stepG P true (_root_.Go.Conc.G fr cs) w = .comm (_root_.Go.Conc.G fr cs) cases bl sh w es→step P (lone fr cs w) = .next (lone (fr.finish cv) cs w')
def GivesC (P:Program) (E:Env) (w:World) (st st':St) (v:AV) (r:Result Next):Prop :=
 ∃ E' w' cv,StepW E E' w w' st st'∧Conc E' v cv ∧
  ((r = .ok (.value cv) w'∨(r = .ok .skip w'∧cv=undef))∨(∃ f args,r = .ok (.enter f args) w∧CallsTo P f args w w' cv) ∨
   (∃ l f tmps x y,r = .ok (.round l f tmps x y) w∧∀ c cs,Steps P (lone (Frame.round l f tmps x y .normal) (c :: cs) w) (lone (c.finish cv) cs w'))∨Tells P w w' cv r)
theorem Gives.c {P:Program} {E:Env} {w:World} {st st':St} {v:AV} {r:Result Next} (h:Gives E w st st' v r):GivesC P E w st st' v r:=by
 obtain ⟨E',w',cv,h1,h2,h3⟩:=h
 exact ⟨E',w',cv,h2,h3,.inl h1⟩
section
variable {P : Program} {S : Self} {w : World} {E : Env} {st : St}
theorem callF_enter (hS:SelfOK P S) (hr:Rel E w.heap st) {f:FuncId} {as:List AV} {us:List Value} (hc:ConcL E as us) {v:AV} {st':St} (h:callF0 P S f as st=some (v,st')) (hn:st'.next≤E.top) :
  ∃ E' w' cv,StepW E E' w w' st st'∧Conc E' v cv∧(callFunc f us.toArray).run P w = .ok (.enter f us.toArray) w∧CallsTo P f us.toArray w w' cv:=by
 unfold callF0 at h
 split at h
 ·rename_i fn hf
  unfold callB at h
  split at h
  ·rename_i c hb
   obtain ⟨E',w',cv,h1,h2,h3⟩:=hS.call hr hc h hn
   refine ⟨E',w',cv,h2,h3,?_,h1⟩
   have hng':fn.name ≠ "runtime.NumGoroutine":=by simpa using hS.ng f fn hf
   simp [callFunc,hf,hng',hb]
  ·cases h
 ·cases h
theorem upto_spec {c:Nat}:∀ (l:List Nat) (n:Nat),upto c l n=((List.range' n l.length).find? fun i=>l[i - n]? == some c)
 | [],n=>rfl
 | x :: l,n=>by
  have e:upto c (x :: l) n=@Bool.rec (fun _=>Option Nat) (upto c l (n+1)) (some n) (Nat.beq x c):=rfl
  rw [e,upto_spec l (n+1)]
  simp only [List.length_cons,List.range'_succ,List.find?_cons,Nat.sub_self,List.getElem?_cons_zero]
  cases hb:Nat.beq x c with
  | true =>
   have:x=c:=by simpa [nbeq] using hb
   subst this
   simp
  | false =>
   have:¬ x=c:=by rw [nbeq] at hb; simpa using hb
   have hx:(some x == some c)=false:=by simpa using this
   simp only [hx]
   have hc:∀ (m:Nat) (k:Nat),n+1≤k→((List.range' k m).find? fun i=>l[i - (n+1)]? == some c)=(List.range' k m).find? fun i=>(x :: l)[i - n]? == some c:=by
    intro m
    induction m with
    | zero=>intro k _; rfl
    | succ m ih =>
     intro k hk
     simp only [List.range'_succ,List.find?_cons]
     rw [ih (k+1) (by omega)]
     have:(x :: l)[k - n]? = l[k - (n+1)]?:=by
      rw [show k - n=(k - (n+1))+1 by omega]; simp
     rw [this]
   exact hc l.length (n+1) (Nat.le_refl _)
theorem find_ext {fn:Func} (h1:fn.name = "internal/bytealg.IndexByteString") (h2:fn.origin = ""):Extern.findNext fn=none∧Extern.find fn=some Extern.BytealgIndexByte.indexByte:=by
 have a1:Extern.allGenericRows.lookup "internal/bytealg.IndexByteString" = none:=by kernel_rfl
 have a2:Extern.allTypedRows.lookup "internal/bytealg.IndexByteString" = none:=by kernel_rfl
 have a3:Extern.allRows.lookup "internal/bytealg.IndexByteString" = some Extern.BytealgIndexByte.indexByte:=by kernel_rfl
 have a4:Extern.allNextRows.lookup "internal/bytealg.IndexByteString" = none:=by kernel_rfl
 have a5:Extern.allNextRows.lookup "" = none:=by kernel_rfl
 constructor
 ·simp only [Extern.findNext,h1,h2,a4,a5,Option.map_none]; rfl
 ·simp only [Extern.find,h1,h2,a1,a2,a3,Option.map_none]; rfl
theorem firstIdx_spec (bs:ByteArray) {c:Nat} (hc:c < 256):firstIdx bs c.toUInt8=(match upto c (bs.data.toList.map UInt8.toNat) 0 with | some n=>Int.ofNat n | none=>-1):=by
 unfold firstIdx
 rw [upto_spec]
 have e:((List.range bs.size).find? fun i=>bs[i]! == c.toUInt8)=((List.range' 0 (bs.data.toList.map UInt8.toNat).length).find? fun i=>(bs.data.toList.map UInt8.toNat)[i - 0]? == some c):=by
  rw [List.range_eq_range',show (bs.data.toList.map UInt8.toNat).length=bs.size by rw [List.length_map,Array.length_toList]; rfl]
  have key:∀ (l:List Nat),(∀ i ∈ l,i < bs.size)→(l.find? fun i=>bs[i]! == c.toUInt8)=l.find? fun i=>(bs.data.toList.map UInt8.toNat)[i - 0]? == some c:=by
   intro l hl
   induction l with
   | nil=>rfl
   | cons i l ih =>
    have hi:=hl i (List.mem_cons_self ..)
    have hp:(bs[i]! == c.toUInt8)=((bs.data.toList.map UInt8.toNat)[i - 0]? == some c):=by
     have hi':i < bs.data.size:=hi
     have h1:bs[i]! = bs.data[i]:=by
      rw [getElem!_pos bs i hi]; rfl
     rw [h1,Nat.sub_zero,List.getElem?_map]
     have h2:bs.data.toList[i]? = some bs.data[i]:=by simp
     rw [h2]
     simp only [Option.map_some]
     have h3:((bs.data[i]).toNat == c)=(bs.data[i] == c.toUInt8):=by
      rw [Bool.eq_iff_iff]
      simp only [beq_iff_eq]
      constructor
      ·intro h
       apply UInt8.toNat_inj.1
       rw [h]
       simp [Nat.mod_eq_of_lt hc]
      ·intro h
       rw [h]
       simp [Nat.mod_eq_of_lt hc]
     rw [← h3]
     rw [Bool.eq_iff_iff]
     simp
    rw [List.find?_cons,List.find?_cons,hp,ih fun j hj=>hl j (List.mem_cons_of_mem _ hj)]
  exact key _ fun i hi=>by simpa using hi
 rw [e]
 generalize ((List.range' 0 (bs.data.toList.map UInt8.toNat).length).find? fun i=>(bs.data.toList.map UInt8.toNat)[i - 0]? == some c)=r
 cases r <;> rfl
theorem extIdx_spec {fn:Func} {f:FuncId} (hng:(fn.name == "runtime.NumGoroutine")=false) (hf:P.funcs[f]? = some fn) (hb:fn.body=none) (hr:Rel E w.heap st) {as:List AV} {us:List Value} (hc:ConcL E as us) {v:AV} {st':St} (hnm:fn.name = "internal/bytealg.IndexByteString"∧fn.origin = "") (h:extIndexByte st as=some (v,st')) :
  GivesC P E w st st' v ((callFunc f us.toArray).run P w):=by
 obtain ⟨k1,k2⟩:=find_ext hnm.1 hnm.2
 have hrun:=fun args=>run_callFunc_extern hf hng (by simp [hb]) k1 k2 args w
 unfold extIndexByte at h
 split at h
 case h_2=>cases h
 rename_i l c
 obtain ⟨hlt,h⟩:=brec h
 have hlt':c < 256:=by simpa [Nat.blt_eq] using hlt
 cases hc with
 | cons _ _ u us hu ht =>
  cases ht with
  | cons _ _ u2 us2 hu2 ht2 =>
   cases ht2
   cases hu
   cases hu2
   rename_i bs hh2
   rw [hrun]
   have h1:=run_indexByte_string (P:=P) bs (Int.ofNat c) w
   have h2:(Int.ofNat c).toNat.toUInt8=c.toUInt8:=rfl
   rw [h2,firstIdx_spec bs hlt'] at h1
   unfold extIndex at h
   split at h
   ·rename_i n hn
    cases h
    rw [hn] at h1
    exact Gives.c ⟨E,w,_,.inl (by rw [h1]; rfl),.refl hr,.i _ _⟩
   ·rename_i hn
    cases h
    rw [hn] at h1
    exact Gives.c ⟨E,w,_,.inl (by rw [h1]; rfl),.refl hr,.i _ _⟩
theorem find_same {fn:Func} (h1:fn.name = "internal/abi.NoEscape") (h2:fn.origin = ""):Extern.findNext fn=none∧Extern.find fn=some Extern.AbiNoEscape.same:=by
 have a1:Extern.allGenericRows.lookup "internal/abi.NoEscape" = none:=by kernel_rfl
 have a2:Extern.allTypedRows.lookup "internal/abi.NoEscape" = none:=by kernel_rfl
 have a3:Extern.allRows.lookup "internal/abi.NoEscape" = some Extern.AbiNoEscape.same:=by kernel_rfl
 have a4:Extern.allNextRows.lookup "internal/abi.NoEscape" = none:=by kernel_rfl
 have a5:Extern.allNextRows.lookup "" = none:=by kernel_rfl
 constructor
 ·simp only [Extern.findNext,h1,h2,a4,a5,Option.map_none]; rfl
 ·simp only [Extern.find,h1,h2,a1,a2,a3,Option.map_none]; rfl
theorem find_bytes {fn:Func} (h1:fn.name = "internal/bytealg.MakeNoZero") (h2:fn.origin = ""):Extern.findNext fn=none∧Extern.find fn=some (Extern.BytealgMakeNoZero.makeNoZero fn.params fn.resultTypes):=by
 have a1:Extern.allGenericRows.lookup "internal/bytealg.MakeNoZero" = none:=by kernel_rfl
 have a2:Extern.allTypedRows.lookup "internal/bytealg.MakeNoZero" = some Extern.BytealgMakeNoZero.makeNoZero:=by kernel_rfl
 have a4:Extern.allNextRows.lookup "internal/bytealg.MakeNoZero" = none:=by kernel_rfl
 have a5:Extern.allNextRows.lookup "" = none:=by kernel_rfl
 constructor
 ·simp only [Extern.findNext,h1,h2,a4,a5,Option.map_none]; rfl
 ·simp only [Extern.find,h1,h2,a1,a2,Option.map_none,Option.map_some]; rfl
theorem bads_of:∀ us:List Value,ConcL E (rep us.length [AV.bad]) us
 | []=>.nil
 | u :: us=>.cons _ _ _ _ (.bad u) (bads_of us)
theorem extBytes_spec {fn:Func} (hr:Rel E w.heap st) {as:List AV} {us:List Value} (hc:ConcL E as us) {v:AV} {st':St} (h:extBytes P fn st as=some (v,st')) (hn:st'.next≤E.top) :
  ∃ E' w' z,(Extern.BytealgMakeNoZero.makeNoZero fn.params fn.resultTypes us.toArray).run P w = .ok z w'∧StepW E E' w w' st st'∧Conc E' v z:=by
 unfold extBytes at h
 split at h
 case h_2=>cases h
 rename_i n
 split at h
 case h_2=>cases h
 rename_i t hrt
 have hrt':fn.resultTypes = #[t]:=Array.toList_inj.1 hrt
 unfold extBytes1 at h
 split at h
 case h_2=>cases h
 rename_i e hu
 unfold extBytes2 at h
 obtain ⟨hk,h⟩:=brec h
 cases h
 simp only [Bool.and_eq_true] at hk
 have hsz:szOf P e=1:=Nat.eq_of_beq_eq_true hk.1
 have hle:n≤1048576:=Nat.le_of_ble_eq_true hk.2
 cases hc with | cons _ _ u us hu1 t1 =>
 cases t1
 cases hu1
 rw [hrt']
 obtain ⟨cs,h1,h2,-⟩:=Lib.run_makeNoZero (P:=P) w fn.params t e hu n (by omega)
 have hn1:st.next+2≤E.top:=hn
 have hlen:(rep n [AV.bad]).length=n:=by rw [rep_length]; simp
 have hcc:ConcL E (rep n [AV.bad]) (cs.toList.take n):=by
  have:=bads_of (E:=E) (cs.toList.take n)
  have e1:(cs.toList.take n).length=n:=by rw [List.length_take]; simp; omega
  rw [e1] at this
  exact this
 have s1:=Step.newCe hr (show st.next < E.top by omega) (rep n [AV.bad]) cs.toList e (0,0) (.inl rfl) (by rw [hlen]; simpa using h2) (by rw [hlen]; exact hcc)
 have hheap:(w.drew.drew.alloc (.cells cs e)).heap=w.heap.push (.cells cs.toList.toArray e (0,0)):=rfl
 have hty:TyAt (E.bind st.next ⟨w.heap.size,0,cs.toList.length⟩) (w.heap.push (.cells cs.toList.toArray e (0,0))) e st.next true:=⟨_,Env.bind_self,fun _=>rfl,cs.toList.toArray,(0,0),by simp⟩
 have s2:=Step.newTy s1.rel hty
 refine ⟨E.bind st.next ⟨w.heap.size,0,cs.toList.length⟩,_,_,h1,⟨?_,rfl,rfl⟩,?_⟩
 ·rw [hheap]; exact s1.trans s2
 ·refine .slu _ _ _ _ _ _ h2 ⟨_,Env.bind_self,.inr (by simp),?_⟩
  simp
theorem extB_spec {fn:Func} {f:FuncId} (hng:(fn.name == "runtime.NumGoroutine")=false) (hf:P.funcs[f]? = some fn) (hb:fn.body=none) (hr:Rel E w.heap st) {as:List AV} {us:List Value} (hc:ConcL E as us) {v:AV} {st':St} (h:extB P fn st as=some (v,st')) (hn:st'.next≤E.top) :
  GivesC P E w st st' v ((callFunc f us.toArray).run P w):=by
 unfold extB at h
 cases h1:(fn.name == "internal/bytealg.IndexByteString" && fn.origin == "") with
 | true =>
  rw [h1] at h
  exact extIdx_spec hng hf hb hr hc (by simpa using h1) h
 | false =>
  rw [h1] at h
  have h:extB2 P fn st as=some (v,st'):=h
  unfold extB2 at h
  cases h2:(fn.name == "internal/abi.NoEscape" && fn.origin == "") with
  | true =>
   rw [h2] at h
   have h2':fn.name = "internal/abi.NoEscape"∧fn.origin = "":=by simpa using h2
   obtain ⟨k1,k2⟩:=find_same h2'.1 h2'.2
   have hrun:=run_callFunc_extern hf hng (by simp [hb]) k1 k2 us.toArray w
   have h:extSame st as=some (v,st'):=h
   unfold extSame at h
   split at h
   ·cases h
    cases hc with | cons _ _ u us hu t =>
    cases t
    have hs:(Extern.AbiNoEscape.same [u].toArray).run P w = .ok u w:=Lib.run_noEscape w u
    rw [hs] at hrun
    exact Gives.c ⟨E,w,u,.inl (by rw [hrun]; rfl),.refl hr,hu⟩
   ·cases h
  | false =>
   rw [h2] at h
   have h:extB3 P fn st as=some (v,st'):=h
   unfold extB3 at h
   obtain ⟨h3,h⟩:=brec h
   have h3':fn.name = "internal/bytealg.MakeNoZero"∧fn.origin = "":=by simpa using h3
   obtain ⟨k1,k2⟩:=find_bytes h3'.1 h3'.2
   have hrun:=run_callFunc_extern hf hng (by simp [hb]) k1 k2 us.toArray w
   obtain ⟨E',w',z,g1,g2,g3⟩:=extBytes_spec hr hc h hn
   rw [g1] at hrun
   exact Gives.c ⟨E',w',z,.inl (by rw [hrun]; rfl),g2,g3⟩
theorem callF_spec (hS:SelfOK P S) (hr:Rel E w.heap st) {f:FuncId} {as:List AV} {us:List Value} (hc:ConcL E as us) {v:AV} {st':St} (h:callF P S f as st=some (v,st')) (hn:st'.next≤E.top) :
  GivesC P E w st st' v ((callFunc f us.toArray).run P w):=by
 unfold callF at h
 split at h
 case h_2=>cases h
 rename_i fn hf
 unfold callX at h
 split at h
 ·rename_i c hb
  have h0:callF0 P S f as st=some (v,st'):=by
   unfold callF0 callB
   rw [hf]; simp only [hb]; exact h
  obtain ⟨E',w',cv,h1,h2,h3,h4⟩:=callF_enter hS hr hc h0 hn
  exact ⟨E',w',cv,h1,h2,.inr (.inl ⟨f,us.toArray,h3,h4⟩)⟩
 ·rename_i hb
  exact extB_spec (hS.ng f fn hf) hf hb hr hc h hn
theorem setL_spec {nt:Nat}:∀ {ps:List Tmp} {vs:List AV} {us:List Value} {t t':Tr AV} {a:Array Value},setL nt ps vs t=some t'→ConcL E vs us→ConcT E nt t a →
  ps.length=us.length∧ConcT E nt t' ((ps.zip us).foldl (fun tmps (x:Tmp × Value)=>tmps.setIfInBounds x.1 x.2) a)
 | [],[],us,t,t',a,h,hc,ha=>by
  cases hc; cases h; exact ⟨rfl,ha⟩
 | p :: ps,v :: vs,us,t,t',a,h,hc,ha=>by
  cases hc with
  | cons _ _ u us hu hus =>
   obtain ⟨hlt,h⟩:=brec h
   have:=put_spec (a:={ tmps:=a,defers:=[] }) (d:=some p) ha (t':=t.set p (some v)) (v:=v) (by show (@Bool.rec (fun _=>Option (Tr AV)) none (v.seen fun v=>some (t.set p (some v))) (Nat.blt p nt))=_; rw [hlt,AV.seen_eq]) hu
   obtain ⟨k1,k2⟩:=setL_spec h hus this
   exact ⟨by simp [k1],by simpa [Act.put] using k2⟩
 | [],_ :: _,us,t,t',a,h,hc,ha=>by cases h
 | _ :: _,[],us,t,t',a,h,hc,ha=>by cases h
theorem round_spec (hS:SelfOK P S) (hr:Rel E w.heap st) {l:Nat} {B:Blk} (hB:E.phi l=some B) {as:List AV} {us:List Value} (hc:ConcL E as us) {v:AV} {st':St} (h:round S l as st=some (v,st')) (hn:st'.next≤E.top) :
  GivesC P E w st st' v ((Instr.yield B.b us.toArray).run P w):=by
 unfold round at h
 split at h
 case h_2=>cases h
 rename_i t nt ps x y hg
 split at h
 case h_2=>cases h
 rename_i t' ht
 have ha:st.alive l=some (.lp t nt ps x y):=by unfold St.alive; rw [hg]
 obtain ⟨B',hB',f,tmps,d,hH,hT⟩:=hr.rows _ _ ha
 rw [hB] at hB'; cases hB'
 have hce:∀ l' g,Row.lp t nt ps x y≠.ce l' g:=fun _ _ e=>by cases e
 have hun:=drop_unowned hr ha hce hB
 have hs1:=Step.drop hr l
 have hlt:B.b < w.heap.size:=(Array.getElem?_eq_some_iff.1 hH).1
 obtain ⟨hlen,hT'⟩:=setL_spec ht hc hT
 unfold roundBody at h
 split at h
 case h_2=>cases h
 rename_i t2 st2 h2
 unfold roundEnd at h
 split at h
 case h_2=>cases h
 rename_i t3 st3 h3
 cases h
 have hn3:st3.next≤E.top:=hn
 have hup:=(hS.up.code nt y t2 st2).1 _ _ h3
 have hup2:=(hS.up.code nt x t' (st.drop l)).1 _ _ h2
 have hup2':st.next≤st2.next:=hup2
 let tmps':=(ps.zip us).foldl (fun tmps (x:Tmp × Value)=>tmps.setIfInBounds x.1 x.2) tmps
 let fb:Frame:={ fn:=f,tmps:=tmps',todo:=[],defers:=[],mode:=.run,kind:=.normal,roundOf:=some B.b }
 have hmk:Marks 0 fb.defers E w.heap (st.drop l) []:=Marks.nil
 have hl2:(S.code nt x t' (st.drop l)).lim E.top:=by rw [h2]; exact (by show st2.next≤E.top; omega)
 have hA:=hS.code (E:=E) (w:=w) (st:=st.drop l) (nt:=nt) (c:=x) (t:=t') (a:={ tmps:=tmps',defers:=[] }) (b:=fb) [.beginRound,.code y] rfl hs1.rel hT' hmk hl2
 simp only [h2,Arr] at hA
 obtain ⟨E2,a2,w2,s2,c2,m2,g2⟩:=hA
 have hk2:w2.heap[B.b]? = _:=(s2.fr.keep _ hlt hun.1).trans hH
 have hs2:StepW E E2 w w2 st st2:=⟨hs1.trans s2.toStep,s2.os,s2.out⟩
 have hun2:Un E2 st2 B.b:=s2.un hlt hun
 have how:Owned E st B.b:=⟨l,_,B,ha,hB,rfl⟩
 let lpB:Obj:=.loop { state:=.busy,pending:=none,fn:=f,tmps,params:=ps.toArray,assign:=x,body:=y,defers:=d }
 let w2':World:={ w2 with heap:=w2.heap.setIfInBounds B.b lpB }
 have hs2':StepW E E2 w w2' st st2:=⟨hs2.toStep.poke (.inl how) hun2 lpB (TyKeep.setNon (by rw [hk2]; exact fun _ _ _ e=>by cases e)),s2.os,s2.out⟩
 have hbeg:(Instr.beginRound B.b).run P w2 = .ok () w2':=by
  simp [Instr.beginRound,Sem.run_bind,run_getLoop hk2,Result.andThen_ok,run_setLoop hk2,w2',lpB]
 have hlt2:B.b < w2.heap.size:=Nat.lt_of_lt_of_le hlt s2.fr.size
 have hk2':w2'.heap[B.b]? = some lpB:=by simp [w2',hlt2]
 have hmk2:Marks 0 fb.defers E2 w2'.heap st2 a2.defers:=by
  obtain ⟨ms,hms,m2⟩:=m2
  refine ⟨ms,hms,m2.1,fun e he=>?_⟩
  obtain ⟨r,h0,h1,h2,h3⟩:=m2.2 e he
  refine ⟨r,h0,h1,?_,h3⟩
  have hne:B.b≠r:=by
   rintro rfl; rw [hk2] at h2; cases h2
  simp [w2',Array.getElem?_setIfInBounds_ne hne,h2]
 have hl3:(S.code nt y t2 st2).lim E2.top:=by rw [h3,s2.top]; exact hn3
 have hA3:=hS.code (E:=E2) (w:=w2') (st:=st2) (nt:=nt) (c:=y) (t:=t2) (a:=a2) (b:=fb) [] rfl hs2'.rel c2 hmk2 hl3
 simp only [h3,Arr] at hA3
 obtain ⟨E3,a3,w3,s3,c3,m3,g3⟩:=hA3
 have hlt2':B.b < w2'.heap.size:=by simpa [w2'] using hlt2
 have hk3:w3.heap[B.b]? = some lpB:=(s3.fr.keep _ hlt2' hun2.1).trans hk2'
 have hun3:Un E3 st3 B.b:=s3.un hlt2' hun2
 have hlt3:B.b < w3.heap.size:=Nat.lt_of_lt_of_le hlt2' s3.fr.size
 let lp0:Obj:=.loop { state:=.ready,pending:=none,fn:=f,tmps,params:=ps.toArray,assign:=x,body:=y,defers:=d }
 let w4:World:={ w3 with heap:=w3.heap.setIfInBounds B.b lp0 }
 have hend:(Instr.endRound B.b none).run P w3 = .ok (.bool true) w4:=by
  simp [Instr.endRound,Sem.run_bind,run_getLoop hk3,Result.andThen_ok,run_setLoop hk3,w4,lp0]
 have hs4:StepW E E3 w w4 st st3:=⟨(hs2'.trans s3).toStep.poke (.inl how) hun3 lp0 (TyKeep.setNon (fun _ _ _ e=>by rw [hk3] at e; exact Obj.noConfusion (Option.some.inj e))),(hs2'.trans s3).os,(hs2'.trans s3).out⟩
 have hB3:E3.phi l=some B:=(hs2'.trans s3).le.phi _ _ hB
 have hs5:StepW E E3 w w4 st (st3.put l (.lp t nt ps x y)):=by
  refine ⟨hs4.toStep.adopt hce ?_ hB3 ⟨f,tmps,d,?_,hT.mono (hs2'.trans s3).le⟩ (.inl how) hun3,hs4.os,hs4.out⟩
  ·have:l < st.next:=hr.alive_lt ha
   omega
  ·simp [w4,lp0,hlt3]
 refine ⟨E3,w4,.bool true,hs5,.b true,.inr (.inr (.inl ⟨B.b,f,tmps',x,y,?_,fun c cs=>?_⟩))⟩
 ·have hsz:us.length=ps.length:=hlen.symm
  simp [Instr.yield,Sem.run_bind,run_getLoop hH,Result.andThen_ok,hsz,tmps']
 ·refine (g2 (c :: cs)).trans ?_
  refine (Steps.one (stepR_beginRound (b:=fb) rfl hbeg)).trans ?_
  refine (g3 (c :: cs)).trans ?_
  exact Steps.one (stepR_round_end (b:=fb) rfl rfl hend)
end
end
end Go.Ev
namespace Go.Ev
noncomputable section
section
variable {P : Program} {S : Self} {w : World} {E : Env} {st : St}
theorem run_callMethod {t:TypeId} {name:String} {u:Value} {f:FuncId} {args:Array Value} (hm:methodOf P t name=some f) :
  (callMethod (.iface t u) name args).run P w=(callFunc f (#[u]++args)).run P w:=by
 unfold methodOf at hm
 split at hm
 case h_2=>cases hm
 rename_i i hi
 split at hm
 case h_2=>cases hm
 rename_i m hfind
 have hfind':i.methods.find? (fun x=>x.name == name)=some m:=by rw [← Array.find?_toList]; exact hfind
 split at hm
 case h_2=>cases hm
 rename_i f' ptr hpath hfunc
 have hd:P.types.size+Made.depth=(P.types.size+(Made.depth - 1))+1:=by
  have:0 < Made.depth:=by decide
  omega
 have hinfo:(typeInfo t).run P w = .ok i w:=by simp [typeInfo,Sem.run_bind,hi]
 have key:(method (P.types.size+Made.depth) t u name).run P w = .ok (f,u) w:=by
  rw [hd]
  split at hm
  ·rename_i e hu
   cases hm
   simp [method,Sem.run_bind,hinfo,hfind',hpath,follow,hfunc,receiverAt,underlying,hu,Place.get]
  ·cases hm
  ·rename_i d hne hu
   cases hm
   have:(underlying t).run P w = .ok d w:=by simp [underlying,Sem.run_bind,hu]
   simp only [method,Sem.run_bind,hinfo,Result.andThen_ok,hfind',hpath,follow,Sem.run_pure,hfunc,receiverAt,this]
   cases d <;> first | exact absurd hu (hne _) | simp [Place.get] | skip
  ·cases hm
 simp [callMethod,Sem.run_bind,key]
theorem callI_spec (hS:SelfOK P S) (hr:Rel E w.heap st) {x:AV} {u:Value} {name:String} {as:List AV} {us:List Value} (hx:Conc E x u) (hc:ConcL E as us) {v:AV} {st':St} (h:callI P S st name as x=some (v,st')) (hn:st'.next≤E.top) :
  GivesC P E w st st' v ((callMethod u name us.toArray).run P w):=by
 unfold callI at h
 split at h
 case h_2=>cases h
 rename_i ty y
 cases hx with
 | ifc _ _ z hz =>
  split at h
  case h_2=>cases h
  rename_i f hm
  rw [run_callMethod hm]
  have:=callF_spec hS hr (.cons _ _ _ _ hz hc) h hn
  simpa using this
theorem callV_spec (hS:SelfOK P S) (hr:Rel E w.heap st) {x:AV} {u:Value} {as:List AV} {us:List Value} (hx:Conc E x u) (hc:ConcL E as us) {v:AV} {st':St} (h:callV P S st as x=some (v,st')) (hn:st'.next≤E.top) :
  GivesC P E w st st' v ((do let d ← Deferred.ofValue u us.toArray; invoke d.target d.args:Sem Next).run P w):=by
 unfold callV at h
 split at h
 ·rename_i f first captured
  cases hx with
  | f _ _ _ vx vy _ hvx hvy =>
   have:=callF_spec hS hr (hvx.append (hc.append hvy)) h hn
   simpa [Deferred.ofValue,invoke,Sem.run_bind,Array.append_assoc] using this
 ·rename_i l
  cases hx with
  | f _ _ _ _ _ hy _ _=>cases hy
  | yi _ B hB =>
   have:=round_spec hS hr hB hc h hn
   simpa [Deferred.ofValue,invoke,Sem.run_bind] using this
 ·cases h
theorem invoke_method (name:String) (u:Value) (A:Array Value):invoke (.fn (.method name) #[]) (#[u]++A)=callMethod u name A:=by
 have h0:(#[u]++A)[0]? = some u:=by
  rw [Array.getElem?_append_left (by simp)]; rfl
 have h1:(#[u]++A).extract 1 (#[u]++A).size=A:=by simp
 simp only [invoke,h0,h1]
theorem send_spec (h:Rel E w.heap st) {x c v:AV} {ux uc:Value} {st':St} (hs:sendOf st x c=some (v,st')) (hx:Conc E x ux) (hc:Conc E c uc) :
  GivesC P E w st st' v ((pure (.comm #[{ chan:=uc,send:=some ux,zero:=.tuple #[] }] true .send):Sem Next).run P w):=by
 unfold sendOf at hs
 split at hs
 case h_2=>cases hs
 rename_i r
 cases hc with
 | c _ B hB =>
  split at hs
  case h_2=>cases hs
  rename_i cap buf hg
  obtain ⟨hlt,hs⟩:=brec hs
  cases hs
  obtain ⟨ha,B',s,q,us,hB',hH,hb⟩:=h.ch hg
  rw [hB] at hB'; cases hB'
  have hlt':us.length < cap:=by rw [← hb.length]; simpa [Nat.blt_eq] using hlt
  have hst:=Step.putRow h ha hB (row':=.ch cap (buf++[x])) (by intros; exact Row.noConfusion) (by intros; exact Row.noConfusion) (.chan cap (us.toArray.push ux) false (s+1) q false)
   (fun H' hH'=>⟨s+1,q,us++[ux],by simpa using hH',hb.append (.cons _ _ _ _ hx .nil)⟩)
  refine ⟨E,_,undef,.of hst,.un,.inr (.inr (.inr ⟨_,_,_,rfl,fun fr cs es he=>?_⟩))⟩
  exact _root_.Go.Conc.step_lone_send_room (v:=ux) (z':=.tuple #[]) he hH (by simpa using hlt')
theorem take_spec (h:Rel E w.heap st) {z c v:AV} {uz uc:Value} {st':St} (hs:takeOf st z c=some (v,st')) (hz:Conc E z uz) (hc:Conc E c uc) :
  GivesC P E w st st' v ((pure (.comm #[{ chan:=uc,send:=none,zero:=uz }] false .select):Sem Next).run P w):=by
 unfold takeOf at hs
 split at hs
 case h_2=>cases hs
 rename_i r
 cases hc with
 | c _ B hB =>
  split at hs
  ·rename_i cap x buf hg
   cases hs
   obtain ⟨ha,B',s,q,us,hB',hH,hb⟩:=h.ch hg
   rw [hB] at hB'; cases hB'
   cases hb with
   | cons _ _ u us hu hus =>
    have hst:=Step.putRow h ha hB (row':=.ch cap buf) (by intros; exact Row.noConfusion) (by intros; exact Row.noConfusion) (.chan cap ((u :: us).toArray.extract 1 (u :: us).toArray.size) false s (q+1) false)
     (fun H' hH'=>⟨s,q+1,us,by simpa using hH',hus⟩)
    refine ⟨E,_,.tuple #[.int .i64 0,.bool true,u],.of hst,.tu _ [.int .i64 0,.bool true,u] (.cons _ _ _ _ (.i _ _) (.cons _ _ _ _ (.b _) (.cons _ _ _ _ hu .nil))),.inr (.inr (.inr ⟨_,_,_,rfl,fun fr cs es he=>?_⟩))⟩
    exact _root_.Go.Conc.step_lone_select_recv_buf (z:=uz) he hH (by simp)
  ·rename_i cap hg
   cases hs
   obtain ⟨ha,B',s,q,us,hB',hH,hb⟩:=h.ch hg
   rw [hB] at hB'; cases hB'
   cases hb
   refine ⟨E,w,.tuple #[.int .i64 (-1),.bool false,uz],.refl h,.tu _ [.int .i64 (-1),.bool false,uz] (.cons _ _ _ _ (.i _ _) (.cons _ _ _ _ (.b _) (.cons _ _ _ _ hz .nil))),.inr (.inr (.inr ⟨_,_,_,rfl,fun fr cs es he=>?_⟩))⟩
   exact _root_.Go.Conc.step_lone_select_default (z:=uz) he hH
  ·cases hs
theorem op_all (hS:SelfOK P S) (h:Rel E w.heap st) {t:Tr AV} {ρ:Operand→Value} (hρ:∀ x,Conc E (evO t x) (ρ x)) {o:Oper} {v:AV} {st':St} (ho:evOp P S t st o=some (v,st')) (hn:st'.next≤E.top) :
  GivesC P E w st st' v ((execOp ρ o).run P w):=by
 cases hc:goCall o.op with
 | false=>exact (op_spec h hρ ho hn hc).c
 | true =>
  unfold goCall at hc
  split at hc
  ·rename_i ch x hop
   unfold evOp at ho
   rw [hop] at ho
   have ho:sendOf st (evO t x) (evO t ch)=some (v,st'):=ho
   simp only [execOp,hop]
   exact send_spec h ho (hρ x) (hρ ch)
  ·rename_i cs bl hop
   unfold evOp at ho
   rw [hop] at ho
   have ho:opSelect cs bl P S t st=some (v,st'):=ho
   unfold opSelect at ho
   split at ho
   case h_2=>cases ho
   rename_i s hcs hbl
   split at ho
   case h_2=>cases ho
   rename_i hsn
   unfold takeZ at ho
   split at ho
   case h_2=>cases ho
   rename_i z hz
   obtain ⟨zv,rfl,hzr⟩:=zero_of (P:=P) hz
   have hcs':cs = #[s]:=by rw [← Array.toArray_toList (xs:=cs),hcs]
   have:=take_spec (P:=P) h ho (ofVal_conc zv) (hρ s.chan)
   simp only [execOp,hop,hcs']
   simpa [Sem.run_bind,hzr,Array.mapM_eq_mapM_toList,hsn] using this
  case h_4=>cases hc
  rename_i c hop
  unfold evOp at ho
  rw [hop] at ho
  have ho:opCall c P S t st=some (v,st'):=ho
  unfold opCall at ho
  simp only [execOp,hop,resolve]
  have ha:ConcL E (args t c.args.toList) (c.args.toList.map ρ):=args_conc hρ c.args.toList
  cases hcc:c.callee with
  | builtin b=>rw [hcc] at hc; cases hc
  | value f =>
   rw [hcc] at ho
   have:=callV_spec hS h (hρ f) ha ho hn
   rw [mapArr] at this
   exact this
  | invoke r name =>
   rw [hcc] at ho
   have:=callI_spec hS h (hρ r) ha ho hn
   rw [mapArr] at this
   rw [Sem.run_bind,Sem.run_pure,Result.andThen_ok,invoke_method]
   exact this
variable {b : Frame} {a : Act} {k : List Item} {ops : Array Oper} {i : Nat} {rest : List Nat} {o : Oper}
theorem givesC_steps {v:AV} {st':St} (ho:ops[i]? = some o) (hw:Region.wanted o (yielded ops a.tmps)=true) (hd:∀ c,o.op≠.defer c) (h:GivesC P E w st st' v ((execOp a.eval o).run P w)) :
  ∃ E' w' cv,StepW E E' w w' st st'∧Conc E' v cv∧∀ cs,Steps P (lone (b.atR a (.inRegion ops (i :: rest) :: k)) cs w) (lone (b.atR (a.put o.dst cv) (.inRegion ops rest :: k)) cs w'):=by
 obtain ⟨E',w',cv,hs,hc,h⟩:=h
 refine ⟨E',w',cv,hs,hc,fun cs=>?_⟩
 have hf:=Frame.finish_atR b a ops i rest k cv
 rw [ho] at hf
 simp only [Option.bind_some] at hf
 rcases h with (h | ⟨h,rfl⟩) | ⟨f,as,h,hcall⟩ | ⟨l,f,tmps,x,y,h,hround⟩ | ⟨cases,bl,sh,h,htell⟩
 ·exact Steps.one (step_value ho hw hd h)
 ·exact Steps.one (step_skipped ho hw hd h)
 ·refine (Steps.one (step_enter ho hw hd h)).trans ?_
  obtain ⟨fr,h1,h2,h3⟩:=hcall (b.atR a (.inRegion ops (i :: rest) :: k) :: cs)
  refine h1.trans ?_
  rw [← hf]
  exact Steps.one (step_leave_returned h3)
 ·refine (Steps.one (step_round ho hw hd h)).trans ?_
  rw [← hf]
  exact hround _ cs
 ·obtain ⟨es,he⟩:=stepG_comm (b:=b) (k:=k) (cs:=cs) (rest:=rest) ho hw hd h
  rw [← hf]
  exact Steps.one (htell _ cs es he)
theorem notDefer {t:Tr AV} {v:AV} {st':St} (ho:evOp P S t st o=some (v,st')):∀ c,o.op≠.defer c:=by
 intro c hop
 unfold evOp at ho
 rw [hop] at ho
 cases ho
end
end
end Go.Ev
