/-
  Check: which programs may be. · What the preparation makes, as a function: new names; scopes; expressions. · New names: what fresh answers.
-/
import Derived.Test.YtbemeikjepjhoaaGreatDoorS38
import Derived.Lib.ItoaLen
namespace Go.Proofs.YtbemeikjepjhoaaGreatDoor
open Go.Ev
set_option maxRecDepth 100000
noncomputable section
variable {st : St}
def okP (N:Nat) (cv:AV) (ds:List ConD) (b:ExL):Prop :=
 (Tw none N).call 22 [cv] st0=some (.b true,st0)∧namesOK b.names=true∧SrtFrom b.names 0∧okL (consF ds) b [b.names]=true∧[109,97,105,110] ∈ b.names
def ChkAt (st s:St) (r0 cr mr:Nat) (w:Int) (C:Str→Option AV) (cv bv:AV) (b:ExL) (i:Nat):Prop :=
 (∃ al,s.ce r0=some ([cv,bv],r0,al))∧Kp [cr] [cr] st s∧∃ w',Ck s cr mr w' C∧(w'=0↔w=0∧∀ j,j < i→okAt C [b.names] b j)
noncomputable def f7b:Code:=Tryz.f7.body.getD .skip
noncomputable def f7r:Code:=cTl (cTl (cTl (cTl (cTl (cTl f7b)))))
def TailRes (o:Option (AV × St)) (w:Int) (C:Str→Option AV) (b:ExL):Prop:=∃ e:Int,Ret o (.i .i64 e)∧(e=0↔w=0∧(okL C b [b.names]=true∧[109,97,105,110] ∈ b.names))
theorem check_tail {cv:AV} {b:ExL} (hb:b.Ty 1) (hs:b.size≤1000000) {C:Str→Option AV} (hC:CWf C) {s:St} {t:Tr AV} {r0 cr mr:Nat} {w:Int} {lv:AV} (t1:tget t 1 = .p r0 0) (t3:tget t 3 = .p cr 0) (t4:tget t 4=lv) (b2:IsSl lv (b.names.map .s))
  {al:List Nat} (c3:s.ce r0=some ([cv,b.slice 8],r0,al)) (l3:r0 < s.next) (r0n:r0≠cr) (hk:Ck s cr mr w C) {N:Nat} (hN:2 * b.size+10000000000000000100≤N) :
  TailRes (endF Tryz.prog Tryz.f7.results.toList (evC f7r ⟨Tryz.prog,Tw none N,false,Tryz.f7.ntmps,N⟩ t s)) w C b:=by
 have hbl:=b.len_le
 have lb:=fun st:St=>len_sl (st:=st) Tryz.underlying23 (b.slice_len 8) (b.slice_text 8)
 have hnl:b.names.length≤9223372036854775807:=by rw [names_len]; omega
 have ncr:r0 ∉ [cr]:=by simp [r0n]
 have lbv:∀ {s:St} {al:List Nat},s.ce r0=some ([cv,b.slice 8],r0,al)→rd s r0 1 1=some [b.slice 8]:=fun h=>by rw [rd_of h]; rfl
 have lbv3:=lbv c3
 simp [f7r,f7b,cTl,Tryz.f7,t1,off25_1,load_p inf23 ag23,lbv3,lb,evC_loop]
 generalize hL:loopC _ _ _ _=L
 obtain ⟨t5,s5,rfl,p3,p4,⟨a5,c5⟩,k5,w5,C5,g5⟩:=loop_use hL 0 b.list.length
  (fun i t s'=>tget t 1 = .p r0 0∧tget t 3 = .p cr 0∧tget t 4=lv∧tget t 31 = .i .i64 (b.len:Int)∧tget t 32 = .i .i64 (i:Int)∧ChkAt s s' r0 cr mr w C cv (b.slice 8) b i)
  (fun t s'=>tget t 3 = .p cr 0∧tget t 4=lv∧ChkAt s s' r0 cr mr w C cv (b.slice 8) b b.list.length) (by rw [← ExL.len_eq]; omega)
  ⟨by simp [t1],by simp [t3],by simp [t4],by simp,by simp,⟨_,c3⟩,.refl _ _ _,w,hk,by simp⟩
  (by
   rintro i t s' hi ⟨i1,i3,i4,i31,i32,⟨a',c'⟩,iK,w',iC,iG⟩
   clear hL
   have hil:i < b.len:=by rw [ExL.len_eq]; exact hi
   have e5:(i:Int) < (b.len:Int):=by omega
   have e7:wr .i64 ((i:Int)+1)=((i+1:Nat):Int):=by rw [wr_in (by omega) (by omega)]; rfl
   obtain ⟨q,q1,q2⟩:=part_at hb.pre (show preLen 1+7=8 from rfl) hi
   have ix:=index_rs (P:=Tryz.prog) Tryz.underlying23 inf42 sz42 b.flat b.len i hil
   rw [← ExL.slice_rs hil,q1] at ix
   have hmem:=List.getElem_mem hi
   have hTi:=ExL.ty_list hb _ hmem
   have hsz':=ExL.size_mem hmem
   have hpr1:pureL q=true:=pure_tail hb hi q1 q2
   have hd:(b.list[i].1++(b.list[i].2.cells++q)).drop 1=b.list[i].2.cells++q:=by
    have q2':b.list[i].1.length=1:=q2
    rw [List.drop_append,q2']; simp [q2',List.drop_eq_nil_of_le]
   have bcs:=lbv c'
   have bo:=fun (t:Tr AV) (q1:evO t (.tmp 41)=lv)=>build66 (st:=s') (S:=Tw none N) (t:=t) (x:=.tmp 41) (y:=.const (.pointer none)) q1 (evO_pn t) (isSl_cells b2) (by simp)
   have nf:=(FrV.pn (st:=s') (cr:=cr)).new b2 hnl iC.crl
   have kn:=Kp.newCe (st:=s') [cr] [cr] [lv,.pn]
   have nk:=iC.keep (Kp.newCe (st:=s') [] [] [lv,.pn]) (by simp) (by simp) (by simp)
   obtain ⟨s6,w6,x1,x2,x3,x4⟩:=expr_call (c:=none) _ hTi.2 (by omega) (s'.newCe [lv,.pn]) cr mr w' C [b.names] (.p s'.next 0) q N hC nk nf hpr1 (by simp; omega)
   simp [i1,i3,i4,i31,i32,e5,e7,off25_1,load_p inf23 ag23,bcs,ix,off42_1,hd,bo,callF_of Tryz.func26 rfl,x1]
   have kk:=kn.trans x3
   refine ⟨_,_,⟨rfl,rfl⟩,by simp [i1],by simp [i3],by simp [i4],by simp [i31],by simp,⟨_,kk.ce c' (Nat.lt_of_lt_of_le l3 iK.next) (Nat.lt_of_lt_of_le l3 iK.next) ncr ncr⟩,iK.trans kk,w6,x2,?_⟩
   rw [x4,iG,all_succ,and_assoc]
   exact and_congr Iff.rfl (and_congr Iff.rfl ⟨fun h _=>h,fun h=>h hi⟩))
  (by
   rintro t s' ⟨i1,i3,i4,i31,i32,iA⟩
   clear hL
   simp [i31,i32,ExL.len_eq]
   exact ⟨_,_,⟨rfl,rfl⟩,by simp [i3],by simp [i4],iA⟩)
 clear hL
 rw [okAt_all] at g5
 obtain ⟨a6,cc5⟩:=C5.ce
 have hw:rd s5 cr 1 1=some [.i .i64 w5]:=by rw [rd_of cc5]; rfl
 have ct:=contains_call (c:=none) (st:=s5) [109,97,105,110] b2 hnl (N:=N) (by omega)
 by_cases h0:w5=0
 ·subst h0
  have gg:=g5.1 rfl
  by_cases hm:[109,97,105,110] ∈ b.names
  ·refine ⟨0,?_,fun _=>⟨gg.1,gg.2,hm⟩,fun _=>rfl⟩
   simp [p3,p4,off69_1,load_p inf28 ag28,hw,callF_of Tryz.func27 rfl,ct,hm,resOf_eq,pmapO]
  ·refine ⟨10,?_,fun h=>(by cases h),fun h=>absurd h.2.2 hm⟩
   simp [p3,p4,off69_1,load_p inf28 ag28,hw,callF_of Tryz.func27 rfl,ct,hm,resOf_eq,pmapO]
 ·refine ⟨w5,?_,fun h=>absurd h h0,fun h=>absurd (g5.2 ⟨h.1,h.2.1⟩) h0⟩
  simp [p3,off69_1,load_p inf28 ag28,hw,h0,resOf_eq,pmapO]
def ChkRes (o:Option (AV × St)) (N:Nat) (cv:AV) (ds:List ConD) (b:ExL):Prop:=∃ e:Int,Ret o (.i .i64 e)∧(fitsP b=false→e=3)∧(fitsP b=true→(e=0↔okP N cv ds b))
theorem check_body {cv:AV} {ds:List ConD} (hv:IsCons cv ds) (hl:ds.length≤1000000) {b:ExL} (hb:b.Ty 1) (hs:b.size≤1000000) {N:Nat} (hN:2 * b.size+10000000000000000100≤N) :
  ChkRes (bodyR none N Tryz.f7 (Tryz.f7.body.getD .skip) [.ag [cv,b.slice 8]] st0) N cv ds b:=by
 unfold bodyR
 have hbl:=b.len_le
 have hcc:cv.cells=some [cv]:=by rcases hv.1 with ⟨rfl,-⟩ | rfl <;> simp
 have hcs:isSc cv=true:=by rcases hv.1 with ⟨rfl,-⟩ | rfl <;> rfl
 have c0:=newCe_ce (st:=st0) [cv,b.slice 8]
 have k0:st0.next < (st0.newCe [cv,b.slice 8]).next:=Nat.lt_succ_self _
 obtain ⟨r0,hr0⟩:∃ r,st0.next=r:=⟨_,rfl⟩
 obtain ⟨s0,hs0⟩:∃ s,st0.newCe [cv,b.slice 8]=s:=⟨_,rfl⟩
 rw [hr0,hs0] at c0 k0
 have lall:∀ {s:St} {al:List Nat},s.ce r0=some ([cv,b.slice 8],r0,al)→loadAt Tryz.prog 25 s (.p r0 0)=some (.ag [cv,b.slice 8]):=fun h=>by
  rw [load_ag inf25 ag25,sz25,rd_of h]; rfl
 have lcv:∀ {s:St} {al:List Nat},s.ce r0=some ([cv,b.slice 8],r0,al)→rd s r0 0 1=some [cv]:=fun h=>by rw [rd_of h]; rfl
 have lbv:∀ {s:St} {al:List Nat},s.ce r0=some ([cv,b.slice 8],r0,al)→rd s r0 1 1=some [b.slice 8]:=fun h=>by rw [rd_of h]; rfl
 have la0:=lall c0
 have lg:=long_call (c:=none) (st:=s0) hv.pure hcs hb hs (N:=N) (by omega)
 cases hf:fitsP b with
 | false =>
  rw [hf] at lg
  refine ⟨3,?_,fun _=>rfl,fun h=>by rw [hf] at h; cases h⟩
  simp [Tryz.f7,hr0,hs0,la0,callF_of Tryz.func19 rfl,lg,resOf_eq,pmapO]
 | true =>
  rw [hf] at lg
  obtain ⟨s1,cr,mr,o1,oC,oK,ocr,omr⟩:=of_call (c:=none) (st:=s0) (bv:=b.slice 8) hv hcc hl (N:=N) (by omega)
  have c1:=oK.ce c0 k0 k0 (by simp) (by simp)
  obtain ⟨fb,hfb⟩:=consFine_call (c:=none) hv hl (N:=N) (by omega)
  obtain ⟨s2,w2,y1,y2,y3,y4⟩:=note_call (c:=none) (!fb) oC (e:=2) (by right; right; right; rfl) (by decide) (N:=N) (by omega)
  have ncr:r0 ∉ [cr]:=by simp; omega
  have c2:=y3.ce c1 (Nat.lt_of_lt_of_le k0 oK.next) (Nat.lt_of_lt_of_le k0 oK.next) ncr ncr
  have l2:r0 < s2.next:=Nat.lt_of_lt_of_le (Nat.lt_of_lt_of_le k0 oK.next) y3.next
  obtain ⟨lv,b1,b2⟩:=binds_call (c:=none) (st:=s2) hb (by omega) (N:=N) (by omega)
  have hnl:b.names.length≤9223372036854775807:=by rw [names_len]; omega
  have nm:=fun st:St=>names_call (c:=none) (st:=st) b2 hnl (N:=N) (by omega)
  obtain ⟨sb,sb1,sb2⟩:=sorted_call (c:=none) b2 hnl (N:=N) (by omega)
  have lcv1:=lcv c1
  have lbv2:=lbv c2
  have lb:=fun st:St=>len_sl (st:=st) Tryz.underlying23 (b.slice_len 8) (b.slice_text 8)
  obtain ⟨s3,w3,z1,z2,z3,z4⟩:=note_call (c:=none) (!(namesOK b.names && sb)) y2 (e:=2) (by right; right; right; rfl) (by decide) (N:=N) (by omega)
  have c3:=z3.ce c2 l2 l2 ncr ncr
  have l3:r0 < s3.next:=Nat.lt_of_lt_of_le l2 z3.next
  have lbv3:=lbv c3
  have g3:w3=0↔fb=true∧(namesOK b.names=true∧sb=true):=by
   rw [z4,y4]; cases fb <;> cases namesOK b.names <;> cases sb <;> simp
  have hd:∃ t,evC f7b ⟨Tryz.prog,Tw none N,false,Tryz.f7.ntmps,N⟩ (tmpsOf [.ag [cv,b.slice 8]] 0 .lf) st0=evC f7r ⟨Tryz.prog,Tw none N,false,Tryz.f7.ntmps,N⟩ t s3∧tget t 1 = .p r0 0∧tget t 3 = .p cr 0∧tget t 4=lv:=by
   rw [show evC f7b ⟨Tryz.prog,Tw none N,false,Tryz.f7.ntmps,N⟩ (tmpsOf [.ag [cv,b.slice 8]] 0 .lf) st0=thenC (evC (cHd f7b) ⟨Tryz.prog,Tw none N,false,Tryz.f7.ntmps,N⟩ (tmpsOf [.ag [cv,b.slice 8]] 0 .lf) st0) (fun t s=>thenC (evC (cHd (cTl f7b)) ⟨Tryz.prog,Tw none N,false,Tryz.f7.ntmps,N⟩ t s)
    (fun t s=>thenC (evC (cHd (cTl (cTl f7b))) ⟨Tryz.prog,Tw none N,false,Tryz.f7.ntmps,N⟩ t s) (fun t s=>thenC (evC (cHd (cTl (cTl (cTl f7b)))) ⟨Tryz.prog,Tw none N,false,Tryz.f7.ntmps,N⟩ t s)
    (fun t s=>thenC (evC (cHd (cTl (cTl (cTl (cTl f7b))))) ⟨Tryz.prog,Tw none N,false,Tryz.f7.ntmps,N⟩ t s) (fun t s=>thenC (evC (cHd (cTl (cTl (cTl (cTl (cTl f7b)))))) ⟨Tryz.prog,Tw none N,false,Tryz.f7.ntmps,N⟩ t s) (evC f7r ⟨Tryz.prog,Tw none N,false,Tryz.f7.ntmps,N⟩)))))) from rfl]
   cases hn:namesOK b.names with
   | false =>
    rw [hn] at z1
    simp only [Bool.false_and,Bool.not_false] at z1
    simp [f7b,cHd,cTl,Tryz.f7,hr0,hs0,la0,callF_of Tryz.func19 rfl,lg,callF_of Tryz.func20 rfl,o1,off25_0,load_p inf22 ag22,lcv1,callF_of Tryz.func22 rfl,hfb,callF_of Tryz.func21 rfl,y1,off25_1,load_p inf23 ag23,lbv2,callF_of Tryz.func23 rfl,b1,callF_of Tryz.func24 rfl,nm,hn,z1]
    exact ⟨_,rfl,by simp,by simp,by simp⟩
   | true =>
    rw [hn] at z1
    simp only [Bool.true_and] at z1
    simp [f7b,cHd,cTl,Tryz.f7,hr0,hs0,la0,callF_of Tryz.func19 rfl,lg,callF_of Tryz.func20 rfl,o1,off25_0,load_p inf22 ag22,lcv1,callF_of Tryz.func22 rfl,hfb,callF_of Tryz.func21 rfl,y1,off25_1,load_p inf23 ag23,lbv2,callF_of Tryz.func23 rfl,b1,callF_of Tryz.func24 rfl,nm,hn,callF_of Tryz.func25 rfl,sb1,z1]
    exact ⟨_,rfl,by simp,by simp,by simp⟩
  obtain ⟨t,hd,t1,t3,t4⟩:=hd
  show ChkRes (endF Tryz.prog Tryz.f7.results.toList (evC f7b ⟨Tryz.prog,Tw none N,false,Tryz.f7.ntmps,N⟩ (tmpsOf [.ag [cv,b.slice 8]] 0 .lf) st0)) N cv ds b
  rw [hd]
  have r0n:r0≠cr:=by simpa using ncr
  obtain ⟨e,e1,e2⟩:=check_tail (cv:=cv) hb hs (consF_wf ds) t1 t3 t4 b2 c3 l3 r0n z2 hN
  refine ⟨e,e1,fun h=>(by rw [hf] at h; cases h),fun _=>?_⟩
  rw [e2,g3]
  have hfn:fb=true↔(Tw none N).call 22 [cv] st0=some (.b true,st0):=by
   rw [hfb st0]; simp
  unfold okP
  rw [hfn,sb2,and_assoc,and_assoc]
end
end Go.Proofs.YtbemeikjepjhoaaGreatDoor
namespace Go.Proofs.YtbemeikjepjhoaaGreatDoor
open Go.Ev
set_option maxRecDepth 100000
noncomputable section
def valL (l:Str):Nat:=l.foldl (fun a b=>a * 10+(b - 48)) 0
theorem dig_nat {k:Nat} (h:k < 10):(UInt8.ofNat (48+k)).toNat=48+k:=by
 simp only [UInt8.toNat_ofNat']
 omega
theorem valL_dec:∀ u:Nat,valL ((Lib.decDigits u).map UInt8.toNat)=u∧∀ b,b ∈ (Lib.decDigits u).map UInt8.toNat→48≤b∧b≤57:=by
 intro u
 induction u using Nat.strongRecOn with
 | ind u ih =>
  rw [Lib.decDigits]
  split
  ·rename_i h
   have hd:(UInt8.ofNat (48+u)).toNat=48+u:=dig_nat h
   refine ⟨?_,fun b hb=>?_⟩
   ·simp only [valL,List.map_cons,List.map_nil,List.foldl_cons,List.foldl_nil,hd]; omega
   ·simp only [List.map_cons,List.map_nil,List.mem_singleton,hd] at hb; omega
  ·rename_i h
   obtain ⟨h1,h2⟩:=ih (u / 10) (by omega)
   have hd:(UInt8.ofNat (48+u % 10)).toNat=48+u % 10:=dig_nat (by omega)
   refine ⟨?_,fun b hb=>?_⟩
   ·simp only [valL,List.map_append,List.map_cons,List.map_nil,List.foldl_append,List.foldl_cons,List.foldl_nil,hd] at h1 ⊢
    rw [h1]; omega
   ·simp only [List.map_append,List.mem_append,List.map_cons,List.map_nil,List.mem_singleton,hd] at hb
    rcases hb with hb | hb
    ·exact h2 b hb
    ·omega
theorem itoaL_eq (n:Nat):itoaL n=(Lib.decDigits n).map UInt8.toNat:=by
 unfold itoaL Lib.itoa
 rw [if_neg (by omega)]
 simp
def pname (m:Nat):Str:=[126,112]++itoaL m
theorem pname_inj {a b:Nat} (h:pname a=pname b):a=b:=by
 have h1:itoaL a=itoaL b:=List.append_cancel_left h
 rw [itoaL_eq,itoaL_eq] at h1
 have h2:=congrArg valL h1
 rwa [(valL_dec a).1,(valL_dec b).1] at h2
theorem itoaL_len {m:Nat} (h:m < 9223372036854775808):(itoaL m).length≤21:=by
 unfold itoaL
 rw [List.length_map]
 exact Lib.itoa_length_le _ (by omega) (by omega)
theorem pname_named {m:Nat} (h:m < 9223372036854775808):named (pname m)=true:=by
 have h1:=itoaL_len h
 unfold named
 simp only [Bool.and_eq_true,decide_eq_true_eq,List.all_eq_true]
 refine ⟨by simp [pname],by simp [pname]; omega,fun c hc=>?_⟩
 unfold pname at hc
 rcases List.mem_append.1 hc with hc | hc
 ·simp at hc; omega
 ·rw [itoaL_eq] at hc
  have:=(valL_dec m).2 c hc
  omega
section
variable (T : List Str)
open Classical in
def mu (n:Nat):Nat:=(T.filter fun s=>decide (∃ m,n < m∧s=pname m)).length
def nxtB:Nat→Nat→Nat
 | 0,n=>n+1
 | k+1,n=>if pname (n+1) ∈ T then nxtB k (n+1) else n+1
def nxt (n:Nat):Nat:=nxtB T T.length n
theorem filter_le {α:Type} {p q:α→Bool} (h:∀ x,p x=true→q x=true):∀ {l:List α},(l.filter p).length≤(l.filter q).length
 | []=>Nat.le_refl _
 | z :: l=>by
  have ih:=filter_le h (l:=l)
  rw [List.filter_cons,List.filter_cons]
  by_cases hz:p z=true
  ·rw [if_pos hz,if_pos (h z hz)]; simpa using ih
  ·rw [if_neg hz]
   split
   ·simp; omega
   ·exact ih
theorem filter_lt {α:Type} {p q:α→Bool}:∀ {l:List α},(∀ x,p x=true→q x=true)→(∃ x,x ∈ l∧q x=true∧p x=false)→(l.filter p).length < (l.filter q).length
 | [],_,⟨x,h,_⟩=>by cases h
 | y :: l,h,⟨x,hx,h1,h2⟩=>by
  have le:=fun l:List α=>filter_le h (l:=l)
  rw [List.filter_cons,List.filter_cons]
  rcases List.mem_cons.1 hx with rfl | hx
  ·rw [if_neg (by rw [h2]; simp),if_pos h1]
   have:=le l
   simp; omega
  ·have ih:=filter_lt (l:=l) h ⟨x,hx,h1,h2⟩
   by_cases hz:p y=true
   ·rw [if_pos hz,if_pos (h y hz)]; simpa using ih
   ·rw [if_neg hz]
    split
    ·simp; omega
    ·exact ih
open Classical in
theorem mu_lt {n:Nat} (h:pname (n+1) ∈ T):mu T (n+1) < mu T n:=by
 unfold mu
 refine filter_lt (fun x hx=>?_) ⟨_,h,?_,?_⟩
 ·obtain ⟨m,h1,h2⟩:=of_decide_eq_true hx
  exact decide_eq_true ⟨m,by omega,h2⟩
 ·exact decide_eq_true ⟨n+1,by omega,rfl⟩
 ·refine decide_eq_false ?_
  rintro ⟨m,h1,h2⟩
  have:=pname_inj h2
  omega
open Classical in
theorem mu_le {n:Nat}:mu T (n+1)≤mu T n:=by
 unfold mu
 refine filter_le fun x hx=>?_
 obtain ⟨m,h1,h2⟩:=of_decide_eq_true hx
 exact decide_eq_true ⟨m,by omega,h2⟩
theorem nxtB_spec:∀ (k n:Nat),mu T n≤k→pname (nxtB T k n) ∉ T∧n < nxtB T k n∧(∀ m,n < m→m < nxtB T k n→pname m ∈ T)∧nxtB T k n+mu T (nxtB T k n)≤n+mu T n+1
 | 0,n,h=>by
  have:pname (n+1) ∉ T:=fun hh=>by have:=mu_lt T hh; omega
  have:=mu_le T (n:=n)
  refine ⟨‹_›,Nat.lt_succ_self _,fun m h1 h2=>?_,?_⟩
  ·simp only [nxtB] at h2; omega
  ·simp only [nxtB]; omega
 | k+1,n,h=>by
  unfold nxtB
  by_cases hh:pname (n+1) ∈ T
  ·rw [if_pos hh]
   have hl:=mu_lt T hh
   obtain ⟨h1,h2,h3,h4⟩:=nxtB_spec k (n+1) (by omega)
   refine ⟨h1,by omega,fun m h5 h6=>?_,by omega⟩
   by_cases e:m=n+1
   ·rw [e]; exact hh
   ·exact h3 m (by omega) h6
  ·rw [if_neg hh]
   have:=mu_le T (n:=n)
   exact ⟨hh,Nat.lt_succ_self _,fun m h5 h6=>by omega,by omega⟩
theorem mu_len {n:Nat}:mu T n≤T.length:=List.length_filter_le _ _
theorem nxt_not (n:Nat):pname (nxt T n) ∉ T:=(nxtB_spec T _ n (mu_len T)).1
theorem nxt_gt (n:Nat):n < nxt T n:=(nxtB_spec T _ n (mu_len T)).2.1
theorem nxt_in (n:Nat):∀ m,n < m→m < nxt T n→pname m ∈ T:=(nxtB_spec T _ n (mu_len T)).2.2.1
def pot (n:Nat):Nat:=n+mu T n
theorem pot_nxt (n:Nat):pot T (nxt T n)≤pot T n+1:=(nxtB_spec T _ n (mu_len T)).2.2.2
theorem le_pot (n:Nat):n≤pot T n:=Nat.le_add_right _ _
abbrev Sco:=Str→Option Str
def updS (S:Sco) (x y:Str):Sco:=fun z=>if z=x then some y else S z
def withN (S:Sco):List Str→Nat→Sco × List Str × Nat
 | [],n=>(S,[],n)
 | x :: l,n=>let r:=withN (updS S x (pname (nxt T n))) l (nxt T n); (r.1,pname (nxt T n) :: r.2.1,r.2.2)
def slN:List Str→AV
 | []=>.sn
 | s :: l=>.rs ((s :: l).map .s) (l.length+1) 1
def varE (s:Str):Ex:=.mk 1 s 0 .sn (.nil true) (.nil true) (.nil true)
def wrapE (late:ExL) (out:Ex):Ex:=match late with
 | .nil _=>out
 | .cons p x l=>.mk 7 [] 0 .sn (.cons p x l) (.cons [] out (.nil true)) (.nil true)
mutual
def prepE:Ex→Sco→Nat→Ex × Nat
 | .mk k nm num ps b a l,S,n =>
  if k=1 then (.mk 1 ((S nm).getD nm) num .sn (.nil true) (.nil true) (.nil true),n) else
  let w1:=withN T S (txsOf ps) n
  let w2:=withN T w1.1 b.names w1.2.2
  let rb:=prepB b w2.1 w2.2.1 w2.2.2
  let ra:=prepA a w2.1 (strictK strF k nm a.len) 0 rb.2
  let rl:=prepL l w2.1 ra.2.2
  (wrapE ra.2.1 (.mk k nm num (slN w1.2.1) rb.1 ra.1 rl.1),rl.2)
def prepB:ExL→Sco→List Str→Nat→ExL × Nat
 | .nil _,_,_,n=>(.nil true,n)
 | .cons _ x l,S,ns,n=>let r:=prepE x S n; let q:=prepB l S ns.tail r.2; (.cons [.s (ns.headD [])] r.1 q.1,q.2)
def prepA:ExL→Sco→Int→Nat→Nat→ExL × ExL × Nat
 | .nil _,_,_,_,n=>(.nil true,.nil true,n)
 | .cons _ x l,S,k,i,n =>
  let r:=prepE x S n
  if k≤(i:Int)∧r.1.atom=false then
   let q:=prepA l S k (i+1) (nxt T r.2)
   (.cons [] (varE (pname (nxt T r.2))) q.1,.cons [.s (pname (nxt T r.2))] r.1 q.2.1,q.2.2)
  else
   let q:=prepA l S k (i+1) r.2
   (.cons [] r.1 q.1,q.2.1,q.2.2)
def prepL:ExL→Sco→Nat→ExL × Nat
 | .nil _,_,n=>(.nil true,n)
 | .cons p x l,S,n =>
  let w:=withN T S (altH (p,x)).vs n
  let r:=prepE x w.1 w.2.2
  let q:=prepL l S r.2
  (.cons [.i .i64 (altH (p,x)).k,.s (altH (p,x)).n,.i .i64 (altH (p,x)).m,slN w.2.1] r.1 q.1,q.2)
end
end
def ofL:List (List AV × Ex)→ExL
 | []=>.nil true
 | p :: L=>.cons p.1 p.2 (ofL L)
theorem ofL_list:∀ L:List (List AV × Ex),(ofL L).list=L
 | []=>rfl
 | p :: L=>by simp [ofL,ExL.list,ofL_list L]
def dropL:ExL→Nat→ExL
 | l,0=>l
 | .nil f,_+1=>.nil f
 | .cons _ _ l,i+1=>dropL l i
theorem dropL_at:∀ (l:ExL) (i:Nat) (h:i < l.list.length),dropL l i = .cons l.list[i].1 l.list[i].2 (dropL l (i+1))
 | .nil f,i,h=>by simp [ExL.list] at h
 | .cons p x l,0,h=>by simp [dropL,ExL.list]
 | .cons p x l,i+1,h=>by
  have:=dropL_at l i (by simpa [ExL.list] using h)
  simpa [dropL,ExL.list] using this
theorem dropL_end:∀ (l:ExL),∃ f,dropL l l.list.length = .nil f
 | .nil f=>⟨f,by simp [dropL,ExL.list]⟩
 | .cons p x l=>by
  obtain ⟨f,h⟩:=dropL_end l
  exact ⟨f,by simpa [dropL,ExL.list] using h⟩
def appL:List (List AV × Ex)→ExL→ExL
 | [],m=>m
 | p :: L,m=>.cons p.1 p.2 (appL L m)
theorem appL_app:∀ (L M:List (List AV × Ex)) (m:ExL),appL (L++M) m=appL L (appL M m)
 | [],M,m=>rfl
 | p :: L,M,m=>by simp [appL,appL_app L M m]
theorem appL_nil:∀ L:List (List AV × Ex),appL L (.nil true)=ofL L
 | []=>rfl
 | p :: L=>by simp [appL,ofL,appL_nil L]
end
end Go.Proofs.YtbemeikjepjhoaaGreatDoor
namespace Go.Proofs.YtbemeikjepjhoaaGreatDoor
open Go.Ev
set_option maxRecDepth 100000
noncomputable section
variable {c : Option Self} {st : St}
theorem str_add {P:Program} {ty:TypeId} {k:Bool} {x y:Str} (h:x.length+y.length≤9223372036854775807):Go.Ev.binOp P ty k .add (.s x) (.s y)=some (.s (x++y)):=by
 show @Bool.rec (fun _=>Option AV) none (some (.s (x++y))) (Nat.ble (x.length+y.length) 9223372036854775807)=_
 rw [Nat.ble_eq_true_of_le h]
structure Mk (st:St) (mr tr:Nat) (T:List Str) (n:Nat):Prop where
 ce:∃ al,st.ce mr=some ([.m tr,.i .i64 (n:Int)],mr,al)
 mrl:mr < st.next
 trl:tr < st.next
 ne:mr≠tr
 mp:∃ F,MpF st tr F∧∀ j,n < j→(F (pname j)).getD (.b false) = .b (decide (pname j ∈ T))
 tab:Tabled st
 z1:mr≠0
 z2:tr≠0
theorem Mk.keep {mr tr n:Nat} {T:List Str} {A B:List Nat} {st':St} (h:Mk st mr tr T n) (k:Kp A B st st') (h1:mr ∉ A) (h2:tr ∉ A) (h3:mr ∉ B) (h0:0 ∉ A):Mk st' mr tr T n:=by
 obtain ⟨al,hc⟩:=h.ce
 obtain ⟨F,hF,hj⟩:=h.mp
 obtain ⟨t,ht⟩:=h.tab
 exact ⟨⟨al,k.ce hc h.mrl h.mrl h1 h3⟩,Nat.lt_of_lt_of_le h.mrl k.next,Nat.lt_of_lt_of_le h.trl k.next,h.ne,⟨F,hF.keep k h.trl h2,hj⟩,⟨t,by rw [k.get 0 (by have:=h.mrl; omega) h0]; exact ht⟩,h.z1,h.z2⟩
def FreshRes (o:Option (AV × St)) (st:St) (mr tr:Nat) (T:List Str) (n:Nat):Prop:=∃ st',o=some (.s (pname (nxt T n)),st')∧Mk st' mr tr T (nxt T n)∧Kp [mr,tr] [mr] st st'
theorem mk_inc {mr tr n m:Nat} {T:List Str} (h:Mk st mr tr T n) (hm:∀ j,m < j→n < j):Mk (st.setCe mr [.m tr,.i .i64 (m:Int)] mr) mr tr T m:=by
 obtain ⟨F,hF,hj⟩:=h.mp
 obtain ⟨t,ht⟩:=h.tab
 obtain ⟨es,k,h1,h2⟩:=hF
 exact ⟨⟨_,setCe_ce _ _ _⟩,h.mrl,h.trl,h.ne,⟨F,⟨es,k,by rw [setCe_get h.ne.symm]; exact h1,h2⟩,fun j hh=>hj j (hm j hh)⟩,⟨t,by rw [setCe_get (Ne.symm h.z1)]; exact ht⟩,h.z1,h.z2⟩
theorem fresh_call {mr tr n:Nat} {T:List Str} (h:Mk st mr tr T n) (hb:nxt T n < 1000000) {N:Nat} (hN:2000000≤N) :
  FreshRes ((Tw c N).call 40 [.p mr 0] st) st mr tr T n:=by
 obtain ⟨N,rfl⟩:∃ N',N=N'+1:=⟨N - 1,by omega⟩
 rw [body_out rfl Tryz.func40 rfl (Nat.le_of_ble_eq_true rfl)]; unfold bodyR
 have hgt:=nxt_gt T n
 simp [Tryz.f40,evC_loop]
 generalize hL:loopC _ _ _ _=L
 have lr:=loop_ret hL 0 (nxt T n - n) (fun i t s=>n+i < nxt T n∧tget t 0 = .p mr 0∧Mk s mr tr T (n+i)∧Kp [mr,tr] [mr] st s) (fun _ _=>False) (fun t s=>tget t 2 = .s (pname (nxt T n))∧Mk s mr tr T (nxt T n)∧Kp [mr,tr] [mr] st s) (by omega)
  ⟨by omega,by simp,h,.refl _ _ _⟩
  (by
   rintro i t s hi ⟨i1,i2,iM,iK⟩
   clear hL
   obtain ⟨al,hc⟩:=iM.ce
   have e1:wr .i64 (((n+i:Nat):Int)+1)=((n+i+1:Nat):Int):=by rw [wr_in (by omega) (by omega)]; rfl
   have hw:=wt_of hc 1 [.i .i64 ((n+i+1:Nat):Int)] (by simp) (by simp)
   have M1:=mk_inc iM (m:=n+i+1) (fun j hj=>by omega)
   have K0:Kp [mr] [mr] s (s.setCe mr [.m tr,.i .i64 ((n+i+1:Nat):Int)] mr):=.setCe (by simp) (by simp)
   have K1:Kp [mr,tr] [mr] s (s.setCe mr [.m tr,.i .i64 ((n+i+1:Nat):Int)] mr):=.setCe (by simp) (by simp)
   simp at hw
   obtain ⟨s1,hs1⟩:∃ s1,s.setCe mr [.m tr,.i .i64 ((n+i+1:Nat):Int)] mr=s1:=⟨_,rfl⟩
   rw [hs1] at M1 K1 K0
   simp at hs1
   obtain ⟨al1,hc1⟩:=M1.ce
   have it:=itoa_call (c:=c) (n:=N - 1) M1.tab (m:=n+i+1) (by omega)
   rw [show N - 1+1=N by omega] at it
   have il:=itoaL_len (m:=n+i+1) (by omega)
   have sa:=fun k=>str_add (P:=Tryz.prog) (ty:=9) (k:=k) (x:=[126,112]) (y:=itoaL (n+i+1)) (by simp; omega)
   have pn:[126,112]++itoaL (n+i+1)=pname (n+i+1):=rfl
   rw [pn] at sa
   obtain ⟨F,hF0,hj⟩:=iM.mp
   have hF:=hF0.keep K0 iM.trl (by simp [iM.ne.symm])
   have lk:=hF.get mp51 (pname (n+i+1))
   have rc0:rd s mr 1 1=some [.i .i64 ((n+i:Nat):Int)]:=by rw [rd_of hc]; rfl
   have rc1:rd s1 mr 1 1=some [.i .i64 ((n+i+1:Nat):Int)]:=by rw [rd_of hc1]; rfl
   have rc2:rd s1 mr 0 1=some [.m tr]:=by rw [rd_of hc1]; rfl
   simp at e1 rc0 rc1 it
   by_cases hx:n+i+1=nxt T n
   ·right
    have hnot:=nxt_not T n
    rw [← hx] at hnot
    obtain ⟨s2,u1,u2,u3,u4⟩:=hF.set mp51 (pname (n+i+1)) (.b true)
    rw [hj (n+i+1) (by omega),decide_eq_false hnot] at lk
    simp [i2,off53_0,off53_1,load_p inf3 ag3,load_p inf51 ag51,rc0,rc1,rc2,e1,store_p inf3 sz3,hw,hs1,callF_of Tryz.func59 rfl,it,sa,lk,u1]
    rw [hx] at u2 ⊢
    have M2:Mk s2 mr tr T (nxt T n):=by
     obtain ⟨t,ht⟩:=M1.tab
     refine ⟨⟨al1,?_⟩,by rw [u4]; exact M1.mrl,by rw [u4]; exact M1.trl,M1.ne,⟨_,u2,fun j hh=>?_⟩,⟨t,by rw [u3.get 0 (by have:=M1.mrl; omega) (by simp [Ne.symm M1.z2])]; exact ht⟩,M1.z1,M1.z2⟩
     ·rw [← hx]
      exact u3.ce hc1 M1.mrl M1.mrl (by simp [M1.ne]) (by simp)
     ·rw [upd_ne _ _ (fun e=>by have:=pname_inj e; omega)]
      exact hj j (by omega)
    exact ⟨_,_,⟨rfl,rfl⟩,by simp,M2,iK.trans (K1.trans ⟨u3.next,fun r h1 h2=>u3.get r h1 (fun hh=>h2 (by simp at hh; simp [hh])),fun g h1 h2=>u3.live g h1 (by simp)⟩)⟩
   ·left
    have hin:=nxt_in T n (n+i+1) (by omega) (by omega)
    rw [hj (n+i+1) (by omega),decide_eq_true hin] at lk
    simp [i2,off53_0,off53_1,load_p inf3 ag3,load_p inf51 ag51,rc0,rc1,rc2,e1,store_p inf3 sz3,hw,hs1,callF_of Tryz.func59 rfl,it,sa,lk]
    exact ⟨_,_,⟨rfl,rfl⟩,by omega,by simp [i2],M1,iK.trans K1⟩)
  (by
   rintro t s ⟨i1,-⟩
   omega)
 clear hL
 rcases lr with ⟨t1,s1,-,hT⟩ | ⟨t1,s1,rfl,h1,h2,h3⟩
 ·exact hT.elim
 ·refine ⟨s1,?_,h2,h3⟩
  simp [h1,resOf_eq,pmapO]
end
end Go.Proofs.YtbemeikjepjhoaaGreatDoor
