/-
  PrepStays answers true.
-/
import Derived.Test.YtbemeikjepjhoaaGreatDoorS47
namespace Go.Proofs.YtbemeikjepjhoaaGreatDoor
open Go.Ev
set_option maxRecDepth 100000
noncomputable section
variable {st : St}
theorem wt_call {S:Self} {g f:FuncId} {xs:List AV} (h:Nat.beq f g=false):(withTrue g S).call f xs st=S.call f xs st:=by
 show @Bool.rec (fun _=>Res) (S.call f xs st) _ (Nat.beq f g)=_
 rw [h]
theorem wt_self {S:Self} (g:FuncId):(withTrue g S).call g [] st=some (.b true,st):=by
 show @Bool.rec (fun _=>Res) _ (some (.b true,st)) (Nat.beq g g)=_
 rw [Nat.beq_refl]
def zP25:List AV:=[.sn,.sn]
theorem zQ25:zeroC Tryz.prog 25=some zP25:=by kernel_rfl
noncomputable def f3at:Nat→Code
 | 0=>Tryz.f3.body.getD .skip
 | k+1=>cTl (f3at k)
structure Two (s:St) (r:Nat) (x y:AV):Prop where
 all:rd s r 0 2=some [x,y]
 c0:rd s r 0 1=some [x]
 c1:rd s r 1 1=some [y]
theorem two_of {s:St} {r g:Nat} {al:List Nat} {x y:AV} (h:s.ce r=some ([x,y],g,al)):Two s r x y :=
 ⟨by rw [rd_of h]; rfl,by rw [rd_of h]; rfl,by rw [rd_of h]; rfl⟩
def RetT (o:Out):Prop:=∃ t s,o = .rt t s∧tget t 2 = .b true
section
variable {N7 N : Nat} {cv : AV} {ds : List ConD} {b : ExL}
set_option maxHeartbeats 1000000 in
theorem f3_loop1 {q:ExL} {s:St} {t:Tr AV} {r1 r3:Nat} (hv:IsCons cv ds) (hl:ds.length≤3000) (h1:tget t 1 = .p r1 0) (h3:tget t 3 = .p r3 0) (c1:Two s r1 cv (b.slice 8)) (c3:Two s r3 cv (q.slice 8)) (hN:4000≤N) :
  ∃ t',evC (cHd (f3at 7)) ⟨Tryz.prog,withTrue 4 (Tw (C7 N7) N),false,Tryz.f3.ntmps,N⟩ t s = .nx t' s∧tget t' 1 = .p r1 0∧tget t' 3 = .p r3 0:=by
 have ln:=fun st:St=>cons_len (st:=st) hv
 simp [f3at,cHd,cTl,Tryz.f3,evC_loop]
 generalize hL:loopC _ _ _ _=L
 obtain ⟨t1,s1,rfl,rfl,z1,z3⟩:=loop_use hL 0 ds.length (fun i t' s'=>s'=s∧tget t' 1 = .p r1 0∧tget t' 3 = .p r3 0∧tget t' 7 = .i .i64 (i:Int)) (fun t' s'=>s'=s∧tget t' 1 = .p r1 0∧tget t' 3 = .p r3 0) (by omega)
  ⟨rfl,by simp [h1],by simp [h3],by simp⟩
  (by
   rintro i t' s' hi ⟨rfl,i1,i3,i7⟩
   clear hL
   have e3:(i:Int) < (ds.length:Int):=by omega
   have e4:wr .i64 ((i:Int)+1)=((i+1:Nat):Int):=by rw [wr_in (by omega) (by omega)]; rfl
   obtain ⟨r,ix⟩:=con_at hv hi
   have ld:=fun st:St=>con_load (st:=st) ds[i] r
   simp [i1,i7,e3,off25_0,load_p inf22 ag22,c1.c0,ln,evC_draw]
   rw [drawC_nil (by kernel_rfl)]
   simp [i1,i3,i7,e4,off25_0,load_p inf22 ag22,c1.c0,c3.c0,ix,ld,con_ne,conEq_self]
   exact ⟨_,_,⟨rfl,rfl⟩,rfl,by simp [i1],by simp [i3],by simp⟩)
  (by
   rintro t' s' ⟨rfl,i1,i3,i7⟩
   clear hL
   simp [i1,i7,off25_0,load_p inf22 ag22,c1.c0,ln]
   exact ⟨_,_,⟨rfl,rfl⟩,rfl,by simp [i1],by simp [i3]⟩)
 clear hL
 exact ⟨t1,by simp,z1,z3⟩
set_option maxHeartbeats 1000000 in
theorem f3_loop2 {q:ExL} {s:St} {t:Tr AV} {r1 r3:Nat} (hb:b.Ty 1) (hq:q.Ty 1) (hl:b.len≤3000) (hn:q.names=b.names) (h1:tget t 1 = .p r1 0) (h3:tget t 3 = .p r3 0) (c1:Two s r1 cv (b.slice 8)) (c3:Two s r3 cv (q.slice 8)) (hN:4000≤N) :
  ∃ t',evC (cHd (f3at 8)) ⟨Tryz.prog,withTrue 4 (Tw (C7 N7) N),false,Tryz.f3.ntmps,N⟩ t s = .nx t' s:=by
 have ln:=fun st:St=>len_sl (st:=st) Tryz.underlying23 (b.slice_len 8) (b.slice_text 8)
 have hll:q.len=b.len:=by rw [← names_len,← names_len,hn]
 simp [f3at,cHd,cTl,Tryz.f3,evC_loop]
 generalize hL:loopC _ _ _ _=L
 obtain ⟨t1,s1,rfl,rfl⟩:=loop_use hL 2 b.list.length (fun i t' s'=>s'=s∧tget t' 1 = .p r1 0∧tget t' 3 = .p r3 0∧tget t' 8 = .i .i64 (i:Int)) (fun t' s'=>s'=s) (by rw [← ExL.len_eq]; omega)
  ⟨rfl,by simp [h1],by simp [h3],by simp⟩
  (by
   rintro i t' s' hi ⟨rfl,i1,i3,i7⟩
   clear hL
   have hil:i < b.len:=by rw [ExL.len_eq]; exact hi
   have hi':i < q.list.length:=by rw [← ExL.len_eq]; omega
   have hil':i < q.len:=by omega
   have e3:(i:Int) < (b.len:Int):=by omega
   have e4:wr .i64 ((i:Int)+1)=((i+1:Nat):Int):=by rw [wr_in (by omega) (by omega)]; rfl
   obtain ⟨x1,x2,x3⟩:=part_at hb.pre (show preLen 1+7=8 from rfl) hi
   have ix:=index_rs (P:=Tryz.prog) Tryz.underlying23 inf42 sz42 b.flat b.len i hil
   rw [← ExL.slice_rs hil,x2] at ix
   obtain ⟨y1,y2,y3⟩:=part_at hq.pre (show preLen 1+7=8 from rfl) hi'
   have iy:=index_rs (P:=Tryz.prog) Tryz.underlying23 inf42 sz42 q.flat q.len i hil'
   rw [← ExL.slice_rs hil',y2] at iy
   have hp:=pre1 (ExL.ty_list hb _ (List.getElem_mem hi)).1
   have hp':=pre1 (ExL.ty_list hq _ (List.getElem_mem hi')).1
   have hin:i < b.names.length:=by rw [names_len]; exact hil
   have hin':i < q.names.length:=by rw [names_len]; exact hil'
   have e1:txOf (b.list[i].1.headD .un)=b.names[i]:=by simp [ExL.names,bname]
   have e2:txOf (q.list[i].1.headD .un)=b.names[i]:=by
    have:q.names[i]=b.names[i]:=by simp [hn]
    rw [← this]; simp [ExL.names,bname]
   rw [e1] at hp
   rw [e2] at hp'
   rw [hp] at ix
   rw [hp'] at iy
   simp [i1,i7,e3,off25_1,load_p inf23 ag23,c1.c1,ln,evC_draw]
   rw [drawC_nil (by kernel_rfl)]
   simp [i1,i3,i7,e4,off25_1,load_p inf23 ag23,c1.c1,c3.c1,ix,iy,off42_0,load_rp inf9 ag9,str_ne]
   exact ⟨_,_,⟨rfl,rfl⟩,rfl,by simp [i1],by simp [i3],by simp⟩)
  (by
   rintro t' s' ⟨rfl,i1,i3,i7⟩
   clear hL
   simp [i1,i7,off25_1,load_p inf23 ag23,c1.c1,ln,ExL.len_eq])
 clear hL
 exact ⟨t1,by simp⟩
end
set_option maxHeartbeats 4000000 in
theorem law_run {cv:AV} {ds:List ConD} (hv:IsCons cv ds) {b:ExL} (hb:b.Ty 1) {N7 N:Nat} (hN7:10000000000000100000≤N7) (hN:b.size+10000000000000100000≤N) (hT:Tabled st) (h0:0 < st.next) :
  RetT (evC (f3at 0) ⟨Tryz.prog,withTrue 4 (Tw (C7 N7) N),false,Tryz.f3.ntmps,N⟩ (tmpsOf [.ag [cv,b.slice 8]] 0 .lf) st):=by
 have hcs:cv.cells=some [cv]∧isSc cv=true∧pureV cv=true:=⟨by rcases hv.1 with ⟨rfl,-⟩ | rfl <;> simp,by rcases hv.1 with ⟨rfl,-⟩ | rfl <;> rfl,hv.pure⟩
 have st_:∀ (i:Nat) (t:Tr AV) (s:St) (t':Tr AV) (s':St),evC (f3at i) ⟨Tryz.prog,withTrue 4 (Tw (C7 N7) N),false,Tryz.f3.ntmps,N⟩ t s=thenC (evC (cHd (f3at i)) ⟨Tryz.prog,withTrue 4 (Tw (C7 N7) N),false,Tryz.f3.ntmps,N⟩ t s) (evC (f3at (i+1)) ⟨Tryz.prog,withTrue 4 (Tw (C7 N7) N),false,Tryz.f3.ntmps,N⟩)→evC (cHd (f3at i)) ⟨Tryz.prog,withTrue 4 (Tw (C7 N7) N),false,Tryz.f3.ntmps,N⟩ t s = .nx t' s'→evC (f3at i) ⟨Tryz.prog,withTrue 4 (Tw (C7 N7) N),false,Tryz.f3.ntmps,N⟩ t s=evC (f3at (i+1)) ⟨Tryz.prog,withTrue 4 (Tw (C7 N7) N),false,Tryz.f3.ntmps,N⟩ t' s':=fun i t s t' s' h1 h2=>by rw [h1,h2,thenC_nx]
 have sr_:∀ (i:Nat) (t:Tr AV) (s:St),evC (f3at i) ⟨Tryz.prog,withTrue 4 (Tw (C7 N7) N),false,Tryz.f3.ntmps,N⟩ t s=thenC (evC (cHd (f3at i)) ⟨Tryz.prog,withTrue 4 (Tw (C7 N7) N),false,Tryz.f3.ntmps,N⟩ t s) (evC (f3at (i+1)) ⟨Tryz.prog,withTrue 4 (Tw (C7 N7) N),false,Tryz.f3.ntmps,N⟩)→RetT (evC (cHd (f3at i)) ⟨Tryz.prog,withTrue 4 (Tw (C7 N7) N),false,Tryz.f3.ntmps,N⟩ t s)→RetT (evC (f3at i) ⟨Tryz.prog,withTrue 4 (Tw (C7 N7) N),false,Tryz.f3.ntmps,N⟩ t s):=fun i t s h1 ⟨t',s',h2,h3⟩=>by rw [h1,h2]; exact ⟨t',s',rfl,h3⟩
 have ncl:=fun {f:FuncId} (h:Nat.beq f 4=false) (xs:List AV) (st:St)=>wt_call (S:=Tw (C7 N7) N) (st:=st) (xs:=xs) h
 have hbl:=b.len_le
 have c0:=newCe_ce (st:=st) [cv,b.slice 8]
 have l0:st.next < (st.newCe [cv,b.slice 8]).next:=Nat.lt_succ_self _
 have k0:Kp [] [] st (st.newCe [cv,b.slice 8]):=.newCe _ _ _
 obtain ⟨s1,hs1⟩:∃ s,st.newCe [cv,b.slice 8]=s:=⟨_,rfl⟩
 obtain ⟨r1,hr1⟩:∃ r,st.next=r:=⟨_,rfl⟩
 rw [hs1] at c0 l0 k0
 have T1:Tabled s1:=by
  obtain ⟨ty,ht⟩:=hT
  exact ⟨ty,by rw [k0.get 0 h0 (by simp)]; exact ht⟩
 have two1:∀ {s:St},Kp [] [] s1 s→Two s r1 cv (b.slice 8):=fun kk=>by
  rw [← hr1]
  exact two_of (kk.ce c0 l0 l0 (by simp) (by simp))
 have a0:∃ t,evC (cHd (f3at 0)) ⟨Tryz.prog,withTrue 4 (Tw (C7 N7) N),false,Tryz.f3.ntmps,N⟩ (tmpsOf [.ag [cv,b.slice 8]] 0 .lf) st = .nx t s1∧tget t 1 = .p r1 0:=by
  simp [f3at,cHd,Tryz.f3,hs1,hr1]
 obtain ⟨t0,a0,b1⟩:=a0
 rw [st_ 0 _ _ _ _ rfl a0]
 have lv:=fun st:St=>wt_self (S:=Tw (C7 N7) N) (st:=st) 4
 have a1:∃ t,evC (cHd (f3at 1)) ⟨Tryz.prog,withTrue 4 (Tw (C7 N7) N),false,Tryz.f3.ntmps,N⟩ t0 s1 = .nx t s1∧tget t 1 = .p r1 0:=by
  simp [f3at,cHd,cTl,Tryz.f3,callF_of Tryz.func4 rfl,lv,b1]
 obtain ⟨t1,a1,b1⟩:=a1
 rw [st_ 1 _ _ _ _ rfl a1]
 obtain ⟨m,s2,x1,x2,x3⟩:=exprs_call (c:=C7 N7) (st:=s1) hcs hb (N:=N) (by omega)
 have x1':(withTrue 4 (Tw (C7 N7) N)).call 5 [.ag [cv,b.slice 8],.i .i64 3000] s1=some (.i .i64 (m:Int),s2):=(ncl rfl _ _).trans x1
 have ln:=fun st:St=>cons_len (st:=st) hv
 have lb:=fun st:St=>len_sl (st:=st) Tryz.underlying23 (b.slice_len 8) (b.slice_text 8)
 have w1:=two1 (.refl _ _ _)
 have w2:=two1 x2
 by_cases hm:m≤3000
 case neg =>
  have e1:(3000:Int) < (m:Int):=by omega
  refine sr_ 2 _ _ rfl ?_
  unfold RetT
  simp [f3at,cHd,cTl,Tryz.f3,b1,load_ag inf25 ag25,sz25,w1.all,callF_of Tryz.func5 rfl,x1',e1]
 have e1:¬ (3000:Int) < (m:Int):=by omega
 have hsz:=x3 hm
 by_cases hd:ds.length≤3000
 case neg =>
  have e2:(3000:Int) < (ds.length:Int):=by omega
  refine sr_ 2 _ _ rfl ?_
  unfold RetT
  simp [f3at,cHd,cTl,Tryz.f3,b1,load_ag inf25 ag25,sz25,w1.all,callF_of Tryz.func5 rfl,x1',e1,off25_0,load_p inf22 ag22,w2.c0,ln,e2]
 have e2:¬ (3000:Int) < (ds.length:Int):=by omega
 have e3:¬ (3000:Int) < (b.len:Int):=by omega
 have a2:∃ t,evC (cHd (f3at 2)) ⟨Tryz.prog,withTrue 4 (Tw (C7 N7) N),false,Tryz.f3.ntmps,N⟩ t1 s1 = .nx t s2∧tget t 1 = .p r1 0:=by
  simp [f3at,cHd,cTl,Tryz.f3,b1,load_ag inf25 ag25,sz25,w1.all,callF_of Tryz.func5 rfl,x1',e1,off25_0,off25_1,load_p inf22 ag22,load_p inf23 ag23,w2.c0,w2.c1,ln,lb,e2,e3]
 obtain ⟨t2,a2,b1⟩:=a2
 rw [st_ 2 _ _ _ _ rfl a2]
 obtain ⟨q,hq⟩:∃ q,pbOf b=q:=⟨_,rfl⟩
 obtain ⟨r,hr⟩:∃ r,pbOf q=r:=⟨_,rfl⟩
 have tq:q.Ty 1:=by rw [← hq]; exact pb_ty hb
 have tr:r.Ty 1:=by rw [← hr]; exact pb_ty tq
 have sq0:q.size≤4 * b.size:=by rw [← hq]; exact pb_size b
 have sr0:r.size≤4 * q.size:=by rw [← hr]; exact pb_size q
 obtain ⟨g1,C1,C1f,C1t⟩:=chk_is hv (by omega) hb (by omega) (N:=N7) (by omega)
 obtain ⟨g2,C2,C2f,C2t⟩:=chk_is hv (by omega) tq (by omega) (N:=N7) (by omega)
 obtain ⟨g3,C3,C3f,C3t⟩:=chk_is hv (by omega) tr (by omega) (N:=N7) (by omega)
 have chk:∀ {l:ExL} {e:Int},ChkIs (C7 N7) cv l e→l.Ty 1→∀ st:St,(withTrue 4 (Tw (C7 N7) N)).call 7 [.ag [cv,l.slice 8]] st=some (.i .i64 e,st):=fun h hl st =>
  (ncl rfl _ _).trans (h st _ N (by omega) (.pure (by simp [pureV,pureL,hcs.2.2,ExL.slice_pure hl 8])))
 have wh:g1=0→Whole N7 cv ds b:=fun h=>by
  have hf:fitsP b=true:=by
   cases hf:fitsP b with
   | true=>rfl
   | false=>have:=C1f hf; omega
  exact whole hv (by omega) (by omega) ((C1t hf).1 h) (by omega)
 have g23:g1=0→g2≠0→g2=3:=fun h h2=>by
  have W:=wh h
  cases hf:fitsP q with
  | false=>exact C2f hf
  | true =>
   have:=W.okq
   rw [hq] at this
   exact absurd ((C2t hf).2 this) h2
 obtain ⟨s3,y1,y2⟩:=prep6_call (c:=C7 N7) (st:=s2) (e2:=g2) hv (by omega) hb (by omega) (by
  obtain ⟨ty,ht⟩:=T1
  exact ⟨ty,by rw [x2.get 0 (by omega) (by simp)]; exact ht⟩) (by have:=x2.next; omega) C1 (fun h=>by rw [hq]; exact C2) (fun h=>(wh h).potb) (N:=N) (by omega)
 have y1':=(ncl (f:=6) rfl [.ag [cv,b.slice 8]] s2).trans y1
 rw [hq] at y1'
 have K3:=x2.trans y2
 have w3:=two1 K3
 have ck1:=chk C1 hb
 have zz:zeroC Tryz.prog 25=some zP25:=zQ25
 by_cases hg1:g1=0
 case neg =>
  rw [if_pos hg1,if_pos hg1] at y1'
  obtain ⟨s4,u1,u2,u3,u4⟩:=alloc_store (s:=s3) (z:=zP25) (cells:=[.sn,.sn]) rfl rfl
  have w4:=two1 (K3.trans u3)
  have a3:∃ t,evC (cHd (f3at 3)) ⟨Tryz.prog,withTrue 4 (Tw (C7 N7) N),false,Tryz.f3.ntmps,N⟩ t2 s2 = .nx t s4∧tget t 1 = .p r1 0∧tget t 4 = .i .i64 g1:=by
   simp [f3at,cHd,cTl,Tryz.f3,b1,load_ag inf25 ag25,sz25,w2.all,callF_of Tryz.func6 rfl,y1',opH_alloc,zz,store_ag inf25 sz25,u1]
  obtain ⟨t3,a3,b1,b4⟩:=a3
  rw [st_ 3 _ _ _ _ rfl a3]
  refine sr_ 4 _ _ rfl ?_
  unfold RetT
  simp [f3at,cHd,cTl,Tryz.f3,b1,b4,load_ag inf25 ag25,sz25,w4.all,callF_of Tryz.func7 rfl,ck1,hg1]
 have W:=wh hg1
 have m1:¬ (g1≠0):=fun h=>h hg1
 rw [if_neg m1,if_neg m1] at y1'
 by_cases hg2:g2=0
 case neg =>
  have h3:=g23 hg1 hg2
  rw [if_pos hg2] at y1'
  obtain ⟨s4,u1,u2,u3,u4⟩:=alloc_store (s:=s3) (z:=zP25) (cells:=[.sn,.sn]) rfl rfl
  have w4:=two1 (K3.trans u3)
  have a3:∃ t,evC (cHd (f3at 3)) ⟨Tryz.prog,withTrue 4 (Tw (C7 N7) N),false,Tryz.f3.ntmps,N⟩ t2 s2 = .nx t s4∧tget t 1 = .p r1 0∧tget t 4 = .i .i64 g2:=by
   simp [f3at,cHd,cTl,Tryz.f3,b1,load_ag inf25 ag25,sz25,w2.all,callF_of Tryz.func6 rfl,y1',opH_alloc,zz,store_ag inf25 sz25,u1]
  obtain ⟨t3,a3,b1,b4⟩:=a3
  rw [st_ 3 _ _ _ _ rfl a3]
  refine sr_ 4 _ _ rfl ?_
  unfold RetT
  simp [f3at,cHd,cTl,Tryz.f3,b1,b4,load_ag inf25 ag25,sz25,w4.all,callF_of Tryz.func7 rfl,ck1,hg1,h3]
 have m2:¬ (g2≠0):=fun h=>h hg2
 rw [if_neg m2] at y1'
 obtain ⟨s4,u1,u2,u3,u4⟩:=alloc_store (s:=s3) (z:=zP25) (cells:=[cv,q.slice 8]) rfl (by
  simp [hcs.2.1,ExL.slice_sc])
 have K4:=K3.trans u3
 have w4:=two1 K4
 have v4:=two_of u2
 have a3:∃ t,evC (cHd (f3at 3)) ⟨Tryz.prog,withTrue 4 (Tw (C7 N7) N),false,Tryz.f3.ntmps,N⟩ t2 s2 = .nx t s4∧tget t 1 = .p r1 0∧tget t 4 = .i .i64 0∧tget t 3 = .p s3.next 0:=by
  simp [f3at,cHd,cTl,Tryz.f3,b1,load_ag inf25 ag25,sz25,w2.all,callF_of Tryz.func6 rfl,y1',opH_alloc,zz,store_ag inf25 sz25,u1,hg2]
 obtain ⟨t3,a3,b1,b4,b3⟩:=a3
 rw [st_ 3 _ _ _ _ rfl a3]
 have a4:∃ t,evC (cHd (f3at 4)) ⟨Tryz.prog,withTrue 4 (Tw (C7 N7) N),false,Tryz.f3.ntmps,N⟩ t3 s4 = .nx t s4∧tget t 1 = .p r1 0∧tget t 3 = .p s3.next 0:=by
  simp [f3at,cHd,cTl,Tryz.f3,b1,b3,b4,load_ag inf25 ag25,sz25,w4.all,callF_of Tryz.func7 rfl,ck1,hg1]
 obtain ⟨t4,a4,b1,b3⟩:=a4
 rw [st_ 4 _ _ _ _ rfl a4]
 have fq:fitsP q=true:=by
  cases hf:fitsP q with
  | true=>rfl
  | false=>have:=C2f hf; omega
 have fr:fitsP r=true:=by
  have:=W.fit
  rw [hq,hr] at this
  rw [this]; exact fq
 have hg3:g3=0:=by
  refine (C3t fr).2 ?_
  have:=W.okr
  rwa [hq,hr] at this
 have n4:=K4.next
 have n3:=K3.next
 obtain ⟨s5,z1,z2⟩:=prep6_call (c:=C7 N7) (st:=s4) (e2:=g3) hv (by omega) tq (by omega) (by
  obtain ⟨ty,ht⟩:=T1
  exact ⟨ty,by rw [K4.get 0 (by omega) (by simp)]; exact ht⟩) (by omega) C2 (fun h=>by rw [hr]; exact C3) (fun h=>by have:=W.potq; rwa [hq] at this) (N:=N) (by omega)
 have z1':=(ncl (f:=6) rfl [.ag [cv,q.slice 8]] s4).trans z1
 have m3:¬ (g3≠0):=fun h=>h hg3
 rw [hr,if_neg m2,if_neg m2,if_neg m3,hg3] at z1'
 have n5:=z2.next
 obtain ⟨s6,p1,p2,p3,p4⟩:=alloc_store (s:=s5) (z:=zP25) (cells:=[cv,r.slice 8]) rfl (by
  simp [hcs.2.1,ExL.slice_sc])
 have K6:=(K4.trans z2).trans p3
 have w6:=two1 K6
 have v6:=two_of ((z2.trans p3).ce u2 u4 u4 (by simp) (by simp))
 have x6:=two_of p2
 have a5:∃ t,evC (cHd (f3at 5)) ⟨Tryz.prog,withTrue 4 (Tw (C7 N7) N),false,Tryz.f3.ntmps,N⟩ t4 s4 = .nx t s6∧tget t 1 = .p r1 0∧tget t 3 = .p s3.next 0∧tget t 5 = .p s5.next 0∧tget t 6 = .i .i64 0:=by
  simp [f3at,cHd,cTl,Tryz.f3,b1,b3,load_ag inf25 ag25,sz25,v4.all,callF_of Tryz.func6 rfl,z1',opH_alloc,zz,store_ag inf25 sz25,p1]
 obtain ⟨t5,a5,b1,b3,b5,b6⟩:=a5
 rw [st_ 5 _ _ _ _ rfl a5]
 have nq:q.names=b.names:=by have:=W.nq; rwa [hq] at this
 have nr:r.names=q.names:=by have:=W.nr; rwa [hq,hr] at this
 have sm:SameA [] q r:=by have:=W.same; rwa [hq,hr] at this
 have wq:q.wt≤1000000:=by have:=W.wq; rwa [hq] at this
 have nmq:nrmK strF q=true:=by have:=W.nrm; rwa [hq] at this
 have onq:(q.names++q.bnd0).Nodup:=by have:=W.once; rwa [hq] at this
 have few:q.bnd0.length≤1000000:=by have:=W.few; rwa [hq] at this
 have lq:q.len=b.len:=by rw [← names_len,← names_len,nq]
 rw [hg2] at C2
 have ck2:=chk C2 tq
 have pr:=fun st:St=>(ncl (f:=8) rfl [.ag [cv,q.slice 8]] st).trans (prepared_call (c:=C7 N7) (st:=st) hcs tq (by omega) C2 nmq onq few (N:=N) (by omega) (.inr (by decide)))
 have sp:=fun st:St=>(ncl (f:=9) rfl [.ag [cv,q.slice 8],.ag [cv,r.slice 8]] st).trans (sameProg_call (c:=C7 N7) (st:=st) hv (by omega) tq tr (by omega) (by omega) fq fr nr.symm sm wq (N:=N) (by omega))
 have lq':=fun st:St=>len_sl (st:=st) Tryz.underlying23 (q.slice_len 8) (q.slice_text 8)
 rw [lq] at lq'
 have a6:∃ t,evC (cHd (f3at 6)) ⟨Tryz.prog,withTrue 4 (Tw (C7 N7) N),false,Tryz.f3.ntmps,N⟩ t5 s6 = .nx t s6∧tget t 1 = .p r1 0∧tget t 3 = .p s3.next 0:=by
  simp [f3at,cHd,cTl,Tryz.f3,b1,b3,b5,b6,load_ag inf25 ag25,sz25,v6.all,x6.all,off25_0,off25_1,load_p inf22 ag22,load_p inf23 ag23,w6.c0,w6.c1,v6.c0,v6.c1,ln,lb,lq',callF_of Tryz.func7 rfl,callF_of Tryz.func8 rfl,callF_of Tryz.func9 rfl,ck2,pr,sp]
 obtain ⟨t6,a6,b1,b3⟩:=a6
 rw [st_ 6 _ _ _ _ rfl a6]
 obtain ⟨t7,a7,b1,b3⟩:=f3_loop1 (N7:=N7) (b:=b) hv hd b1 b3 w6 v6 (N:=N) (by omega)
 rw [st_ 7 _ _ _ _ rfl a7]
 obtain ⟨t8,a8⟩:=f3_loop2 (N7:=N7) hb tq (by omega) nq b1 b3 w6 v6 (N:=N) (by omega)
 rw [st_ 8 _ _ _ _ rfl a8]
 unfold RetT
 simp [f3at,cTl,Tryz.f3]
theorem law_body {cv:AV} {ds:List ConD} (hv:IsCons cv ds) {b:ExL} (hb:b.Ty 1) (hT:Tabled st) (h0:0 < st.next) :
  ∃ st',evBody Tryz.prog (withTrue 4 (Tw (C7 10000000000000100000) (b.size+10000000000000100000))) (b.size+10000000000000100000) 3 [.ag [cv,b.slice 8]] st=some (.b true,st'):=by
 obtain ⟨t,s,h1,h2⟩:=law_run (st:=st) hv hb (N7:=10000000000000100000) (N:=b.size+10000000000000100000) (Nat.le_refl _) (Nat.le_refl _) hT h0
 refine ⟨s,?_⟩
 rw [body_at Tryz.func3 rfl (Nat.le_of_ble_eq_true rfl)]
 show endF Tryz.prog Tryz.f3.results.toList (evC (f3at 0) _ _ _)=_
 rw [h1]
 simp [Tryz.f3,h2,resOf_eq,pmapO]
end
end Go.Proofs.YtbemeikjepjhoaaGreatDoor
