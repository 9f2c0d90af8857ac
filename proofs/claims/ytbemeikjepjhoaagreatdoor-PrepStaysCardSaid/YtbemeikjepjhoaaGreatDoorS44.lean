/-
  The preparation of a program, whole. · The bound names of an expression: what bound answers.
-/
import Derived.Test.YtbemeikjepjhoaaGreatDoorS43
namespace Go.Proofs.YtbemeikjepjhoaaGreatDoor
open Go.Ev
set_option maxRecDepth 100000
noncomputable section
variable {c : Option Self} {st : St}
def S0':Sco:=fun _=>none
def pbOf (b:ExL):ExL:=(prepB b.names b S0' b.names 0).1
structure L6 (s0 s':St) (t':Tr AV) (r1 r2 mr tr r8 hi:Nat) (T:List Str) (n:Nat) (cv v v4:AV):Prop where
 t1:tget t' 1 = .p r1 0
 t2:tget t' 2 = .p r2 0
 t5:tget t' 5 = .p mr 0
 t8:tget t' 8 = .p r8 0
 co:∃ al,s'.ce r8=some ([v,v4],r8,al)
 M:Mk s' mr tr T n
 K:Kp [mr,tr,r8] [mr,r8] s0 s'
def B6 (s0:St) (r1 r2 mr tr r8 hi:Nat) (cv v:AV) (b:ExL) (i:Nat) (t':Tr AV) (s':St):Prop :=
 ∃ v4 ni,L6 s0 s' t' r1 r2 mr tr r8 hi b.names ni cv v v4∧BAt s' s0.next b.names S0' b b.names 0 v4 i ni
set_option maxHeartbeats 1000000 in
theorem f6_binds {s:St} {t:Tr AV} {r1 r2 mr tr r8 hi:Nat} {cv v:AV} {b:ExL} (hb:b.Ty 1) (hs:b.size≤1000000) (h:F6 st s t r1 r2 cv (b.slice 8)) (h5:tget t 5 = .p mr 0) (h8:tget t 8 = .p r8 0) (hc8:∃ al,s.ce r8=some ([v,.sn],r8,al)) (hM:Mk s mr tr b.names 0)
  (hr:r2 < tr∧tr < mr∧mr < r8∧r8 < s.next) (hvc:v.cells=some [v]∧isSc v=true) (hp:pot b.names 0+b.wt < 1000000) {N:Nat} (hN:b.size+4000000≤N) :
  ∃ t' s' v4,evC (cHd (f6at 5)) ⟨Tryz.prog,Tw c N,false,Tryz.f6.ntmps,N⟩ t s = .nx t' s'∧F6 st s' t' r1 r2 cv (b.slice 8)∧tget t' 8 = .p r8 0∧(∃ al,s'.ce r8=some ([v,v4],r8,al))∧GrO s' s.next 8 v4 (pbOf b).len (pbOf b).flat∧(∃ L,pbOf b=ofL L)∧Kp [mr,tr,r8] [mr,r8] s s':=by
 obtain ⟨l1,l2,l3⟩:=h.lo
 obtain ⟨a1,c1⟩:=h.c1
 have hbl:=b.len_le
 have rb:rd s r1 1 1=some [b.slice 8]:=by rw [rd_of c1]; rfl
 have ln:=fun st:St=>len_sl (st:=st) Tryz.underlying23 (b.slice_len 8) (b.slice_text 8)
 have key:∃ t' s',evC (cHd (f6at 5)) ⟨Tryz.prog,Tw c N,false,Tryz.f6.ntmps,N⟩ t s = .nx t' s'∧B6 s r1 r2 mr tr r8 hi cv v b b.list.length t' s':=by
  simp [f6at,cHd,cTl,Tryz.f6,h.t1,off25_1,load_p inf23 ag23,rb,ln,evC_loop]
  generalize hL:loopC _ _ _ _=L
  obtain ⟨t1,s1,rfl,p0⟩:=loop_use hL 2 b.list.length
   (fun i t' s'=>tget t' 40=b.slice 8∧tget t' 41 = .i .i64 (b.len:Int)∧tget t' 42 = .i .i64 (i:Int)∧B6 s r1 r2 mr tr r8 hi cv v b i t' s')
   (fun t' s'=>B6 s r1 r2 mr tr r8 hi cv v b b.list.length t' s') (by rw [← ExL.len_eq]; omega)
   ⟨by simp,by simp,by simp,.sn,0,⟨by simp [h.t1],by simp [h.t2],by simp [h5],by simp [h8],hc8,hM,.refl _ _ _⟩,[],rfl,⟨none,fun _=>rfl,.nil _ _ _⟩,by simp [appL,dropL],by simp [dropL]⟩
   (by
    rintro i t' s' hi' ⟨i40,i41,i42,v4,ni,iL,acc,q1,⟨g,q0,qO⟩,q3,q4⟩
    clear hL
    have hil:i < b.len:=by rw [ExL.len_eq]; exact hi'
    have hin:i < b.names.length:=by rw [names_len]; exact hil
    have e3:(i:Int) < (b.len:Int):=by omega
    have e4:wr .i64 ((i:Int)+1)=((i+1:Nat):Int):=by rw [wr_in (by omega) (by omega)]; rfl
    obtain ⟨r,r1',r2'⟩:=part_at hb.pre (show preLen 1+7=8 from rfl) hi'
    have ix:=index_rs (P:=Tryz.prog) Tryz.underlying23 inf42 sz42 b.flat b.len i hil
    rw [← ExL.slice_rs hil,r1',← List.append_assoc] at ix
    have hmem:=List.getElem_mem hi'
    have hT:=ExL.ty_list hb _ hmem
    have hsz':=ExL.size_mem hmem
    have hpr:=pre1 hT.1
    have hnm:b.names[i]=txOf (b.list[i].1.headD .un):=by simp [ExL.names,bname]
    rw [← hnm] at hpr
    have hce:(b.list[i].1++b.list[i].2.cells).length=8:=by rw [List.length_append,r2',Ex.cells_len]; rfl
    have hsc:allSc (b.list[i].1++b.list[i].2.cells)=true:=allSc_append hT.1.sc (Ex.cells_sc hT.2.wf)
    have ld:=fun st:St=>load_ms (st:=st) (r:=r) inf42 ag42 sz42 hce
    have hhd:cut (b.list[i].1++b.list[i].2.cells) 0 1=some [.s b.names[i]]:=by rw [hpr]; rfl
    have hcut:cut (b.list[i].1++b.list[i].2.cells) 1 7=some b.list[i].2.cells:=by
     rw [hpr]
     have:=takeN_app b.list[i].2.cells []
     rw [Ex.cells_len,List.append_nil] at this
     simpa using this
    generalize b.list[i].1++b.list[i].2.cells=cl at *
    obtain ⟨s2,u1,u2,u3,u4⟩:=alloc_store (s:=s') (z:=zL42) hce hsc
    obtain ⟨al3,co⟩:=iL.co
    have n1:=iL.K.next
    have n2:=u3.next
    have co2:=u3.ce co (by omega) (by omega) (by simp) (by simp)
    have rO2:rd s2 r8 1 1=some [v4]:=by rw [rd_of co2]; rfl
    have rx:rd s2 s'.next 1 7=some b.list[i].2.cells:=by rw [rd_of u2,hcut]
    have rn:rd s2 s'.next 0 1=some [.s b.names[i]]:=by rw [rd_of u2,hhd]
    rw [dropL_at b i hi'] at q3 q4
    simp only [prepB,ExL.wt] at q3 q4
    have qpot:=prepE_pot b.names b.list[i].2 S0' ni
    obtain ⟨s3,f1,f2,f3⟩:=prep_call (c:=c) b.list[i].2 hT.2 (by omega) s2 mr tr ni b.names .mn S0' N (iL.M.keep u3 (by simp) (by simp) (by simp) (by simp)) (.inl ⟨rfl,fun _=>rfl⟩) (by omega) (by omega)
    obtain ⟨R,hR⟩:∃ R,prepE b.names b.list[i].2 S0' ni=R:=⟨_,rfl⟩
    have tR:=prepE_ty b.names b.list[i].2 S0' ni hT.2
    rw [hR] at f1 f2 q3 qpot tR
    have cR:=R.1.cells_len
    have n3:=f3.next
    have co3:=f3.ce co2 (by omega) (by omega) (by simp; omega) (by simp; omega)
    have rO3:rd s3 r8 1 1=some [v4]:=by rw [rd_of co3]; rfl
    have u2':=f3.ce u2 (by omega) (by omega) (by simp; omega) (by simp; omega)
    have rn3:rd s3 s'.next 0 1=some [.s b.names[i]]:=by rw [rd_of u2',hhd]
    have bo:=fun (t:Tr AV) (h1:evO t (.tmp 49) = .s b.names[i]) (h2:evO t (.tmp 53) = .ag R.1.cells)=>build42 (S:=Tw c N) (st:=s3) (t:=t) h1 h2 cR
    have bo2:=fun (t:Tr AV) (h:evO t (.tmp 54) = .ag (.s b.names[i] :: R.1.cells))=>build_one (S:=Tw c N) (t:=t) (st:=s3) gr23 (x:=.tmp 54) (cs:=.s b.names[i] :: R.1.cells) (by rw [h]; exact cells_ag _) (by simp [cR])
    have sR:allSc (.s b.names[i] :: R.1.cells)=true:=by simp [Ex.cells_sc tR.wf]
    have O3:=(qO.keep u3 (by simp) (by simp)).keep f3 (by simp; omega) (fun x hx=>.inl (by simp at hx; omega))
    obtain ⟨v',g',s4,w1,w2,w3,w4⟩:=O3.app1 gr23 (new:=.s b.names[i] :: R.1.cells) sR (by simp [cR]) (by omega) (by omega)
    have hgl:=qO.g_lt
    have hB4:∀ x,x ∈ g.toList→s.next≤x:=fun x hx=>(hgl x (by simpa using hx)).1
    have n4:=w3.next
    have co4:=w3.ce co3 (by omega) (by omega) (by simp) (fun hh=>by have:=hB4 _ hh; omega)
    have hw:=wt_of co4 1 [v'] (by simp) (by simp [w2.sc])
    simp at hw
    have k5:Kp [r8] [r8] s4 (s4.setCe r8 [v,v'] r8):=.setCe (by simp) (by simp)
    have c5:(s4.setCe r8 [v,v'] r8).ce r8=some ([v,v'],r8,[r8]):=setCe_ce _ _ _
    obtain ⟨s5,hs5⟩:∃ x,s4.setCe r8 [v,v'] r8=x:=⟨_,rfl⟩
    rw [hs5] at hw k5 c5
    have hz:=iL.M.z1
    have M5:=((f2.keep w3 (by simp) (by simp) (fun hh=>by have:=hB4 _ hh; omega) (by simp)).keep k5 (by simp; omega) (by simp; omega) (by simp; omega) (by simp; omega))
    have K5:=kp_add (kp_add (kp_add (kp_add iL.K u3 (by simp) (by simp)) f3 (by simp) (by simp)) w3 (by simp) (fun x hx=>.inr (hB4 x hx))) k5 (by simp) (by simp)
    have G5:GrO s5 s.next 8 v' (i+1) (ofL (acc++[([.s b.names[i]],R.1)])).flat:=by
     refine ⟨g',fun hh=>by omega,?_⟩
     rw [ofL_snoc]
     have hg':g'≠some r8:=by
      rcases w4 with rfl | ⟨x,rfl,hx⟩
      ·exact fun hh=>by have:=hgl r8 hh; omega
      ·intro hh; cases hh; omega
     exact w2.keep k5 (by simp; omega) (fun x hx=>.inr (by simp at hx; subst hx; exact hg'))
    have zz:zeroC Tryz.prog 42=some zL42:=zC42
    simp [i40,i41,i42,e3,ix,ld,opH_alloc,zz,store_ag inf42 sz42,hce,u1,evC_draw]
    rw [drawC_eq (fl:=[(1,8),(3,8)])]
    ·simp [i42,iL.t5,iL.t8,e4,off25_1,off42_0,off42_1,load_p inf23 ag23,rO2,load_p inf9 ag9,rn,load_ag inf40 ag40,sz40,rx,callF_of Tryz.func18 rfl,f1,bo,bo2,w1,store_p inf23 sz23,w2.cells,hw]
     refine ⟨_,_,⟨rfl,rfl⟩,by simp [i40],by simp [i41],by simp,v',R.2,⟨by simp [iL.t1],by simp [iL.t2],by simp [iL.t5],by simp [iL.t8],⟨_,c5⟩,M5,K5⟩,acc++[([.s b.names[i]],R.1)],by simp [q1],G5,?_,by omega⟩
     rw [q3,appL_app,List.tail_drop]
     have hh:(b.names.drop i).headD []=b.names[i]:=by rw [List.drop_eq_getElem_cons hin]; rfl
     rw [hh]
     rfl
    ·kernel_rfl
    ·intro R' hR'
     simp [iL.t5,iL.t8,off25_1,off42_0,off42_1,load_p inf23 ag23,rO2,load_p inf9 ag9,rn,load_ag inf40 ag40,sz40,rx,callF_of Tryz.func18 rfl,f1,bo,bo2,w1,store_p inf23 sz23,w2.cells,hw] at hR'
     subst hR'
     simp only [List.all_cons,List.all_nil,Bool.and_true,Bool.and_eq_true]
     refine ⟨recheck_eq rfl rfl rfl (s:=s3) ?_,recheck_eq rfl rfl rfl (s:=s3) ?_⟩
     ·simp [load_p inf23 ag23,rO3]
     ·simp [load_p inf9 ag9,rn3])
   (by
    rintro t' s' ⟨i40,i41,i42,v4,ni,iL,iB⟩
    clear hL
    simp [i41,i42,ExL.len_eq]
    exact ⟨_,_,⟨rfl,rfl⟩,v4,ni,⟨by simp [iL.t1],by simp [iL.t2],by simp [iL.t5],by simp [iL.t8],iL.co,iL.M,iL.K⟩,iB⟩)
  clear hL
  exact ⟨t1,s1,by simp,p0⟩
 obtain ⟨t',s',q1,v4,ni,q2,acc,a1',a2,a4,a5⟩:=key
 obtain ⟨f,hf⟩:=dropL_end b
 rw [hf] at a4
 simp only [prepB,appL_nil] at a4
 have hpb:pbOf b=ofL acc:=by unfold pbOf; rw [a4]
 refine ⟨t',s',v4,q1,h.keep q2.K (by simp; omega) (by simp; omega) q2.t1 q2.t2,q2.t8,q2.co,?_,⟨acc,hpb⟩,q2.K⟩
 rw [hpb,ofL_len,a1']
 exact a2
def Prep6 (o:Option (AV × St)) (st:St) (a:AV) (e:Int):Prop:=∃ s',o=some (.tu [a,.i .i64 e],s')∧Kp [] [] st s'
theorem f6_res {t':Tr AV} {s':St} {r2:Nat} {x y:AV} {e:Int} {al:List Nat} (h2:tget t' 2 = .p r2 0) (h3:tget t' 3 = .i .i64 e) (hc:s'.ce r2=some ([x,y],r2,al)):endF Tryz.prog Tryz.f6.results.toList (.rt t' s')=some (.tu [.ag [x,y],.i .i64 e],s'):=by
 have r:rd s' r2 0 2=some [x,y]:=by rw [rd_of hc]; rfl
 have r1:resOne Tryz.prog t' s' (.cell 2 25)=some (.ag [x,y]):=by
  rw [resOne_cell h2 (by simp),load_ag inf25 ag25,sz25,r]; rfl
 simp [Tryz.f6,resOf_eq,pmapO,r1,h3]
theorem prep6_call {cv:AV} {ds:List ConD} {b:ExL} {e1 e2:Int} (hv:IsCons cv ds) (hl:ds.length≤1000000) (hb:b.Ty 1) (hs:b.size≤1000000) (hT:Tabled st) (h0:0 < st.next) (hC1:ChkIs c cv b e1) (hC2:e1=0→ChkIs c cv (pbOf b) e2) (hp:e1=0→pot b.names 0+b.wt < 1000000) {N:Nat} (hN:b.size+5000000≤N) :
  Prep6 ((Tw c N).call 6 [.ag [cv,b.slice 8]] st) st (if e1≠0 then .ag [.sn,.sn] else if e2≠0 then .ag [.sn,.sn] else .ag [cv,(pbOf b).slice 8]) (if e1≠0 then e1 else e2):=by
 obtain ⟨N,rfl⟩:∃ N',N=N'+1:=⟨N - 1,by omega⟩
 have hbl:=b.len_le
 have hcs:cv.cells=some [cv]∧isSc cv=true∧pureV cv=true:=⟨by rcases hv.1 with ⟨rfl,-⟩ | rfl <;> simp,by rcases hv.1 with ⟨rfl,-⟩ | rfl <;> rfl,hv.pure⟩
 obtain ⟨A1,A2⟩:=f6_start (c:=c) (st:=st) hcs hb hC1 (N:=N) (by omega)
 suffices hh:∃ v1 s1,bodyR c N Tryz.f6 (Tryz.f6.body.getD .skip) [.ag [cv,b.slice 8]] st=some (v1,s1)∧Fz st.next s1 v1 (.tu [(if e1≠0 then .ag [.sn,.sn] else if e2≠0 then .ag [.sn,.sn] else .ag [cv,(pbOf b).slice 8]),.i .i64 (if e1≠0 then e1 else e2)])∧Kp [] [] st s1 by
  obtain ⟨v1,s1,q1,q2,q3⟩:=hh
  exact ⟨_,body_f rfl rfl rfl rfl rfl (by decide) Tryz.func6 rfl (Nat.le_of_ble_eq_true rfl) q1 q2,q3.shut (Nat.le_refl _)⟩
 unfold bodyR
 show ∃ v1 s1,endF Tryz.prog Tryz.f6.results.toList (evC (f6at 0) ⟨Tryz.prog,Tw c N,false,Tryz.f6.ntmps,N⟩ (tmpsOf [.ag [cv,b.slice 8]] 0 .lf) st)=some (v1,s1)∧_
 by_cases he:e1=0
 case neg =>
  obtain ⟨t,s,r2,q1,q2,⟨al,q3⟩,q4,q5⟩:=A1 he
  have hA:(if e1≠0 then (AV.ag [.sn,.sn]) else if e2≠0 then .ag [.sn,.sn] else .ag [cv,(pbOf b).slice 8]) = .ag [.sn,.sn]:=if_pos he
  have hE:(if e1≠0 then e1 else e2)=e1:=if_pos he
  rw [q1,f6_res q2 q4 q3,hA,hE]
  exact ⟨_,_,rfl,.pure rfl,q5⟩
 obtain ⟨t0,s0,r1,r2,q0,h0'⟩:=A2 he
 have hA:(if e1≠0 then (AV.ag [.sn,.sn]) else if e2≠0 then .ag [.sn,.sn] else .ag [cv,(pbOf b).slice 8])=(if e2≠0 then .ag [.sn,.sn] else .ag [cv,(pbOf b).slice 8]):=if_neg (by simp [he])
 have hE:(if e1≠0 then e1 else e2)=e2:=if_neg (by simp [he])
 rw [hA,hE,q0]
 obtain ⟨t1,s1,mr,tr,a1,h1,b1,c1,d1,e1',e2',f1⟩:=f6_maker (c:=c) h0' (N:=N)
 have lo0:=h0'.lo
 have lo1:=h1.lo
 have T1:Tabled s1:=by
  obtain ⟨ty,ht⟩:=hT
  exact ⟨ty,by rw [h1.K.get 0 h0 (by simp)]; exact ht⟩
 obtain ⟨t2,s2,a2,h2,b2,M2,n2⟩:=f6_taken (c:=c) hb (by omega) h1 b1 c1 d1 ⟨by omega,by omega,f1⟩ T1 h0 (N:=N) (by omega)
 obtain ⟨t3,s3,v,r8,hi,a3,h3,b3,c3,d3,M3,W3,n3,n3',n3''⟩:=f6_cons (c:=c) hv hl h2 b2 M2 (N:=N) (by omega)
 have lo2:=h2.lo
 have wc:=W3.cells
 obtain ⟨t4,s4,v4,a4,h4,b4,⟨al8,c4⟩,G4,⟨L4,e4⟩,k4⟩:=f6_binds (c:=c) (hi:=hi) hb hs h3 b3 c3 d3 M3 ⟨by omega,by omega,by omega,n3''⟩ wc (hp he) (N:=N) (by omega)
 have W4:=W3.keep k4 (by simp; omega) (by simp; omega)
 have tp:(pbOf b).Ty 1:=prepB_ty b.names b S0' b.names 0 hb
 have gc:=grO_cells G4
 have ra:rd s4 r8 0 2=some [v,v4]:=by rw [rd_of c4]; rfl
 have ck:=hC2 he s4 (.ag [v,v4]) N (by omega) (.ag (.cons W4.rds (.cons (G4.rds e4 tp) .nil)))
 rw [show evC (f6at 2) ⟨Tryz.prog,Tw c N,false,Tryz.f6.ntmps,N⟩ t0 s0=thenC (evC (cHd (f6at 2)) ⟨Tryz.prog,Tw c N,false,Tryz.f6.ntmps,N⟩ t0 s0) (evC (f6at 3) ⟨Tryz.prog,Tw c N,false,Tryz.f6.ntmps,N⟩) from rfl,a1,thenC_nx]
 rw [show evC (f6at 3) ⟨Tryz.prog,Tw c N,false,Tryz.f6.ntmps,N⟩ t1 s1=thenC (evC (cHd (f6at 3)) ⟨Tryz.prog,Tw c N,false,Tryz.f6.ntmps,N⟩ t1 s1) (evC (f6at 4) ⟨Tryz.prog,Tw c N,false,Tryz.f6.ntmps,N⟩) from rfl,a2,thenC_nx]
 rw [show evC (f6at 4) ⟨Tryz.prog,Tw c N,false,Tryz.f6.ntmps,N⟩ t2 s2=thenC (evC (cHd (f6at 4)) ⟨Tryz.prog,Tw c N,false,Tryz.f6.ntmps,N⟩ t2 s2) (evC (f6at 5) ⟨Tryz.prog,Tw c N,false,Tryz.f6.ntmps,N⟩) from rfl,a3,thenC_nx]
 rw [show evC (f6at 5) ⟨Tryz.prog,Tw c N,false,Tryz.f6.ntmps,N⟩ t3 s3=thenC (evC (cHd (f6at 5)) ⟨Tryz.prog,Tw c N,false,Tryz.f6.ntmps,N⟩ t3 s3) (evC (f6at 6) ⟨Tryz.prog,Tw c N,false,Tryz.f6.ntmps,N⟩) from rfl,a4,thenC_nx]
 obtain ⟨alr,cr⟩:=h4.c2
 have lo4:=h4.lo
 by_cases h20:e2=0
 case neg =>
  have hA2:(if e2≠0 then (AV.ag [.sn,.sn]) else .ag [cv,(pbOf b).slice 8]) = .ag [.sn,.sn]:=if_pos h20
  rw [hA2]
  have hw:=wt_of cr 0 [.sn,.sn] (by simp) (by simp)
  simp at hw
  have k5:Kp [r2] [r2] s4 (s4.setCe r2 [.sn,.sn] r2):=.setCe (by simp) (by simp)
  have key:∃ t',evC (f6at 6) ⟨Tryz.prog,Tw c N,false,Tryz.f6.ntmps,N⟩ t4 s4 = .rt t' (s4.setCe r2 [.sn,.sn] r2)∧tget t' 2 = .p r2 0∧tget t' 3 = .i .i64 e2:=by
   simp [f6at,cTl,Tryz.f6,h4.t2,b4,load_ag inf25 ag25,sz25,ra,callF_of Tryz.func7 rfl,ck,h20,build25n,store_ag inf25 sz25,hw]
  obtain ⟨t',q1,q2,q3⟩:=key
  rw [q1,f6_res q2 q3 (setCe_ce _ _ _)]
  exact ⟨_,_,rfl,.pure rfl,kp_new h4.K k5 (by simp; omega) (by simp; omega)⟩
 ·have hA2:(if e2≠0 then (AV.ag [.sn,.sn]) else .ag [cv,(pbOf b).slice 8]) = .ag [cv,(pbOf b).slice 8]:=if_neg (by simp [h20])
  rw [hA2]
  have hw:=wt_of cr 0 [v,v4] (by simp) (by simp [wc.2,gc.2])
  simp at hw
  have k5:Kp [r2] [r2] s4 (s4.setCe r2 [v,v4] r2):=.setCe (by simp) (by simp)
  obtain ⟨s5,hs5⟩:∃ x,s4.setCe r2 [v,v4] r2=x:=⟨_,rfl⟩
  have c5:(s4.setCe r2 [v,v4] r2).ce r2=some ([v,v4],r2,[r2]):=setCe_ce _ _ _
  rw [hs5] at hw k5 c5
  have key:∃ t',evC (f6at 6) ⟨Tryz.prog,Tw c N,false,Tryz.f6.ntmps,N⟩ t4 s4 = .rt t' s5∧tget t' 2 = .p r2 0∧tget t' 3 = .i .i64 0:=by
   simp [f6at,cTl,Tryz.f6,h4.t2,b4,load_ag inf25 ag25,sz25,ra,callF_of Tryz.func7 rfl,ck,h20,store_ag inf25 sz25,hw]
  obtain ⟨t',q1,q2,q3⟩:=key
  rw [q1,f6_res q2 q3 c5,h20]
  refine ⟨_,_,rfl,.tu (.cons (.ag (.cons ?_ (.cons ?_ .nil))) (.cons (.pure rfl) .nil)),kp_new h4.K k5 (by simp; omega) (by simp; omega)⟩
  ·exact (W4.keep k5 (by simp; omega) (by simp; omega)).fz (by omega)
  ·exact (G4.keep0' k5 (by simp; omega) (by simp; omega)).part e4 (by omega) (by decide) tp
end
end Go.Proofs.YtbemeikjepjhoaaGreatDoor
namespace Go.Proofs.YtbemeikjepjhoaaGreatDoor
open Go.Ev
set_option maxRecDepth 100000
noncomputable section
variable {c : Option Self} {st : St}
mutual
def _root_.Go.Ev.Ex.bnd:Ex→List Str
 | .mk _ _ _ ps b a l=>txsOf ps++(b.bndB++(a.bnd0++l.bndL))
def _root_.Go.Ev.ExL.bndB:ExL→List Str
 | .nil _=>[]
 | .cons p x l=>bname (p,x) :: (x.bnd++l.bndB)
def _root_.Go.Ev.ExL.bnd0:ExL→List Str
 | .nil _=>[]
 | .cons _ x l=>x.bnd++l.bnd0
def _root_.Go.Ev.ExL.bndL:ExL→List Str
 | .nil _=>[]
 | .cons p x l=>(altH (p,x)).vs++(x.bnd++l.bndL)
end
theorem isSl_first {v:AV} {l:List AV} (h:IsSl v l):lenOf v=some l.length∧firstCells st 1 l.length v=some l∧natOf v=none:=by
 rcases h with ⟨rfl,rfl⟩ | rfl
 ·exact ⟨rfl,rfl,rfl⟩
 ·refine ⟨rfl,?_,rfl⟩
  show cut l 0 (l.length * 1)=_
  rw [cut_zero,Nat.mul_one,takeN_all]
def NmS (s:St) (lo:Nat) (v:AV) (L:List Str):Prop:=∃ g,OwZ s lo 1 v L.length (L.map .s) g
theorem NmS.keep {s s':St} {lo:Nat} {v:AV} {L:List Str} {A B:List Nat} (h:NmS s lo v L) (k:Kp A B s s') (hA:∀ x,x ∈ A→x < lo) (hB:∀ x,x ∈ B→x < lo):NmS s' lo v L:=by
 obtain ⟨g,h⟩:=h
 exact ⟨g,h.keep k hA (fun x hx=>.inl (hB x hx))⟩
def KpG (lo:Nat) (s s':St):Prop:=s.next≤s'.next∧∀ r l g al,r < lo→g < lo→s.ce r=some (l,g,al)→r < s.next→g < s.next→s'.ce r=some (l,g,al)
theorem KpG.of {lo:Nat} {s s':St} {A B:List Nat} (k:Kp A B s s') (hA:∀ x,x ∈ A→lo≤x) (hB:∀ x,x ∈ B→lo≤x):KpG lo s s' :=
 ⟨k.next,fun r l g al h1 h2 h3 h4 h5=>k.ce h3 h4 h5 (fun hh=>by have:=hA _ hh; omega) (fun hh=>by have:=hB _ hh; omega)⟩
theorem KpG.trans {lo:Nat} {a b d:St} (h:KpG lo a b) (k:KpG lo b d):KpG lo a d :=
 ⟨Nat.le_trans h.1 k.1,fun r l g al h1 h2 h3 h4 h5=>k.2 r l g al h1 h2 (h.2 r l g al h1 h2 h3 h4 h5) (Nat.lt_of_lt_of_le h4 h.1) (Nat.lt_of_lt_of_le h5 h.1)⟩
theorem KpG.refl (lo:Nat) (s:St):KpG lo s s:=⟨Nat.le_refl _,fun _ _ _ _ _ _ h _ _=>h⟩
theorem NmS.one {s0 s:St} {lo:Nat} {v:AV} {L:List Str} (h0:NmS s0 lo v L) (k:Kp [] [] s0 s) (x:Str) (hl:L.length < 1000000) (hlo:lo≤s.next):∃ v' s' g,bAppend Tryz.prog (s.newCe [.s x]) [36,36] [v,.sl s.next 0 1 1 (some 1)]=some (v',s')∧NmS s' lo v' (L++[x])∧Kp [] g s s'∧(∀ x,x ∈ g→lo≤x∧x < s0.next):=by
 obtain ⟨g,h0⟩:=h0
 have h:=h0.keep k (by simp) (by simp)
 obtain ⟨v',g',s',w1,w2,w3,w4⟩:=h.app1 gr36 (new:=[.s x]) rfl rfl (by omega) hlo
 exact ⟨v',s',g.toList,w1,⟨g',by simpa using w2⟩,w3,fun x hx=>h0.g_lt x (by simpa using hx)⟩
theorem NmS.more {s0 s:St} {lo:Nat} {v w:AV} {L M:List Str} (h0:NmS s0 lo v L) (k:Kp [] [] s0 s) (hw:IsSl w (M.map .s)) (hl:L.length+M.length≤1000000) (hlo:lo≤s.next):∃ v' s' g,bAppend Tryz.prog s [36,36] [v,w]=some (v',s')∧NmS s' lo v' (L++M)∧Kp [] g s s'∧(∀ x,x ∈ g→lo≤x∧x < s0.next):=by
 obtain ⟨g,h0⟩:=h0
 have h:=h0.keep k (by simp) (by simp)
 obtain ⟨a1,a2,a3⟩:=isSl_first (st:=s) hw
 rw [List.length_map] at a1 a2
 obtain ⟨v',g',s',w1,w2,w3,w4⟩:=h.app gr36 (k:=M.length) a1 a2 a3 (allSc_strs M) (by simp) (by omega) hlo
 exact ⟨v',s',g.toList,w1,⟨g',by simpa using w2⟩,w3,fun x hx=>h0.g_lt x (by simpa using hx)⟩
theorem clone54_call {v:AV} {l:List Str} (hv:IsSl v (l.map .s)) (hl:l.length≤1000000) {N:Nat} (hN:1≤N):∃ w s',(Tw c N).call 54 [v] st=some (w,s')∧NmS s' st.next w l∧Kp [] [] st s':=by
 obtain ⟨N,rfl⟩:∃ N',N=N'+1:=⟨N - 1,by omega⟩
 rw [body_out rfl Tryz.func54 rfl (Nat.le_of_ble_eq_true rfl)]; unfold bodyR
 rcases hv with ⟨rfl,h⟩ | rfl
 ·have:l=[]:=by simpa using h
  subst this
  refine ⟨.sn,st,?_,⟨none,.nil _ _ _⟩,.refl _ _ _⟩
  simp [Tryz.f54,sl_nil Tryz.underlying36,resOf_eq,pmapO]
 ·have h0:NmS (st.newCe []) st.next (.sl st.next 0 0 1 (some 0)) []:=⟨none,.inr (.inl ⟨_,rfl,rfl,rfl,rfl⟩)⟩
  obtain ⟨v',s',g,w1,w2,w3,w4⟩:=h0.more (.refl _ _ _) (w:=.rs (l.map .s) (l.map AV.s).length 1) (M:=l) (.inr rfl) (by simpa using hl) (Nat.le_succ _)
  rw [List.nil_append] at w2
  rw [List.length_map] at w1
  refine ⟨v',s',?_,w2,?_⟩
  ·simp [Tryz.f54,sl_rs Tryz.underlying36,build0 gr36,w1,resOf_eq,pmapO]
  ·have k1:=Kp.newCe (st:=st) [] [] []
   exact kp_new k1 w3 (by simp) (fun x hx=>(w4 x hx).1)
noncomputable def f29at:Nat→Code
 | 0=>Tryz.f29.body.getD .skip
 | k+1=>cTl (f29at k)
def BndRes (c:Option Self) (N:Nat) (x:Ex) (v:AV):Prop:=∀ st:St,(Tw c N).call 29 [.ag x.cells] st=some (v,st)
def BndOK (c:Option Self) (x:Ex):Prop:=x.Ty→x.size≤1000000→x.bnd.length≤1000000→∀ N,x.size+2000000≤N→∃ v,IsSl v (x.bnd.map .s)∧BndRes c N x v
def BLp (s0 s':St) (lo rE:Nat) (t':Tr AV) (L:List Str):Prop:=tget t' 1 = .p rE 0∧NmS s' lo (tget t' 3) L∧KpG lo s0 s'∧lo≤s'.next
theorem bndB_drop (b:ExL) {i:Nat} (h:i < b.list.length):(dropL b i).bndB=bname b.list[i] :: (b.list[i].2.bnd++(dropL b (i+1)).bndB):=by rw [dropL_at b i h]; rfl
theorem bnd0_drop (b:ExL) {i:Nat} (h:i < b.list.length):(dropL b i).bnd0=b.list[i].2.bnd++(dropL b (i+1)).bnd0:=by rw [dropL_at b i h]; rfl
theorem bndL_drop (b:ExL) {i:Nat} (h:i < b.list.length):(dropL b i).bndL=(altH b.list[i]).vs++(b.list[i].2.bnd++(dropL b (i+1)).bndL):=by rw [dropL_at b i h]; rfl
set_option maxHeartbeats 1000000 in
theorem f29_loopB {s:St} {t:Tr AV} {lo rE al:Nat} {ale:List Nat} {k:Int} {nm:Str} {num:Int} {ps:AV} {b a l:ExL} {L:List Str} (hb:b.Ty 1) (hs:b.size≤1000000) (hIH:∀ p ∈ b.list,BndOK c p.2) (h1:BLp s s lo rE t L) (ce:s.ce rE=some ((Ex.mk k nm num ps b a l).cells,rE,ale)) (hr:rE < lo) (hlen:L.length+b.bndB.length≤1000000) {N:Nat} (hN:b.size+2000000≤N) :
  ∃ t' s',evC (cHd (f29at 2)) ⟨Tryz.prog,Tw c N,false,Tryz.f29.ntmps,N⟩ t s = .nx t' s'∧BLp s s' lo rE t' (L++b.bndB):=by
 have hbl:=b.len_le
 obtain ⟨h11,h12,h13,h14⟩:=h1
 have rb:=(exAt ce).b
 have ln:=fun st:St=>len_sl (st:=st) Tryz.underlying23 (b.slice_len 8) (b.slice_text 8)
 simp [f29at,cHd,cTl,Tryz.f29,h11,off40_4,load_p inf23 ag23,rb,ln,evC_loop]
 generalize hL:loopC _ _ _ _=Lo
 obtain ⟨t1,s1,rfl,p0⟩:=loop_use hL 0 b.list.length
  (fun i t' s'=>tget t' 14=b.slice 8∧tget t' 15 = .i .i64 (b.len:Int)∧tget t' 16 = .i .i64 (i:Int)∧∃ M,BLp s s' lo rE t' M∧M++(dropL b i).bndB=L++b.bndB)
  (fun t' s'=>BLp s s' lo rE t' (L++b.bndB)) (by rw [← ExL.len_eq]; omega)
  ⟨by simp,by simp,by simp,L,⟨by simp [h11],by simpa using h12,.refl _ _,h14⟩,by simp [dropL]⟩
  (by
   rintro i t' s' hi ⟨i14,i15,i16,M,⟨j1,j2,j3,j4⟩,jE⟩
   clear hL
   have hil:i < b.len:=by rw [ExL.len_eq]; exact hi
   have e3:(i:Int) < (b.len:Int):=by omega
   have e4:wr .i64 ((i:Int)+1)=((i+1:Nat):Int):=by rw [wr_in (by omega) (by omega)]; rfl
   obtain ⟨r,r1',r2'⟩:=part_at hb.pre (show preLen 1+7=8 from rfl) hi
   have ix:=index_rs (P:=Tryz.prog) Tryz.underlying23 inf42 sz42 b.flat b.len i hil
   rw [← ExL.slice_rs hil,r1',← List.append_assoc] at ix
   have hmem:=List.getElem_mem hi
   have hT:=ExL.ty_list hb _ hmem
   have hsz':=ExL.size_mem hmem
   have hpr:=pre1 hT.1
   rw [show txOf (b.list[i].1.headD .un)=bname b.list[i] from rfl] at hpr
   rw [bndB_drop b hi] at jE
   have jl:=congrArg List.length jE
   simp only [List.length_append,List.length_cons] at jl
   obtain ⟨bn,hbn⟩:∃ x,bname b.list[i]=x:=⟨_,rfl⟩
   rw [hbn] at hpr jE
   have hce:(b.list[i].1++b.list[i].2.cells).length=8:=by rw [List.length_append,r2',Ex.cells_len]; rfl
   have hsc:allSc (b.list[i].1++b.list[i].2.cells)=true:=allSc_append hT.1.sc (Ex.cells_sc hT.2.wf)
   have ld:=fun st:St=>load_ms (st:=st) (r:=r) inf42 ag42 sz42 hce
   have hhd:cut (b.list[i].1++b.list[i].2.cells) 0 1=some [.s bn]:=by rw [hpr]; rfl
   have hcut:cut (b.list[i].1++b.list[i].2.cells) 1 7=some b.list[i].2.cells:=by
    rw [hpr]
    have:=takeN_app b.list[i].2.cells []
    rw [Ex.cells_len,List.append_nil] at this
    simpa using this
   obtain ⟨v,v1,v2⟩:=hIH _ hmem hT.2 (by omega) (by omega) N (by omega)
   generalize b.list[i].1++b.list[i].2.cells=cl at *
   obtain ⟨s2,u1,u2,u3,u4⟩:=alloc_store (s:=s') (z:=zL42) hce hsc
   have n2:=u3.next
   have rx:rd s2 s'.next 1 7=some b.list[i].2.cells:=by rw [rd_of u2,hcut]
   have rn:rd s2 s'.next 0 1=some [.s bn]:=by rw [rd_of u2,hhd]
   obtain ⟨va,hva⟩:∃ va,tget t' 3=va:=⟨_,rfl⟩
   rw [hva] at j2
   have bo:=fun (t:Tr AV) (h:evO t (.tmp 22) = .s bn)=>build_one (S:=Tw c N) (t:=t) (st:=s2) gr36 (x:=.tmp 22) (cs:=[.s bn]) (by rw [h]; simp) rfl
   obtain ⟨v',s3,g,w1,w2,w3,w4⟩:=j2.one u3 bn (by omega) (by omega)
   have n3:=w3.next
   have hg:s'.next ∉ g:=fun hh=>by have:=w4 _ hh; omega
   have rx3:rd s3 s'.next 1 7=some b.list[i].2.cells:=by rw [rd_of (w3.ce u2 u4 u4 (by simp) hg),hcut]
   obtain ⟨v'',s4,g',y1,y2,y3,y4⟩:=w2.more (.refl _ _ _) v1 (by simp; omega) (by omega)
   have zz:zeroC Tryz.prog 42=some zL42:=zC42
   simp [i14,i15,i16,e3,ix,ld,opH_alloc,zz,store_ag inf42 sz42,hce,u1,evC_draw]
   rw [drawC_eq (fl:=[(6,0)])]
   ·simp [i16,hva,e4,off42_0,off42_1,load_p inf9 ag9,rn,bo,w1,load_ag inf40 ag40,sz40,rx3,callF_of Tryz.func29 rfl,v2 s3,y1]
    refine ⟨_,_,⟨rfl,rfl⟩,by simp [i14],by simp [i15],by simp,M++[bn]++b.list[i].2.bnd,⟨by simp [j1],by simpa using y2,j3.trans ((KpG.of u3 (by simp) (by simp)).trans ((KpG.of w3 (by simp) (fun x hx=>(w4 x hx).1)).trans (KpG.of y3 (by simp) (fun x hx=>(y4 x hx).1)))),by have:=y3.next; omega⟩,?_⟩
    simpa using jE
   ·kernel_rfl
   ·intro R' hR'
    simp [hva,off42_0,off42_1,load_p inf9 ag9,rn,bo,w1,load_ag inf40 ag40,sz40,rx3,callF_of Tryz.func29 rfl,v2 s3,y1] at hR'
    subst hR'
    simp only [List.all_cons,List.all_nil,Bool.and_true]
    refine recheck_eq rfl rfl rfl (s:=s2) ?_
    simp [load_ag inf40 ag40,sz40,rx])
  (by
   rintro t' s' ⟨i14,i15,i16,M,⟨j1,j2,j3,j4⟩,jE⟩
   clear hL
   simp [i15,i16,ExL.len_eq]
   obtain ⟨f,hf⟩:=dropL_end b
   rw [hf] at jE
   simp only [ExL.bndB,List.append_nil] at jE
   rw [jE] at j2
   exact ⟨_,_,⟨rfl,rfl⟩,by simp [j1],by simpa using j2,j3,j4⟩)
 clear hL
 exact ⟨t1,s1,by simp,p0⟩
set_option maxHeartbeats 1000000 in
theorem f29_loop0 {s:St} {t:Tr AV} {lo rE:Nat} {ale:List Nat} {k:Int} {nm:Str} {num:Int} {ps:AV} {b a l:ExL} {L:List Str} (hb:a.Ty 0) (hs:a.size≤1000000) (hIH:∀ p ∈ a.list,BndOK c p.2) (h1:BLp s s lo rE t L) (ce:s.ce rE=some ((Ex.mk k nm num ps b a l).cells,rE,ale)) (hlen:L.length+a.bnd0.length≤1000000) {N:Nat} (hN:a.size+2000000≤N) :
  ∃ t' s',evC (cHd (f29at 3)) ⟨Tryz.prog,Tw c N,false,Tryz.f29.ntmps,N⟩ t s = .nx t' s'∧BLp s s' lo rE t' (L++a.bnd0):=by
 have hbl:=a.len_le
 obtain ⟨h11,h12,h13,h14⟩:=h1
 have rb:=(exAt ce).a
 have ln:=fun st:St=>len_sl (st:=st) Tryz.underlying37 (a.slice_len 7) (a.slice_text 7)
 simp [f29at,cHd,cTl,Tryz.f29,h11,off40_5,load_p inf37 ag37,rb,ln,evC_loop]
 generalize hL:loopC _ _ _ _=Lo
 obtain ⟨t1,s1,rfl,p0⟩:=loop_use hL 2 a.list.length
  (fun i t' s'=>tget t' 31=a.slice 7∧tget t' 32 = .i .i64 (a.len:Int)∧tget t' 33 = .i .i64 (i:Int)∧∃ M,BLp s s' lo rE t' M∧M++(dropL a i).bnd0=L++a.bnd0)
  (fun t' s'=>BLp s s' lo rE t' (L++a.bnd0)) (by rw [← ExL.len_eq]; omega)
  ⟨by simp,by simp,by simp,L,⟨by simp [h11],by simpa using h12,.refl _ _,h14⟩,by simp [dropL]⟩
  (by
   rintro i t' s' hi ⟨i14,i15,i16,M,⟨j1,j2,j3,j4⟩,jE⟩
   clear hL
   have hil:i < a.len:=by rw [ExL.len_eq]; exact hi
   have e3:(i:Int) < (a.len:Int):=by omega
   have e4:wr .i64 ((i:Int)+1)=((i+1:Nat):Int):=by rw [wr_in (by omega) (by omega)]; rfl
   obtain ⟨r,r1',r2'⟩:=part_at hb.pre (show preLen 0+7=7 from rfl) hi
   have ix:=index_rs (P:=Tryz.prog) Tryz.underlying37 inf40 sz40 a.flat a.len i hil
   rw [← ExL.slice_rs hil,r1',List.eq_nil_of_length_eq_zero r2',List.nil_append] at ix
   have hmem:=List.getElem_mem hi
   have hT:=ExL.ty_list hb _ hmem
   have hsz':=ExL.size_mem hmem
   rw [bnd0_drop a hi] at jE
   have jl:=congrArg List.length jE
   simp only [List.length_append] at jl
   have hce:=a.list[i].2.cells_len
   have hsc:=Ex.cells_sc hT.2.wf
   have ld:=fun st:St=>load_ms (st:=st) (r:=r) inf40 ag40 sz40 hce
   have hcut:cut a.list[i].2.cells 0 7=some a.list[i].2.cells:=by
    have:=takeN_app a.list[i].2.cells []
    rw [Ex.cells_len,List.append_nil] at this
    simpa using this
   obtain ⟨v,v1,v2⟩:=hIH _ hmem hT.2 (by omega) (by omega) N (by omega)
   obtain ⟨s2,u1,u2,u3,u4⟩:=alloc_store (s:=s') (z:=zL40) hce hsc
   have n2:=u3.next
   have rx:rd s2 s'.next 0 7=some a.list[i].2.cells:=by rw [rd_of u2,hcut]
   obtain ⟨va,hva⟩:∃ va,tget t' 3=va:=⟨_,rfl⟩
   rw [hva] at j2
   obtain ⟨v'',s4,g',y1,y2,y3,y4⟩:=j2.more u3 v1 (by omega) (by omega)
   have zz:zeroC Tryz.prog 40=some zL40:=zC40
   simp [i14,i15,i16,hva,e3,e4,ix,ld,opH_alloc,zz,store_ag inf40 sz40,hce,u1,load_ag inf40 ag40,sz40,rx,callF_of Tryz.func29 rfl,v2 s2,y1]
   refine ⟨_,_,⟨rfl,rfl⟩,by simp [i14],by simp [i15],by simp,M++a.list[i].2.bnd,⟨by simp [j1],by simpa using y2,j3.trans ((KpG.of u3 (by simp) (by simp)).trans (KpG.of y3 (by simp) (fun x hx=>(y4 x hx).1))),by have:=y3.next; omega⟩,?_⟩
   simpa using jE)
  (by
   rintro t' s' ⟨i14,i15,i16,M,⟨j1,j2,j3,j4⟩,jE⟩
   clear hL
   simp [i15,i16,ExL.len_eq]
   obtain ⟨f,hf⟩:=dropL_end a
   rw [hf] at jE
   simp only [ExL.bnd0,List.append_nil] at jE
   rw [jE] at j2
   exact ⟨_,_,⟨rfl,rfl⟩,by simp [j1],by simpa using j2,j3,j4⟩)
 clear hL
 exact ⟨t1,s1,by simp,p0⟩
set_option maxHeartbeats 1000000 in
theorem f29_loopL {s:St} {t:Tr AV} {lo rE:Nat} {ale:List Nat} {k:Int} {nm:Str} {num:Int} {ps:AV} {b a l:ExL} {L:List Str} (hb:l.Ty 4) (hs:l.size≤1000000) (hIH:∀ p ∈ l.list,BndOK c p.2) (h1:BLp s s lo rE t L) (ce:s.ce rE=some ((Ex.mk k nm num ps b a l).cells,rE,ale)) (hlen:L.length+l.bndL.length≤1000000) {N:Nat} (hN:l.size+2000000≤N) :
  ∃ t' s',evC (cHd (f29at 4)) ⟨Tryz.prog,Tw c N,false,Tryz.f29.ntmps,N⟩ t s = .nx t' s'∧BLp s s' lo rE t' (L++l.bndL):=by
 have hbl:=l.len_le
 obtain ⟨h11,h12,h13,h14⟩:=h1
 have rb:=(exAt ce).l
 have ln:=fun st:St=>len_sl (st:=st) Tryz.underlying38 (l.slice_len 11) (l.slice_text 11)
 simp [f29at,cHd,cTl,Tryz.f29,h11,off40_6,load_p inf38 ag38,rb,ln,evC_loop]
 generalize hL:loopC _ _ _ _=Lo
 obtain ⟨t1,s1,rfl,p0⟩:=loop_use hL 4 l.list.length
  (fun i t' s'=>tget t' 43=l.slice 11∧tget t' 44 = .i .i64 (l.len:Int)∧tget t' 45 = .i .i64 (i:Int)∧∃ M,BLp s s' lo rE t' M∧M++(dropL l i).bndL=L++l.bndL)
  (fun t' s'=>BLp s s' lo rE t' (L++l.bndL)) (by rw [← ExL.len_eq]; omega)
  ⟨by simp,by simp,by simp,L,⟨by simp [h11],by simpa using h12,.refl _ _,h14⟩,by simp [dropL]⟩
  (by
   rintro i t' s' hi ⟨i14,i15,i16,M,⟨j1,j2,j3,j4⟩,jE⟩
   clear hL
   have hil:i < l.len:=by rw [ExL.len_eq]; exact hi
   have e3:(i:Int) < (l.len:Int):=by omega
   have e4:wr .i64 ((i:Int)+1)=((i+1:Nat):Int):=by rw [wr_in (by omega) (by omega)]; rfl
   obtain ⟨r,r1',r2'⟩:=part_at hb.pre (show preLen 4+7=11 from rfl) hi
   have ix:=index_rs (P:=Tryz.prog) Tryz.underlying38 inf80 sz80 l.flat l.len i hil
   rw [← ExL.slice_rs hil,r1',← List.append_assoc] at ix
   have hmem:=List.getElem_mem hi
   have hT:=ExL.ty_list hb _ hmem
   have hsz':=ExL.size_mem hmem
   obtain ⟨vs,p1,p2,p3⟩:=altH_ty hT.1
   rw [bndL_drop l hi] at jE
   have jl:=congrArg List.length jE
   simp only [List.length_append] at jl
   obtain ⟨H,hH⟩:∃ H,altH l.list[i]=H:=⟨_,rfl⟩
   rw [hH] at p1 p3 jE jl
   have hce:(l.list[i].1++l.list[i].2.cells).length=11:=by rw [List.length_append,r2',Ex.cells_len]; rfl
   have hsc:allSc (l.list[i].1++l.list[i].2.cells)=true:=allSc_append hT.1.sc (Ex.cells_sc hT.2.wf)
   have ld:=fun st:St=>load_ms (st:=st) (r:=r) inf80 ag80 sz80 hce
   have c3:cut (l.list[i].1++l.list[i].2.cells) 3 1=some [vs]:=by rw [p1]; rfl
   have hcut:cut (l.list[i].1++l.list[i].2.cells) 4 7=some l.list[i].2.cells:=by
    rw [p1]
    have:=takeN_app l.list[i].2.cells []
    rw [Ex.cells_len,List.append_nil] at this
    simpa using this
   obtain ⟨v,v1,v2⟩:=hIH _ hmem hT.2 (by omega) (by omega) N (by omega)
   generalize l.list[i].1++l.list[i].2.cells=cl at *
   obtain ⟨s2,u1,u2,u3,u4⟩:=alloc_store (s:=s') (z:=zL80) hce hsc
   have n2:=u3.next
   have rx:rd s2 s'.next 4 7=some l.list[i].2.cells:=by rw [rd_of u2,hcut]
   have rn:rd s2 s'.next 3 1=some [vs]:=by rw [rd_of u2,c3]
   obtain ⟨va,hva⟩:∃ va,tget t' 3=va:=⟨_,rfl⟩
   rw [hva] at j2
   obtain ⟨v',s3,g,w1,w2,w3,w4⟩:=j2.more u3 (w:=vs) (M:=H.vs) (by rw [p3]; exact isNm_sl p2) (by omega) (by omega)
   have n3:=w3.next
   have hg:s'.next ∉ g:=fun hh=>by have:=w4 _ hh; omega
   have rx3:rd s3 s'.next 4 7=some l.list[i].2.cells:=by rw [rd_of (w3.ce u2 u4 u4 (by simp) hg),hcut]
   obtain ⟨v'',s4,g',y1,y2,y3,y4⟩:=w2.more (.refl _ _ _) v1 (by simp; omega) (by omega)
   have zz:zeroC Tryz.prog 80=some zL80:=zC80
   simp [i14,i15,i16,e3,ix,ld,opH_alloc,zz,store_ag inf80 sz80,hce,u1,evC_draw]
   rw [drawC_eq (fl:=[(5,0)])]
   ·simp [i16,hva,e4,off80_3,off80_4,load_p inf36 ag36,rn,w1,load_ag inf40 ag40,sz40,rx3,callF_of Tryz.func29 rfl,v2 s3,y1]
    refine ⟨_,_,⟨rfl,rfl⟩,by simp [i14],by simp [i15],by simp,M++H.vs++l.list[i].2.bnd,⟨by simp [j1],by simpa using y2,j3.trans ((KpG.of u3 (by simp) (by simp)).trans ((KpG.of w3 (by simp) (fun x hx=>(w4 x hx).1)).trans (KpG.of y3 (by simp) (fun x hx=>(y4 x hx).1)))),by have:=y3.next; omega⟩,?_⟩
    simpa using jE
   ·kernel_rfl
   ·intro R' hR'
    simp [hva,off80_3,off80_4,load_p inf36 ag36,rn,w1,load_ag inf40 ag40,sz40,rx3,callF_of Tryz.func29 rfl,v2 s3,y1] at hR'
    subst hR'
    simp only [List.all_cons,List.all_nil,Bool.and_true]
    refine recheck_eq rfl rfl rfl (s:=s2) ?_
    simp [load_ag inf40 ag40,sz40,rx])
  (by
   rintro t' s' ⟨i14,i15,i16,M,⟨j1,j2,j3,j4⟩,jE⟩
   clear hL
   simp [i15,i16,ExL.len_eq]
   obtain ⟨f,hf⟩:=dropL_end l
   rw [hf] at jE
   simp only [ExL.bndL,List.append_nil] at jE
   rw [jE] at j2
   exact ⟨_,_,⟨rfl,rfl⟩,by simp [j1],by simpa using j2,j3,j4⟩)
 clear hL
 exact ⟨t1,s1,by simp,p0⟩
theorem bound_call:∀ x,BndOK c x:=by
 refine Ex.ind fun k nm num ps b a l hb ha hl=>?_
 intro hT hs hbn N hN
 obtain ⟨N,rfl⟩:∃ N',N=N'+1:=⟨N - 1,by omega⟩
 have hsz:(Ex.mk k nm num ps b a l).size=1+b.size+a.size+l.size:=by simp only [Ex.size]
 have hTy:=hT
 simp only [Ex.Ty] at hT
 obtain ⟨hkb,hps,hTb,hTa,hTl⟩:=hT
 have hbe:(Ex.mk k nm num ps b a l).bnd=txsOf ps++(b.bndB++(a.bnd0++l.bndL)):=by simp only [Ex.bnd]
 rw [hbe] at hbn
 simp only [List.length_append] at hbn
 suffices hh:∃ v1 s1,bodyR c N Tryz.f29 (Tryz.f29.body.getD .skip) [.ag (Ex.mk k nm num ps b a l).cells] st0=some (v1,s1)∧NmS s1 1 v1 ((Ex.mk k nm num ps b a l).bnd) by
  obtain ⟨v1,s1,q1,g,q2⟩:=hh
  obtain ⟨w,h3,h4⟩:=q2.fz (Nat.zero_le _) (Nat.le_refl 1) (FzL.pure (pure_strs _))
  have hw:IsSl w ((Ex.mk k nm num ps b a l).bnd.map .s):=by
   rcases h4 with ⟨rfl,h5,h6⟩ | rfl
   ·exact .inl ⟨rfl,h6⟩
   ·right; rw [List.length_map]
  exact ⟨w,hw,fun st=>body_z rfl rfl rfl rfl (by decide) (by simp [pureL,pureV,Ex.cells_pure hTy]) Tryz.func29 rfl (Nat.le_of_ble_eq_true rfl) (hw.pure (pure_strs _)) ⟨_,_,q1,h3⟩⟩
 unfold bodyR
 show ∃ v1 s1,endF Tryz.prog Tryz.f29.results.toList (evC (f29at 0) ⟨Tryz.prog,Tw c N,false,Tryz.f29.ntmps,N⟩ (tmpsOf [.ag (Ex.mk k nm num ps b a l).cells] 0 .lf) st0)=some (v1,s1)∧_
 have c1:=newCe_ce (st:=st0) (Ex.mk k nm num ps b a l).cells
 obtain ⟨s1,hs1⟩:∃ s,st0.newCe (Ex.mk k nm num ps b a l).cells=s:=⟨_,rfl⟩
 have n1:s1.next=1:=by rw [← hs1]; rfl
 rw [hs1] at c1
 have r3:rd s1 st0.next 3 1=some [ps]:=by rw [rd_of c1]; rfl
 obtain ⟨w,s2,f1,f2,f3⟩:=clone54_call (c:=c) (st:=s1) (isNm_sl hps) (by omega) (N:=N) (by omega)
 rw [n1] at f2
 have c2:=f3.ce c1 (by rw [n1]; decide) (by rw [n1]; decide) (by simp) (by simp)
 have cl:(AV.ag (Ex.mk k nm num ps b a l).cells).cells=some (Ex.mk k nm num ps b a l).cells:=cells_ag _
 generalize hcl:(Ex.mk k nm num ps b a l).cells=cells at *
 have a0:∃ t,evC (cHd (f29at 0)) ⟨Tryz.prog,Tw c N,false,Tryz.f29.ntmps,N⟩ (tmpsOf [.ag cells] 0 .lf) st0 = .nx t s1∧tget t 1 = .p st0.next 0:=by
  simp [f29at,cHd,Tryz.f29,hs1]
 obtain ⟨t1,a0,d1⟩:=a0
 have a1:∃ t,evC (cHd (f29at 1)) ⟨Tryz.prog,Tw c N,false,Tryz.f29.ntmps,N⟩ t1 s1 = .nx t s2∧tget t 1 = .p st0.next 0∧tget t 3=w:=by
  simp [f29at,cHd,cTl,Tryz.f29,d1,off40_3,load_p inf36 ag36,r3,callF_of Tryz.func54 rfl,f1]
 obtain ⟨t2,a1,e1,e3⟩:=a1
 have n2:=f3.next
 rw [← hcl] at c2
 have z0:st0.next < 1:=Nat.one_pos
 obtain ⟨t3,s3,a2,B3⟩:=f29_loopB (c:=c) (al:=0) hTb (by omega) hb (t:=t2) ⟨e1,by rw [e3]; exact f2,.refl _ _,by omega⟩ c2 z0 (by omega) (N:=N) (by omega)
 have c3:=B3.2.2.1.2 _ _ _ _ z0 z0 c2 (by omega) (by omega)
 obtain ⟨t4,s4,a3,B4⟩:=f29_loop0 (c:=c) hTa (by omega) ha ⟨B3.1,B3.2.1,.refl _ _,B3.2.2.2⟩ c3 (by simp; omega) (N:=N) (by omega)
 have c4:=B4.2.2.1.2 _ _ _ _ z0 z0 c3 (by have:=B3.2.2.2; omega) (by have:=B3.2.2.2; omega)
 obtain ⟨t5,s5,a4,B5⟩:=f29_loopL (c:=c) hTl (by omega) hl ⟨B4.1,B4.2.1,.refl _ _,B4.2.2.2⟩ c4 (by simp; omega) (N:=N) (by omega)
 rw [show evC (f29at 0) ⟨Tryz.prog,Tw c N,false,Tryz.f29.ntmps,N⟩ (tmpsOf [.ag cells] 0 .lf) st0=thenC (evC (cHd (f29at 0)) ⟨Tryz.prog,Tw c N,false,Tryz.f29.ntmps,N⟩ (tmpsOf [.ag cells] 0 .lf) st0) (evC (f29at 1) ⟨Tryz.prog,Tw c N,false,Tryz.f29.ntmps,N⟩) from rfl,a0,thenC_nx]
 rw [show evC (f29at 1) ⟨Tryz.prog,Tw c N,false,Tryz.f29.ntmps,N⟩ t1 s1=thenC (evC (cHd (f29at 1)) ⟨Tryz.prog,Tw c N,false,Tryz.f29.ntmps,N⟩ t1 s1) (evC (f29at 2) ⟨Tryz.prog,Tw c N,false,Tryz.f29.ntmps,N⟩) from rfl,a1,thenC_nx]
 rw [show evC (f29at 2) ⟨Tryz.prog,Tw c N,false,Tryz.f29.ntmps,N⟩ t2 s2=thenC (evC (cHd (f29at 2)) ⟨Tryz.prog,Tw c N,false,Tryz.f29.ntmps,N⟩ t2 s2) (evC (f29at 3) ⟨Tryz.prog,Tw c N,false,Tryz.f29.ntmps,N⟩) from rfl,a2,thenC_nx]
 rw [show evC (f29at 3) ⟨Tryz.prog,Tw c N,false,Tryz.f29.ntmps,N⟩ t3 s3=thenC (evC (cHd (f29at 3)) ⟨Tryz.prog,Tw c N,false,Tryz.f29.ntmps,N⟩ t3 s3) (evC (f29at 4) ⟨Tryz.prog,Tw c N,false,Tryz.f29.ntmps,N⟩) from rfl,a3,thenC_nx]
 rw [show evC (f29at 4) ⟨Tryz.prog,Tw c N,false,Tryz.f29.ntmps,N⟩ t4 s4=thenC (evC (cHd (f29at 4)) ⟨Tryz.prog,Tw c N,false,Tryz.f29.ntmps,N⟩ t4 s4) (evC (f29at 5) ⟨Tryz.prog,Tw c N,false,Tryz.f29.ntmps,N⟩) from rfl,a4,thenC_nx]
 refine ⟨tget t5 3,s5,?_,?_⟩
 ·simp [f29at,cTl,Tryz.f29,resOf_eq,pmapO]
 ·rw [hbe]
  have:=B5.2.1
  simpa using this
end
end Go.Proofs.YtbemeikjepjhoaaGreatDoor
