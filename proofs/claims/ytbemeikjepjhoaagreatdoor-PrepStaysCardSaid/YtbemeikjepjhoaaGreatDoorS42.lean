/-
  The preparation of an expression: its arguments. · The preparation of an expression: its alternatives.
-/
import Derived.Test.YtbemeikjepjhoaaGreatDoorS41
namespace Go.Proofs.YtbemeikjepjhoaaGreatDoor
open Go.Ev
set_option maxRecDepth 100000
noncomputable section
variable {c : Option Self} {st : St}
structure LpT (s s':St) (mr tr rO:Nat) (T:List Str) (n:Nat) (sv:AV) (S:Sco) (oc:List AV):Prop where
 co:∃ al,s'.ce rO=some (oc,rO,al)
 M:Mk s' mr tr T n
 V:ScV s' mr tr sv S
 K:Kp [mr,tr,rO] [mr,rO] s s'
 nx:s.next≤s'.next
theorem LpT.keep {s s' s'':St} {mr tr rO n n':Nat} {T:List Str} {sv:AV} {S:Sco} {oc:List AV} {A B:List Nat} (h:LpT s s' mr tr rO T n sv S oc) (k:Kp A B s' s'') (hA:∀ x,x ∈ A→x=mr∨x=tr∨s.next≤x) (hB:∀ x,x ∈ B→x=mr∨s.next≤x) (hr:rO < s.next∧mr < rO∧tr < rO) (hM:Mk s'' mr tr T n') (hV:ScV s'' mr tr sv S):LpT s s'' mr tr rO T n' sv S oc:=by
 obtain ⟨al,co⟩:=h.co
 have:=h.nx
 refine ⟨⟨al,k.ce co (by omega) (by omega) (fun hh=>by have:=hA _ hh; omega) (fun hh=>by have:=hB _ hh; omega)⟩,hM,hV,kp_add h.K k (fun x hx=>?_) (fun x hx=>?_),Nat.le_trans h.nx k.next⟩
 ·rcases hA x hx with h | h | h <;> simp [h]
 ·rcases hB x hx with h | h <;> simp [h]
theorem LpT.keep0 {s s' s'':St} {mr tr rO n:Nat} {T:List Str} {sv:AV} {S:Sco} {oc:List AV} {A B:List Nat} (h:LpT s s' mr tr rO T n sv S oc) (k:Kp A B s' s'') (hA:∀ x,x ∈ A→s'.next≤x∨(s.next≤x∧∃ p,s'.ce x=some p)) (hB:∀ x,x ∈ B→s.next≤x) (hr:rO < s.next∧mr < rO∧tr < rO):LpT s s'' mr tr rO T n sv S oc:=by
 have hA':∀ x,x ∈ A→s.next≤x:=fun x hx=>by have:=h.nx; rcases hA x hx with h | h <;> omega
 have hz:=h.M.z1
 refine h.keep k (fun x hx=>.inr (.inr (hA' x hx))) (fun x hx=>.inr (hB x hx)) hr (h.M.keep k (fun hh=>by have:=hA' _ hh; omega) (fun hh=>by have:=hA' _ hh; omega) (fun hh=>by have:=hB _ hh; omega) (fun hh=>by have:=hA' _ hh; omega)) ?_
 rcases h.V with h1 | ⟨r,h1,⟨es,q,h2,h2'⟩,h3,h4,h5,h6⟩
 ·exact .inl h1
 ·refine .inr ⟨r,h1,⟨es,q,?_,h2'⟩,Nat.lt_of_lt_of_le h3 k.next,h4,h5,h6⟩
  rw [k.get r h3 ?_]
  ·exact h2
  ·intro hh
   rcases hA r hh with h | ⟨-,⟨l,g,al⟩,h⟩
   ·omega
   ·rw [ce_get h] at h2; cases h2
structure Gr2 (s:St) (lo:Nat) (v5:AV) (i:Nat) (c5:List AV) (v15:AV) (m:Nat) (c15:List AV) (g5 g15:Option Nat):Prop where
 z5:i=0→v5 = .sn
 z15:m=0→v15 = .sn
 o5:OwZ s lo 7 v5 i c5 g5
 o15:OwZ s lo 8 v15 m c15 g15
 ap:∀ x,g5=some x→g15≠some x
theorem Gr2.keep {s s':St} {lo:Nat} {v5:AV} {i:Nat} {c5:List AV} {v15:AV} {m:Nat} {c15:List AV} {g5 g15:Option Nat} {A B:List Nat} (h:Gr2 s lo v5 i c5 v15 m c15 g5 g15) (k:Kp A B s s') (hA:∀ x,x ∈ A→x < lo) (hB:∀ x,x ∈ B→x < lo):Gr2 s' lo v5 i c5 v15 m c15 g5 g15 :=
 ⟨h.z5,h.z15,h.o5.keep k hA (fun x hx=>.inl (hB x hx)),h.o15.keep k hA (fun x hx=>.inl (hB x hx)),h.ap⟩
def TailP (s sX:St) (mr tr rO:Nat) (T:List Str) (n:Nat) (sv:AV) (S:Sco) (k:Int) (nm:Str) (num:Int) (o3 o4 o6 v5:AV) (i:Nat) (c5:List AV) (v15:AV) (m:Nat) (c15:List AV) (Y:Ex):Prop :=
 ∃ v' g5' g15 sA sB,bAppend Tryz.prog (sX.newCe Y.cells) [37,37] [v5,.sl sX.next 0 1 7 (some 1)]=some (v',sA)∧v'.cells=some [v']∧wt sA rO 5 [v']=some sB∧LpT s sB mr tr rO T n sv S [.i .i64 k,.s nm,.i .i64 num,o3,o4,v',o6]∧Gr2 sB s.next v' (i+1) (c5++Y.cells) v15 m c15 g5' g15
theorem args_tail {s sX:St} {mr tr rO n:Nat} {T:List Str} {sv:AV} {S:Sco} {k:Int} {nm:Str} {num:Int} {o3 o4 o6 v5:AV} {i:Nat} {c5:List AV} {v15:AV} {m:Nat} {c15:List AV} {g5 g15:Option Nat} {Y:Ex}
  (h:LpT s sX mr tr rO T n sv S [.i .i64 k,.s nm,.i .i64 num,o3,o4,v5,o6]) (hG:Gr2 sX s.next v5 i c5 v15 m c15 g5 g15) (hY:Y.Ty) (hi:i≤1000000) (hr:rO < s.next∧mr < rO∧tr < rO):TailP s sX mr tr rO T n sv S k nm num o3 o4 o6 v5 i c5 v15 m c15 Y:=by
 have cY:=Y.cells_len
 obtain ⟨v',g',sA,w1,w2,w3,w4⟩:=hG.o5.app1 gr37 (new:=Y.cells) (Ex.cells_sc hY.wf) cY (by omega) h.nx
 have hgl:=hG.o5.g_lt
 have hB4:∀ x,x ∈ g5.toList→s.next≤x:=fun x hx=>(hgl x (by simpa using hx)).1
 have hA:=h.keep0 w3 (by simp) hB4 hr
 obtain ⟨al,co⟩:=hA.co
 have hw:=wt_of co 5 [v'] (by simp) (by simp [w2.sc])
 simp at hw
 have k5:Kp [rO] [rO] sA (sA.setCe rO [.i .i64 k,.s nm,.i .i64 num,o3,o4,v',o6] rO):=.setCe (by simp) (by simp)
 have hz:=h.M.z1
 have n1:=h.nx
 have hg':g'≠some rO:=by
  rcases w4 with rfl | ⟨x,rfl,hx⟩
  ·exact fun hh=>by have:=hgl rO hh; omega
  ·intro hh; cases hh; omega
 refine ⟨v',g',g15,sA,_,w1,w2.cells,hw,⟨⟨_,setCe_ce _ _ _⟩,hA.M.keep k5 (by simp; omega) (by simp; omega) (by simp; omega) (by simp; omega),hA.V.keep2 (Kp.wide' k5 (by simp) (fun x hx=>hx)) co,kp_add hA.K k5 (by simp) (by simp),hA.nx⟩,⟨fun hh=>by omega,hG.z15,?_,?_,?_⟩⟩
 ·exact w2.keep k5 (by simp; omega) (fun x hx=>.inr (by simp at hx; subst hx; exact hg'))
 ·have hgl15:=hG.o15.g_lt
  refine (hG.o15.keep w3 (by simp) (fun x hx=>.inr ?_)).keep k5 (by simp; omega) (fun x hx=>.inl (by simp at hx; omega))
  exact hG.ap x (by simpa using hx)
 ·have hgl15:=hG.o15.g_lt
  intro x hx
  rcases w4 with rfl | ⟨y,rfl,hy⟩
  ·exact hG.ap x hx
  ·have e:=Option.some.inj hx
   subst e
   intro hh
   have:=hgl15 y hh
   omega
theorem owz_row {s s':St} {lo z n r0:Nat} {v:AV} {cs l0:List AV} {g:Option Nat} {al0:List Nat} (h:OwZ s lo z v n cs g) (hr:s.ce r0=some (l0,r0,al0)) (hg:g≠some r0) (k:Kp [r0] [r0] s s'):OwZ s' lo z v n cs g:=by
 rcases h with h | h | ⟨r,f,al,rfl,rfl,hc,hl,h0,h1,h2,h3,h4⟩
 ·exact .inl h
 ·exact .inr (.inl h)
 ·have hf:f≠r0:=fun e=>hg (by rw [e])
  have hrr:r≠r0:=by
   rintro rfl
   rw [hc] at hr
   cases hr
   exact hf rfl
  exact .inr (.inr ⟨r,f,al,rfl,rfl,k.ce hc h3 h4 (by simp [hrr]) (by simp [hf]),hl,h0,h1,h2,Nat.lt_of_lt_of_le h3 k.next,Nat.lt_of_lt_of_le h4 k.next⟩)
theorem gr2_row {s s':St} {lo r0:Nat} {v5:AV} {i:Nat} {c5:List AV} {v15:AV} {m:Nat} {c15 l0:List AV} {g5 g15:Option Nat} {al0:List Nat} (h:Gr2 s lo v5 i c5 v15 m c15 g5 g15) (hr:s.ce r0=some (l0,r0,al0)) (h5:g5≠some r0) (h15:g15≠some r0) (k:Kp [r0] [r0] s s'):Gr2 s' lo v5 i c5 v15 m c15 g5 g15 :=
 ⟨h.z5,h.z15,owz_row h.o5 hr h5 k,owz_row h.o15 hr h15 k,h.ap⟩
theorem late_tail {s sX:St} {mr tr rO n:Nat} {T:List Str} {sv:AV} {S:Sco} {oc:List AV} {v5:AV} {i:Nat} {c5:List AV} {v15:AV} {m:Nat} {c15 new:List AV} {g5 g15:Option Nat}
  (h:LpT s sX mr tr rO T n sv S oc) (hG:Gr2 sX s.next v5 i c5 v15 m c15 g5 g15) (h1:allSc new=true) (h2:new.length=8) (hm:m≤1000000) (hr:rO < s.next∧mr < rO∧tr < rO) :
  ∃ v' g15' sA,bAppend Tryz.prog (sX.newCe new) [23,23] [v15,.sl sX.next 0 1 8 (some 1)]=some (v',sA)∧LpT s sA mr tr rO T n sv S oc∧Gr2 sA s.next v5 i c5 v' (m+1) (c15++new) g5 g15'∧Kp [] g15.toList sX sA∧(g15'=g15∨∃ x,g15'=some x∧sX.next≤x):=by
 obtain ⟨v',g',sA,w1,w2,w3,w4⟩:=hG.o15.app1 gr23 (new:=new) h1 h2 (by omega) h.nx
 have hgl:=hG.o15.g_lt
 have hB4:∀ x,x ∈ g15.toList→s.next≤x:=fun x hx=>(hgl x (by simpa using hx)).1
 have n1:=h.nx
 refine ⟨v',g',sA,w1,h.keep0 w3 (by simp) hB4 hr,⟨hG.z5,fun hh=>by omega,hG.o5.keep w3 (by simp) (fun x hx=>.inr fun hh=>?_),w2,fun x hx hh=>?_⟩,w3,w4⟩
 ·exact hG.ap x hh (by simpa using hx)
 ·rcases w4 with rfl | ⟨y,rfl,hy⟩
  ·exact hG.ap x hx hh
  ·have e:=Option.some.inj hh
   subst e
   have:=hG.o5.g_lt y hx
   omega
def AAt (s:St) (lo:Nat) (T:List Str) (S:Sco) (a:ExL) (k0:Int) (n0:Nat) (v5 v15:AV) (i ni:Nat):Prop :=
 ∃ (acc accL:List (List AV × Ex)) (g5 g15:Option Nat),acc.length=i∧accL.length≤i∧Gr2 s lo v5 i (ofL acc).flat v15 accL.length (ofL accL).flat g5 g15 ∧
  prepA T a S k0 0 n0=(appL acc (prepA T (dropL a i) S k0 i ni).1,appL accL (prepA T (dropL a i) S k0 i ni).2.1,(prepA T (dropL a i) S k0 i ni).2.2)∧pot T ni+((dropL a i).len+(dropL a i).wt)≤pot T n0+(a.len+a.wt)
def ASt (s:St) (mr tr rE rR rO:Nat) (T:List Str) (n:Nat) (sv:AV) (S:Sco) (k:Int) (nm:Str) (num:Int) (o3 o4 o6:AV) (a:ExL) (k0:Int) (i:Nat) (t':Tr AV) (s':St):Prop :=
 ∃ v5 ni,LpS s s' t' mr tr rE rR rO T ni sv S [.i .i64 k,.s nm,.i .i64 num,o3,o4,v5,o6]∧AAt s' s.next T S a k0 n v5 (tget t' 15) i ni
theorem LpS.tt {s s':St} {t':Tr AV} {mr tr rE rR rO n:Nat} {T:List Str} {sv:AV} {S:Sco} {oc:List AV} (h:LpS s s' t' mr tr rE rR rO T n sv S oc):LpT s s' mr tr rO T n sv S oc:=⟨h.co,h.M,h.V,h.K,h.K.next⟩
theorem LpT.ss {s s':St} {t':Tr AV} {mr tr rE rR rO n:Nat} {T:List Str} {sv:AV} {S:Sco} {oc:List AV} (h:LpT s s' mr tr rO T n sv S oc) (h0:tget t' 0 = .p mr 0) (h2:tget t' 2=sv) (h4:tget t' 4 = .p rE 0) (h6:tget t' 6 = .p rR 0) (h7:tget t' 7 = .p rO 0):LpS s s' t' mr tr rE rR rO T n sv S oc:=⟨h0,h2,h4,h6,h7,h.co,h.M,h.V,h.K⟩
set_option maxHeartbeats 2000000 in
theorem f18_args {mr tr rE rR rO n:Nat} {T:List Str} {sv:AV} {S:Sco} {k:Int} {nm:Str} {num:Int} {ps:AV} {b a l:ExL} {o3 o4 o6:AV} {s:St} {t:Tr AV} (ha:a.Ty 0) (hs:a.size≤1000000) (hIH:∀ p ∈ a.list,PrepOK c p.2)
  (h:FrP st s t mr tr rE rR rO T n sv S (.mk k nm num ps b a l) [.i .i64 k,.s nm,.i .i64 num,o3,o4,.sn,o6]) (h15:tget t 15 = .sn) (hp:pot T n+(a.len+a.wt) < 1000000) {N:Nat} (hN:a.size+4000000≤N) :
  ∃ t' s',evC (cHd (f18at 9)) ⟨Tryz.prog,Tw c N,false,Tryz.f18.ntmps,N⟩ t s = .nx t' s'∧ASt s mr tr rE rR rO T n sv S k nm num o3 o4 o6 a (strictK strF k nm a.len) a.list.length t' s':=by
 obtain ⟨l1,l2,l3,l4⟩:=h.lo
 obtain ⟨m1,m2⟩:=h.ml
 obtain ⟨al,ce⟩:=h.ce
 have hal:=a.len_le
 have ra:=(exAt ce).a
 have ln:=fun st:St=>len_sl (st:=st) Tryz.underlying37 (a.slice_len 7) (a.slice_text 7)
 have hro:rO < s.next∧mr < rO∧tr < rO:=⟨l4,by omega,by omega⟩
 have hst:=fun (s:St) (n:Nat)=>strict_call (c:=c) (st:=s) k nm num ps b a l n
 obtain ⟨k0,hk0⟩:∃ k0,strictK strF k nm a.len=k0:=⟨_,rfl⟩
 rw [hk0]
 simp only [hk0] at hst
 simp [f18at,f18b,cHd,cTl,Tryz.f18,h.t4,off40_5,load_p inf37 ag37,ra,ln,evC_loop]
 generalize hL:loopC _ _ _ _=L
 obtain ⟨t1,s1,rfl,p0⟩:=loop_use hL 4 a.list.length
  (fun i t' s'=>tget t' 99=a.slice 7∧tget t' 100 = .i .i64 (a.len:Int)∧tget t' 101 = .i .i64 (i:Int)∧ASt s mr tr rE rR rO T n sv S k nm num o3 o4 o6 a k0 i t' s')
  (fun t' s'=>ASt s mr tr rE rR rO T n sv S k nm num o3 o4 o6 a k0 a.list.length t' s') (by rw [← ExL.len_eq]; omega)
  ⟨by simp,by simp,by simp,.sn,n,h.lp (by simp) (by simp) (by simp) (by simp) (by simp),[],[],none,none,rfl,Nat.le_refl _,⟨fun _=>rfl,fun _=>by simp [h15],.nil _ _ _,by simpa [h15,ofL,ExL.flat] using OwZ.nil s s.next 8,fun _ h=>(by cases h)⟩,by simp [appL,dropL],by simp [dropL]⟩
  (by
   rintro i t' s' hi ⟨i99,i100,i101,v5,ni,iL,acc,accL,g5,g15,q1,q1',qG,q3,q4⟩
   clear hL
   obtain ⟨v15,i15⟩:∃ v,tget t' 15=v:=⟨_,rfl⟩
   rw [i15] at qG
   have hil:i < a.len:=by rw [ExL.len_eq]; exact hi
   have e3:(i:Int) < (a.len:Int):=by omega
   have e4:wr .i64 ((i:Int)+1)=((i+1:Nat):Int):=by rw [wr_in (by omega) (by omega)]; rfl
   obtain ⟨r,r1,r2⟩:=part_at ha.pre (show preLen 0+7=7 from rfl) hi
   have ix:=index_rs (P:=Tryz.prog) Tryz.underlying37 inf40 sz40 a.flat a.len i hil
   rw [← ExL.slice_rs hil,r1,List.eq_nil_of_length_eq_zero r2,List.nil_append] at ix
   have hmem:=List.getElem_mem hi
   have hT:=ExL.ty_list ha _ hmem
   have hsz':=ExL.size_mem hmem
   have ld:=fun st:St=>load_ms (st:=st) (r:=r) inf40 ag40 sz40 (a.list[i].2.cells_len)
   rw [dropL_at a i hi] at q3 q4
   simp only [ExL.wt,ExL.len] at q4
   have cl7:=a.list[i].2.cells_len
   obtain ⟨s2,u1,u2,u3,u4⟩:=alloc_store (s:=s') (z:=zL40) (cells:=a.list[i].2.cells) cl7 (Ex.cells_sc hT.2.wf)
   have L2:=iL.tt.keep0 u3 (by simp) (by simp) hro
   have rx:rd s2 s'.next 0 7=some a.list[i].2.cells:=by
    rw [rd_of u2,cut_zero]
    have:=takeN_app a.list[i].2.cells []
    rwa [Ex.cells_len,List.append_nil] at this
   have qpot:=prepE_pot T a.list[i].2 S ni
   obtain ⟨s3,f1,f2,f3⟩:=hIH _ hmem hT.2 (by omega) s2 mr tr ni T sv S N L2.M L2.V (by omega) (by omega)
   have tR:=prepE_ty T a.list[i].2 S ni hT.2
   obtain ⟨R,hR⟩:∃ R,prepE T a.list[i].2 S ni=R:=⟨_,rfl⟩
   rw [hR] at f1 f2 qpot tR
   have cR:=R.1.cells_len
   have L3:=L2.keep f3 (by simp) (by simp) hro f2 (L2.V.keep f3 (by simp))
   have G3:=(qG.keep u3 (by simp) (by simp)).keep f3 (by simp; omega) (by simp; omega)
   obtain ⟨s4,y1,y2,y3,y4⟩:=alloc_store (s:=s3) (z:=zL40) (cells:=R.1.cells) cR (Ex.cells_sc tR.wf)
   have L4:=L3.keep0 y3 (by simp) (by simp) hro
   have G4:=G3.keep y3 (by simp) (by simp)
   have takeR:takeN 7 R.1.cells=some R.1.cells:=by
    have:=takeN_app R.1.cells []
    rwa [Ex.cells_len,List.append_nil] at this
   obtain ⟨alE,cE⟩:=(iL.fr h).ce
   have n1:=iL.K.next
   have n2:=f3.next
   have cE4:=y3.ce (f3.ce (u3.ce cE (by omega) (by omega) (by simp) (by simp)) (by omega) (by omega) (by simp; omega) (by simp; omega)) (by omega) (by omega) (by simp) (by simp)
   have rE4:=(exAt cE4).all
   obtain ⟨ec,hec⟩:∃ ec,(Ex.mk k nm num ps b a l).cells=ec:=⟨_,rfl⟩
   have st4:=hst s4 (N - 2)
   rw [hec] at rE4 st4
   rw [show N - 2+2=N by omega] at st4
   have k5:=Kp.newCe (st:=s4) [] [] ec
   obtain ⟨s5,hs5⟩:∃ x,s4.newCe ec=x:=⟨_,rfl⟩
   rw [hs5] at st4 k5
   have n5:s5.next=s4.next+1:=by rw [← hs5]; rfl
   have L5:=L4.keep0 k5 (by simp) (by simp) hro
   have G5:=G4.keep k5 (by simp) (by simp)
   have y5:=k5.ce y2 (by omega) (by omega) (by simp) (by simp)
   have r5:rd s5 s3.next 0 7=some R.1.cells:=by rw [rd_of y5,cut_zero,takeR]
   have at5:=atom_call (c:=c) (st:=s5) R.1 (N - 1)
   rw [show N - 1+1=N by omega] at at5
   have k6:=Kp.newCe (st:=s5) [] [] R.1.cells
   obtain ⟨s6,hs6⟩:∃ x,s5.newCe R.1.cells=x:=⟨_,rfl⟩
   rw [hs6] at at5 k6
   have n6:s6.next=s5.next+1:=by rw [← hs6]; rfl
   have L6:=L5.keep0 k6 (by simp) (by simp) hro
   have G6:=G5.keep k6 (by simp) (by simp)
   have y6:=k6.ce y5 (by omega) (by omega) (by simp) (by simp)
   have r6:rd s6 s3.next 0 7=some R.1.cells:=by rw [rd_of y6,cut_zero,takeR]
   have zz:zeroC Tryz.prog 40=some zL40:=zC40
   by_cases hk:k0≤(i:Int)
   ·cases hat:R.1.atom with
    | true =>
     rw [hat] at at5
     obtain ⟨v',g5',g15',sA,sB,w1,w2,w3,w4,w5⟩:=args_tail L6 G6 tR (by omega) hro
     obtain ⟨al6,co6⟩:=L6.co
     have rO6:rd s6 rO 5 1=some [v5]:=by rw [rd_of co6]; rfl
     have bo:=fun (t:Tr AV) (h:evO t (.tmp 132) = .ag R.1.cells)=>build_one (S:=Tw c N) (t:=t) (st:=s6) gr37 (x:=.tmp 132) (cs:=R.1.cells) (by rw [h]; exact cells_ag _) cR
     simp [i99,i100,i101,iL.t0,iL.t2,iL.t4,iL.t7,e3,e4,ix,ld,opH_alloc,zz,store_ag inf40 sz40,cl7,u1,load_ag inf40 ag40,sz40,rx,callF_of Tryz.func18 rfl,f1,cR,y1,rE4,callF_of Tryz.func38 rfl,st4,hk,r5,r6,callF_of Tryz.func39 rfl,at5,off40_5,load_p inf37 ag37,rO6,bo,w1,store_p inf37 sz37,w2,w3]
     refine ⟨_,_,⟨rfl,rfl⟩,by simp [i99],by simp [i100],by simp,v',R.2,w4.ss (by simp [iL.t0]) (by simp [iL.t2]) (by simp [iL.t4]) (by simp [iL.t6]) (by simp [iL.t7]),acc++[([],R.1)],accL,g5',g15',by simp [q1],by omega,?_,?_,by omega⟩
     ·rw [ofL_snoc]; simpa [i15] using w5
     ·rw [q3,prepA]
      simp only [hR,hk,hat,true_and,Bool.true_eq_false,if_false]
      rw [appL_app]; rfl
    | false =>
     rw [hat] at at5
     rw [prepA] at q3
     simp only [hR,hk,hat,true_and,if_true] at q3
     have qn:=pot_nxt T R.2
     have qb:=le_pot T (nxt T R.2)
     obtain ⟨s7,e7,M7,k7⟩:=fresh_call (c:=c) L6.M (by omega) (N:=N) (by omega)
     obtain ⟨pn,hpn⟩:∃ pn,pname (nxt T R.2)=pn:=⟨_,rfl⟩
     rw [hpn] at e7 q3
     have L7:=L6.keep k7 (by simp) (by simp) hro M7 (L6.V.keep k7 (by simp))
     have G7:=G6.keep k7 (by simp; omega) (by simp; omega)
     have n7:=k7.next
     have y7:=k7.ce y6 (by omega) (by omega) (by simp; omega) (by simp; omega)
     have r7:rd s7 s3.next 0 7=some R.1.cells:=by rw [rd_of y7,cut_zero,takeR]
     have bo1:=fun (t:Tr AV) (h1:evO t (.tmp 120) = .s pn) (h2:evO t (.tmp 121) = .ag R.1.cells)=>build42 (S:=Tw c N) (st:=s7) (t:=t) h1 h2 cR
     have sR:allSc (.s pn :: R.1.cells)=true:=by simp [Ex.cells_sc tR.wf]
     have cR8:(AV.s pn :: R.1.cells).length=8:=by simp [cR]
     obtain ⟨s8,z1,z2,z3,z4⟩:=alloc_store (s:=s7) (z:=zL42) (cells:=.s pn :: R.1.cells) cR8 sR
     have L8:=L7.keep0 z3 (by simp) (by simp) hro
     have G8:=G7.keep z3 (by simp) (by simp)
     have y8:=z3.ce y7 (by omega) (by omega) (by simp) (by simp)
     have r8:rd s8 s7.next 0 8=some (.s pn :: R.1.cells):=by
      rw [rd_of z2,cut_zero]
      have:=takeN_app (.s pn :: R.1.cells) []
      rwa [cR8,List.append_nil] at this
     have bo2:=fun (t:Tr AV) (h:evO t (.tmp 124) = .ag (.s pn :: R.1.cells))=>build_one (S:=Tw c N) (t:=t) (st:=s8) gr23 (x:=.tmp 124) (cs:=.s pn :: R.1.cells) (by rw [h]; exact cells_ag _) cR8
     have hacc:=hi
     obtain ⟨v15',g15',s9,x1,L9,G9,k9,x4⟩:=late_tail L8 G8 sR cR8 (by omega) hro
     have n9:=k9.next
     have hgl:=qG.o15.g_lt
     have hB9:∀ x,x ∈ g15.toList→x < s'.next:=fun x hx=>(hgl x (by simpa using hx)).2
     have y9:=k9.ce y8 (by omega) (by omega) (by simp) (fun hh=>by have:=hB9 _ hh; omega)
     have z9:=k9.ce z2 (by omega) (by omega) (by simp) (fun hh=>by have:=hB9 _ hh; omega)
     have r9:rd s9 s7.next 0 1=some [.s pn]:=by rw [rd_of z9]; simp
     have bo3:=fun (t:Tr AV) (h2:evO t (.tmp 128) = .s pn)=>build40v (S:=Tw c N) (st:=s9) (t:=t) (x:=.const (.int .i64 1)) (evO_int t .i64 1) h2
     have hw:=wt_of y9 0 (varE pn).cells (by rw [Ex.cells_len,cR]; omega) (by simp [varE,Ex.cells,ExL.slice])
     rw [ovr_zero,over_all (by rw [Ex.cells_len,cR])] at hw
     have k10:Kp [s3.next] [s3.next] s9 (s9.setCe s3.next (varE pn).cells s3.next):=.setCe (by simp) (by simp)
     have c10:(s9.setCe s3.next (varE pn).cells s3.next).ce s3.next=some ((varE pn).cells,s3.next,[s3.next]):=setCe_ce _ _ _
     obtain ⟨s10,hs10⟩:∃ x,s9.setCe s3.next (varE pn).cells s3.next=x:=⟨_,rfl⟩
     rw [hs10] at hw k10 c10
     have vc:(varE pn).cells=[.i .i64 1,.s pn,.i .i64 0,.sn,.sn,.sn,.sn]:=by simp [varE,Ex.cells,ExL.slice]
     have r10:rd s10 s3.next 0 7=some [.i .i64 1,.s pn,.i .i64 0,.sn,.sn,.sn,.sn]:=by rw [rd_of c10,vc]; rfl
     have L10:=L9.keep0 k10 (fun x hx=>.inr ⟨by simp at hx; omega,by simp at hx; subst hx; exact ⟨_,y9⟩⟩) (fun x hx=>by simp at hx; omega) hro
     have G10:=gr2_row G9 y9 (fun hh=>by have:=qG.o5.g_lt _ hh; omega) (fun hh=>by
      rcases x4 with e | ⟨y,e,hy⟩
      ·rw [e] at hh; have:=hgl _ hh; omega
      ·rw [e] at hh; cases hh; omega) k10
     have tV:(varE pn).Ty:=by
      simp only [varE,Ex.Ty,ExL.Ty]
      exact ⟨⟨by decide,by decide⟩,⟨[],.inl ⟨rfl,rfl⟩,by decide⟩,trivial,trivial,trivial⟩
     obtain ⟨v',g5',g15'',sA,sB,w1,w2,w3,w4,w5⟩:=args_tail L10 G10 tV (by omega) hro
     obtain ⟨al6,co6⟩:=L10.co
     have rO6:rd s10 rO 5 1=some [v5]:=by rw [rd_of co6]; rfl
     rw [vc] at hw w1
     have bo:=fun (t:Tr AV) (h:evO t (.tmp 132) = .ag [.i .i64 1,.s pn,.i .i64 0,.sn,.sn,.sn,.sn])=>build_one (S:=Tw c N) (t:=t) (st:=s10) gr37 (x:=.tmp 132) (cs:=[.i .i64 1,.s pn,.i .i64 0,.sn,.sn,.sn,.sn]) (by rw [h]; exact cells_ag _) rfl
     have zz2:zeroC Tryz.prog 42=some zL42:=zC42
     simp [i99,i100,i101,iL.t0,iL.t2,iL.t4,e3,ix,ld,opH_alloc,zz,store_ag inf40 sz40,cl7,u1,load_ag inf40 ag40,sz40,rx,callF_of Tryz.func18 rfl,f1,cR,y1,rE4,callF_of Tryz.func38 rfl,st4,hk,r5,callF_of Tryz.func39 rfl,at5,evC_draw]
     rw [drawC_eq (fl:=[(2,0)])]
     ·simp [i101,i15,iL.t0,iL.t7,e4,callF_of Tryz.func40 rfl,e7,load_ag inf40 ag40,sz40,r7,bo1,opH_alloc,zz2,store_ag inf42 sz42,cR,z1,load_ag inf42 ag42,sz42,r8,bo2,x1,off42_0,load_p inf9 ag9,r9,bo3,store_ag inf40 sz40,hw,r10,off40_5,load_p inf37 ag37,rO6,bo,w1,store_p inf37 sz37,w2,w3]
      refine ⟨_,_,⟨rfl,rfl⟩,by simp [i99],by simp [i100],by simp,v',nxt T R.2,w4.ss (by simp [iL.t0]) (by simp [iL.t2]) (by simp [iL.t4]) (by simp [iL.t6]) (by simp [iL.t7]),acc++[([],varE pn)],accL++[([.s pn],R.1)],g5',g15'',by simp [q1],by simp; omega,?_,?_,by omega⟩
      ·rw [ofL_snoc,ofL_snoc,List.length_append]; simpa using w5
      ·rw [q3,appL_app,appL_app]; rfl
     ·kernel_rfl
     ·intro R' hR'
      simp [iL.t0,callF_of Tryz.func40 rfl,e7,load_ag inf40 ag40,sz40,r7,bo1,opH_alloc,zz2,store_ag inf42 sz42,cR,z1] at hR'
      subst hR'
      simp only [List.all_cons,List.all_nil,Bool.and_true]
      refine recheck_eq rfl rfl rfl (s:=s6) ?_
      simp [load_ag inf40 ag40,sz40,r6]
   ·obtain ⟨v',g5',g15',sA,sB,w1,w2,w3,w4,w5⟩:=args_tail L5 G5 tR (by omega) hro
    obtain ⟨al6,co6⟩:=L5.co
    have rO6:rd s5 rO 5 1=some [v5]:=by rw [rd_of co6]; rfl
    have bo:=fun (t:Tr AV) (h:evO t (.tmp 132) = .ag R.1.cells)=>build_one (S:=Tw c N) (t:=t) (st:=s5) gr37 (x:=.tmp 132) (cs:=R.1.cells) (by rw [h]; exact cells_ag _) cR
    simp [i99,i100,i101,iL.t0,iL.t2,iL.t4,iL.t7,e3,e4,ix,ld,opH_alloc,zz,store_ag inf40 sz40,cl7,u1,load_ag inf40 ag40,sz40,rx,callF_of Tryz.func18 rfl,f1,cR,y1,rE4,callF_of Tryz.func38 rfl,st4,hk,r5,off40_5,load_p inf37 ag37,rO6,bo,w1,store_p inf37 sz37,w2,w3]
    refine ⟨_,_,⟨rfl,rfl⟩,by simp [i99],by simp [i100],by simp,v',R.2,w4.ss (by simp [iL.t0]) (by simp [iL.t2]) (by simp [iL.t4]) (by simp [iL.t6]) (by simp [iL.t7]),acc++[([],R.1)],accL,g5',g15',by simp [q1],by omega,?_,?_,by omega⟩
    ·rw [ofL_snoc]; simpa [i15] using w5
    ·rw [q3,prepA]
     simp only [hR,hk,false_and,if_false]
     rw [appL_app]; rfl)
  (by
   rintro t' s' ⟨i99,i100,i101,v5,ni,iL,iA⟩
   clear hL
   simp [i100,i101,ExL.len_eq]
   exact ⟨_,_,⟨rfl,rfl⟩,v5,ni,⟨by simp [iL.t0],by simp [iL.t2],by simp [iL.t4],by simp [iL.t6],by simp [iL.t7],iL.co,iL.M,iL.V,iL.K⟩,by simpa using iA⟩)
 clear hL
 exact ⟨t1,s1,by simp,p0⟩
end
end Go.Proofs.YtbemeikjepjhoaaGreatDoor
namespace Go.Proofs.YtbemeikjepjhoaaGreatDoor
open Go.Ev
set_option maxRecDepth 100000
noncomputable section
variable {c : Option Self} {st : St}
def LAt (s:St) (lo:Nat) (T:List Str) (S:Sco) (l:ExL) (n0:Nat) (v:AV) (i ni:Nat):Prop :=
 ∃ (acc:List (List AV × Ex)),acc.length=i∧GrO s lo 11 v i (ofL acc).flat ∧
  prepL T l S n0=(appL acc (prepL T (dropL l i) S ni).1,(prepL T (dropL l i) S ni).2)∧pot T ni+(dropL l i).wtA≤pot T n0+l.wtA
def LSt (s:St) (mr tr rE rR rO:Nat) (T:List Str) (n:Nat) (sv:AV) (S:Sco) (k:Int) (nm:Str) (num:Int) (o3 o4 o5:AV) (l:ExL) (i:Nat) (t':Tr AV) (s':St):Prop :=
 ∃ v6 ni,LpS s s' t' mr tr rE rR rO T ni sv S [.i .i64 k,.s nm,.i .i64 num,o3,o4,o5,v6]∧LAt s' s.next T S l n v6 i ni
set_option maxHeartbeats 2000000 in
theorem f18_alts {mr tr rE rR rO n:Nat} {T:List Str} {sv v15:AV} {S:Sco} {k:Int} {nm:Str} {num:Int} {ps:AV} {b a l:ExL} {o3 o4 o5:AV} {s:St} {t:Tr AV} (hl:l.Ty 4) (hs:l.size≤1000000) (hIH:∀ p ∈ l.list,PrepOK c p.2)
  (h:FrP st s t mr tr rE rR rO T n sv S (.mk k nm num ps b a l) [.i .i64 k,.s nm,.i .i64 num,o3,o4,o5,.sn]) (h15:tget t 15=v15) (hp:pot T n+l.wtA < 1000000) {N:Nat} (hN:l.size+4000000≤N) :
  ∃ t' s' v6,evC (cHd (f18at 10)) ⟨Tryz.prog,Tw c N,false,Tryz.f18.ntmps,N⟩ t s = .nx t' s'∧FrP st s' t' mr tr rE rR rO T (prepL T l S n).2 sv S (.mk k nm num ps b a l) [.i .i64 k,.s nm,.i .i64 num,o3,o4,o5,v6]∧GrO s' s.next 11 v6 l.len (prepL T l S n).1.flat∧Kp [mr,tr,rO] [mr,rO] s s'∧(∃ L,(prepL T l S n).1=ofL L)∧tget t' 15=v15:=by
 obtain ⟨l1,l2,l3,l4⟩:=h.lo
 obtain ⟨m1,m2⟩:=h.ml
 obtain ⟨al,ce⟩:=h.ce
 have hll:=l.len_le
 have rl:=(exAt ce).l
 have ln:=fun st:St=>len_sl (st:=st) Tryz.underlying38 (l.slice_len 11) (l.slice_text 11)
 have hro:rO < s.next∧mr < rO∧tr < rO:=⟨l4,by omega,by omega⟩
 have key:∃ t' s',evC (cHd (f18at 10)) ⟨Tryz.prog,Tw c N,false,Tryz.f18.ntmps,N⟩ t s = .nx t' s'∧LSt s mr tr rE rR rO T n sv S k nm num o3 o4 o5 l l.list.length t' s'∧tget t' 15=v15:=by
  simp [f18at,f18b,cHd,cTl,Tryz.f18,h.t4,off40_6,load_p inf38 ag38,rl,ln,evC_loop]
  generalize hL:loopC _ _ _ _=L
  obtain ⟨t1,s1,rfl,p0,p15⟩:=loop_use hL 6 l.list.length
   (fun i t' s'=>tget t' 15=v15∧tget t' 138=l.slice 11∧tget t' 139 = .i .i64 (l.len:Int)∧tget t' 140 = .i .i64 (i:Int)∧LSt s mr tr rE rR rO T n sv S k nm num o3 o4 o5 l i t' s')
   (fun t' s'=>LSt s mr tr rE rR rO T n sv S k nm num o3 o4 o5 l l.list.length t' s'∧tget t' 15=v15) (by rw [← ExL.len_eq]; omega)
   ⟨by simp [h15],by simp,by simp,by simp,.sn,n,h.lp (by simp) (by simp) (by simp) (by simp) (by simp),[],rfl,⟨none,fun _=>rfl,.nil _ _ _⟩,by simp [appL,dropL],by simp [dropL]⟩
   (by
    rintro i t' s' hi ⟨i15,i138,i139,i140,v6,ni,iL,acc,q1,⟨g,q0,qO⟩,q3,q4⟩
    clear hL
    have hil:i < l.len:=by rw [ExL.len_eq]; exact hi
    have e3:(i:Int) < (l.len:Int):=by omega
    have e4:wr .i64 ((i:Int)+1)=((i+1:Nat):Int):=by rw [wr_in (by omega) (by omega)]; rfl
    obtain ⟨r,r1,r2⟩:=part_at hl.pre (show preLen 4+7=11 from rfl) hi
    have ix:=index_rs (P:=Tryz.prog) Tryz.underlying38 inf80 sz80 l.flat l.len i hil
    rw [← ExL.slice_rs hil,r1,← List.append_assoc] at ix
    have hmem:=List.getElem_mem hi
    have hT:=ExL.ty_list hl _ hmem
    have hsz':=ExL.size_mem hmem
    obtain ⟨vs,p1,p2,p3⟩:=altH_ty hT.1
    obtain ⟨H,hH⟩:∃ H,altH l.list[i]=H:=⟨_,rfl⟩
    rw [hH] at p1 p3
    have hce:(l.list[i].1++l.list[i].2.cells).length=11:=by rw [List.length_append,r2,Ex.cells_len]; rfl
    have hsc:allSc (l.list[i].1++l.list[i].2.cells)=true:=allSc_append hT.1.sc (Ex.cells_sc hT.2.wf)
    have ld:=fun st:St=>load_ms (st:=st) (r:=r) inf80 ag80 sz80 hce
    have c0:cut (l.list[i].1++l.list[i].2.cells) 0 1=some [.i .i64 H.k]:=by rw [p1]; rfl
    have c1:cut (l.list[i].1++l.list[i].2.cells) 1 1=some [.s H.n]:=by rw [p1]; rfl
    have c2:cut (l.list[i].1++l.list[i].2.cells) 2 1=some [.i .i64 H.m]:=by rw [p1]; rfl
    have c3:cut (l.list[i].1++l.list[i].2.cells) 3 1=some [vs]:=by rw [p1]; rfl
    have c4:cut (l.list[i].1++l.list[i].2.cells) 4 7=some l.list[i].2.cells:=by
     rw [p1]
     have:=takeN_app l.list[i].2.cells []
     rw [Ex.cells_len,List.append_nil] at this
     simpa using this
    generalize l.list[i].1++l.list[i].2.cells=cl at *
    obtain ⟨s2,u1,u2,u3,u4⟩:=alloc_store (s:=s') (z:=zL80) hce hsc
    have L2:=iL.tt.keep0 u3 (by simp) (by simp) hro
    have n1:=iL.K.next
    have n2:=u3.next
    rw [dropL_at l i hi] at q3 q4
    have wt1:(ExL.cons l.list[i].1 l.list[i].2 (dropL l (i+1))).wtA=H.vs.length+l.list[i].2.wt+(dropL l (i+1)).wtA:=by
     simp only [ExL.wtA]
     rw [show ((l.list[i].1,l.list[i].2):List AV × Ex)=l.list[i] from rfl,hH]
    rw [wt1] at q4
    have pr1:∀ m,prepL T (ExL.cons l.list[i].1 l.list[i].2 (dropL l (i+1))) S m=(.cons [.i .i64 H.k,.s H.n,.i .i64 H.m,slN (withN T S H.vs m).2.1] (prepE T l.list[i].2 (withN T S H.vs m).1 (withN T S H.vs m).2.2).1 (prepL T (dropL l (i+1)) S (prepE T l.list[i].2 (withN T S H.vs m).1 (withN T S H.vs m).2.2).2).1,(prepL T (dropL l (i+1)) S (prepE T l.list[i].2 (withN T S H.vs m).1 (withN T S H.vs m).2.2).2).2):=by
     intro m
     simp only [prepL]
     rw [show ((l.list[i].1,l.list[i].2):List AV × Ex)=l.list[i] from rfl,hH]
    rw [pr1] at q3
    have qw:=(withN_pot T H.vs S ni).1
    have qwb:=le_pot T ni
    obtain ⟨s3,sv3,f1,f2,f3,f4⟩:=with_call (c:=c) (st:=s2) (v:=vs) (l:=H.vs) (.inl (by rw [p3]; exact isNm_sl p2)) (by omega) L2.V L2.M (by omega) (N:=N) (by omega)
    obtain ⟨W,hW⟩:∃ W,withN T S H.vs ni=W:=⟨_,rfl⟩
    rw [hW] at f1 f2 f3 q3 qw
    have L3:=L2.keep f4 (by simp) (by simp) hro f3 (L2.V.keep f4 (by simp))
    have n3:=f4.next
    have u2':=f4.ce u2 (by omega) (by omega) (by simp; omega) (by simp; omega)
    have d0:rd s3 s'.next 0 1=some [.i .i64 H.k]:=by rw [rd_of u2',c0]
    have d1:rd s3 s'.next 1 1=some [.s H.n]:=by rw [rd_of u2',c1]
    have d2:rd s3 s'.next 2 1=some [.i .i64 H.m]:=by rw [rd_of u2',c2]
    have d3:rd s2 s'.next 3 1=some [vs]:=by rw [rd_of u2,c3]
    have d4:rd s3 s'.next 4 7=some l.list[i].2.cells:=by rw [rd_of u2',c4]
    obtain ⟨al3,co3⟩:=L3.co
    have rO3:rd s3 rO 6 1=some [v6]:=by rw [rd_of co3]; rfl
    have qpot:=prepE_pot T l.list[i].2 W.1 W.2.2
    obtain ⟨s4,e5,e6,e7⟩:=hIH _ hmem hT.2 (by omega) s3 mr tr W.2.2 T sv3 W.1 N L3.M f2 (by omega) (by omega)
    have tR:=prepE_ty T l.list[i].2 W.1 W.2.2 hT.2
    obtain ⟨R,hR⟩:∃ R,prepE T l.list[i].2 W.1 W.2.2=R:=⟨_,rfl⟩
    rw [hR] at e5 e6 q3 qpot tR
    have cR:=R.1.cells_len
    have L4:=L3.keep e7 (by simp) (by simp) hro e6 (L3.V.keep e7 (by simp))
    have n4:=e7.next
    obtain ⟨al4,co4⟩:=L4.co
    have rO4:rd s4 rO 6 1=some [v6]:=by rw [rd_of co4]; rfl
    have u2'':=e7.ce u2' (by omega) (by omega) (by simp; omega) (by simp; omega)
    have g0:rd s4 s'.next 0 1=some [.i .i64 H.k]:=by rw [rd_of u2'',c0]
    have g1:rd s4 s'.next 1 1=some [.s H.n]:=by rw [rd_of u2'',c1]
    have g2:rd s4 s'.next 2 1=some [.i .i64 H.m]:=by rw [rd_of u2'',c2]
    have bo:=fun (t:Tr AV) (h1:evO t (.tmp 155) = .i .i64 H.k) (h2:evO t (.tmp 157) = .s H.n) (h3:evO t (.tmp 159) = .i .i64 H.m) (h4:evO t (.tmp 160)=slN W.2.1) (h5:evO t (.tmp 165) = .ag R.1.cells)=>build80 (S:=Tw c N) (st:=s4) (t:=t) h1 h2 h3 h4 h5 cR (slN_cells _).1
    have cN:(AV.i IntKind.i64 H.k :: AV.s H.n :: AV.i IntKind.i64 H.m :: slN W.2.1 :: R.1.cells).length=11:=by simp [cR]
    have bo2:=fun (t:Tr AV) (h:evO t (.tmp 166) = .ag (.i .i64 H.k :: .s H.n :: .i .i64 H.m :: slN W.2.1 :: R.1.cells))=>build_one (S:=Tw c N) (t:=t) (st:=s4) gr38 (x:=.tmp 166) (cs:=.i .i64 H.k :: .s H.n :: .i .i64 H.m :: slN W.2.1 :: R.1.cells) (by rw [h]; exact cells_ag _) cN
    have sR:allSc (AV.i IntKind.i64 H.k :: AV.s H.n :: AV.i IntKind.i64 H.m :: slN W.2.1 :: R.1.cells)=true:=by simp [Ex.cells_sc tR.wf,(slN_cells W.2.1).2]
    have O4:=((qO.keep u3 (by simp) (by simp)).keep f4 (by simp; omega) (fun x hx=>.inl (by simp at hx; omega))).keep e7 (by simp; omega) (fun x hx=>.inl (by simp at hx; omega))
    obtain ⟨v',g',s5,w1,w2,w3,w4⟩:=O4.app1 gr38 sR cN (by omega) L4.nx
    have hgl:=qO.g_lt
    have hB4:∀ x,x ∈ g.toList→s.next≤x:=fun x hx=>(hgl x (by simpa using hx)).1
    have L5:=L4.keep0 w3 (by simp) hB4 hro
    obtain ⟨al5,co5⟩:=L5.co
    have hw:=wt_of co5 6 [v'] (by simp) (by simp [w2.sc])
    simp at hw
    have k5:Kp [rO] [rO] s5 (s5.setCe rO [.i .i64 k,.s nm,.i .i64 num,o3,o4,o5,v'] rO):=.setCe (by simp) (by simp)
    have c5:(s5.setCe rO [.i .i64 k,.s nm,.i .i64 num,o3,o4,o5,v'] rO).ce rO=some ([.i .i64 k,.s nm,.i .i64 num,o3,o4,o5,v'],rO,[rO]):=setCe_ce _ _ _
    obtain ⟨s6,hs6⟩:∃ x,s5.setCe rO [.i .i64 k,.s nm,.i .i64 num,o3,o4,o5,v'] rO=x:=⟨_,rfl⟩
    rw [hs6] at hw k5 c5
    have hz:=iL.M.z1
    have L6:LpT s s6 mr tr rO T R.2 sv S [.i .i64 k,.s nm,.i .i64 num,o3,o4,o5,v'] :=
     ⟨⟨_,c5⟩,L5.M.keep k5 (by simp; omega) (by simp; omega) (by simp; omega) (by simp; omega),L5.V.keep2 (Kp.wide' k5 (by simp) (fun x hx=>hx)) co5,kp_add L5.K k5 (by simp) (by simp),Nat.le_trans L5.nx k5.next⟩
    have G6:GrO s6 s.next 11 v' (i+1) (ofL (acc++[([.i .i64 H.k,.s H.n,.i .i64 H.m,slN W.2.1],R.1)])).flat:=by
     refine ⟨g',fun hh=>by omega,?_⟩
     rw [ofL_snoc]
     have hg':g'≠some rO:=by
      rcases w4 with rfl | ⟨x,rfl,hx⟩
      ·exact fun hh=>by have:=hgl rO hh; omega
      ·intro hh; cases hh; omega
     exact w2.keep k5 (by simp; omega) (fun x hx=>.inr (by simp at hx; subst hx; exact hg'))
    have zz:zeroC Tryz.prog 80=some zL80:=zC80
    simp [i138,i139,i140,iL.t0,iL.t2,e3,ix,ld,opH_alloc,zz,store_ag inf80 sz80,hce,u1,off80_3,load_p inf36 ag36,d3,callF_of Tryz.func37 rfl,f1,evC_draw]
    rw [drawC_eq (fl:=[(1,14),(3,14),(5,14),(7,14)])]
    ·simp [iL.t0,iL.t7,i140,off40_6,off80_0,off80_1,off80_2,off80_4,load_p inf38 ag38,rO3,load_p inf3 ag3,load_p inf9 ag9,load_p inf2 ag2,d0,d1,d2,load_ag inf40 ag40,sz40,d4,callF_of Tryz.func18 rfl,e5,bo,bo2,w1,store_p inf38 sz38,w2.cells,hw,e4]
     refine ⟨_,_,⟨rfl,rfl⟩,by simp [i15],by simp [i138],by simp [i139],by simp,v',R.2,L6.ss (by simp [iL.t0]) (by simp [iL.t2]) (by simp [iL.t4]) (by simp [iL.t6]) (by simp [iL.t7]),acc++[([.i .i64 H.k,.s H.n,.i .i64 H.m,slN W.2.1],R.1)],by simp [q1],G6,?_,by omega⟩
     rw [q3,appL_app]
     rfl
    ·kernel_rfl
    ·intro R' hR'
     simp [iL.t0,iL.t7,off40_6,off80_0,off80_1,off80_2,off80_4,load_p inf38 ag38,rO3,load_p inf3 ag3,load_p inf9 ag9,load_p inf2 ag2,d0,d1,d2,load_ag inf40 ag40,sz40,d4,callF_of Tryz.func18 rfl,e5,bo,bo2,w1,store_p inf38 sz38,w2.cells,hw] at hR'
     subst hR'
     simp only [List.all_cons,List.all_nil,Bool.and_true,Bool.and_eq_true]
     refine ⟨recheck_eq rfl rfl rfl (s:=s4) ?_,recheck_eq rfl rfl rfl (s:=s4) ?_,recheck_eq rfl rfl rfl (s:=s4) ?_,recheck_eq rfl rfl rfl (s:=s4) ?_⟩
     ·simp [load_p inf38 ag38,rO4]
     ·simp [load_p inf3 ag3,g0]
     ·simp [load_p inf9 ag9,g1]
     ·simp [load_p inf2 ag2,g2])
   (by
    rintro t' s' ⟨i15,i138,i139,i140,v6,ni,iL,iB⟩
    clear hL
    simp [i139,i140,ExL.len_eq]
    refine ⟨_,_,⟨rfl,rfl⟩,⟨v6,ni,⟨by simp [iL.t0],by simp [iL.t2],by simp [iL.t4],by simp [iL.t6],by simp [iL.t7],iL.co,iL.M,iL.V,iL.K⟩,iB⟩,by simp [i15]⟩)
  clear hL
  exact ⟨t1,s1,by simp,p0,p15⟩
 obtain ⟨t',s',q1,⟨v6,ni,q2,acc,a1,a2,a4,a5⟩,a15⟩:=key
 obtain ⟨f,hf⟩:=dropL_end l
 rw [hf] at a4
 simp only [prepL,appL_nil] at a4
 refine ⟨t',s',v6,q1,?_,?_,q2.K,⟨acc,by rw [a4]⟩,a15⟩
 ·rw [a4]; exact q2.fr h
 ·rw [a4,ExL.len_eq]
  exact a2
end
end Go.Proofs.YtbemeikjepjhoaaGreatDoor
