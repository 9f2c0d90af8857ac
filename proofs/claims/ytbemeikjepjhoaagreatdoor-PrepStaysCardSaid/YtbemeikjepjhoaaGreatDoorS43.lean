/-
  The preparation of an expression, whole. · The preparation of an expression: what it answers. · The preparation of a program: its constructors, its names. · The preparation of a program: its beginning. · The preparation of a program: the names that are taken, the constructors' copy.
-/
import Derived.Test.YtbemeikjepjhoaaGreatDoorS42
namespace Go.Proofs.YtbemeikjepjhoaaGreatDoor
open Go.Ev
set_option maxRecDepth 100000
noncomputable section
variable {c : Option Self} {st : St}
theorem grO_cells {s:St} {lo z n:Nat} {v:AV} {cs:List AV} (h:GrO s lo z v n cs):v.cells=some [v]∧isSc v=true:=by
 obtain ⟨g,-,h⟩:=h
 exact ⟨h.cells,h.sc⟩
theorem GrO.keep' {s s':St} {lo z n mr tr rO:Nat} {v:AV} {cs:List AV} (h:GrO s lo z v n cs) (k:Kp [mr,tr,rO] [mr,rO] s s') (h1:mr < lo∧tr < lo∧rO < lo):GrO s' lo z v n cs:=by
 obtain ⟨g,h0,h⟩:=h
 refine ⟨g,h0,h.keep k (fun x hx=>?_) (fun x hx=>.inl ?_)⟩
 ·simp at hx; omega
 ·simp at hx; omega
theorem GrO.keep0' {s s':St} {lo z n:Nat} {v:AV} {cs:List AV} {A B:List Nat} (h:GrO s lo z v n cs) (k:Kp A B s s') (hA:∀ x,x ∈ A→x < lo) (hB:∀ x,x ∈ B→x < lo):GrO s' lo z v n cs:=by
 obtain ⟨g,h0,h⟩:=h
 exact ⟨g,h0,h.keep k hA (fun x hx=>.inl (hB x hx))⟩
theorem GrO.part {s:St} {lo z n0:Nat} {v:AV} {L:List (List AV × Ex)} {l:ExL} {m:Nat} (h:GrO s lo z v l.len l.flat) (hl:l=ofL L) (hn:n0≤lo) (hz:1≤z) (hT:l.Ty m):Fz n0 s v (l.slice z):=by
 subst hl
 obtain ⟨g,h0,h⟩:=h
 rw [ofL_len] at h h0
 obtain ⟨v',h1,h2⟩:=h.fz hn hz (FzL.pure (ExL.flat_pure hT))
 rcases Nat.eq_zero_or_pos L.length with e | e
 ·have e1:=h0 e
  subst e1
  have:v' = .sn:=h1.uniq (.pure rfl)
  rw [← gr_slice (fun _=>this) h2]; exact h1
 ·rw [← gr_slice (fun hh=>by omega) h2]; exact h1
def EndR (o:Out) (st:St) (mr tr rR:Nat) (T:List Str) (n:Nat) (y:Ex):Prop :=
 ∃ t' s' cs,o = .rt t' s'∧tget t' 6 = .p rR 0∧(∃ al,s'.ce rR=some (cs,rR,al))∧cs.length=7∧FzL st.next s' cs y.cells∧Kp [mr,tr] [mr] st s'∧Mk s' mr tr T n
theorem f18_end {mr tr rE rR rO n:Nat} {T:List Str} {sv:AV} {S:Sco} {k:Int} {nm:Str} {num:Int} {x:Ex} {v4 v5 v6 v15:AV} {pn:List Str} {lb la ll lt:ExL} {Lb La Ll Lt:List (List AV × Ex)} {lo4 lo5 lo6:Nat} {s:St} {t:Tr AV}
  (h:FrP st s t mr tr rE rR rO T n sv S x [.i .i64 k,.s nm,.i .i64 num,slN pn,v4,v5,v6]) (h15:tget t 15=v15)
  (g4:GrO s lo4 8 v4 lb.len lb.flat) (g5:GrO s lo5 7 v5 la.len la.flat) (g6:GrO s lo6 11 v6 ll.len ll.flat) (g15:GrO s lo5 8 v15 lt.len lt.flat)
  (e4:lb=ofL Lb) (e5:la=ofL La) (e6:ll=ofL Ll) (e15:lt=ofL Lt) (t4:lb.Ty 1) (t5:la.Ty 0) (t6:ll.Ty 4) (t15:lt.Ty 1) (tO:(Ex.mk k nm num (slN pn) lb la ll).Ty)
  (q4:rO < lo4) (q5:rO < lo5) (q6:rO < lo6) (hm:lt.len≤1000000) {N:Nat} :
  EndR (evC (f18at 11) ⟨Tryz.prog,Tw c N,false,Tryz.f18.ntmps,N⟩ t s) st mr tr rR T n (wrapE lt (.mk k nm num (slN pn) lb la ll)):=by
 obtain ⟨l1,l2,l3,l4⟩:=h.lo
 obtain ⟨m1,m2⟩:=h.ml
 obtain ⟨al2,cr⟩:=h.cr
 obtain ⟨al3,co⟩:=h.co
 have c4:=grO_cells g4
 have c5:=grO_cells g5
 have c6:=grO_cells g6
 have c15:=grO_cells g15
 have cp:=slN_cells pn
 have ro:rd s rO 0 7=some [.i .i64 k,.s nm,.i .i64 num,slN pn,v4,v5,v6]:=by rw [rd_of co]; rfl
 have sO:allSc [.i .i64 k,.s nm,.i .i64 num,slN pn,v4,v5,v6]=true:=by simp [c4.2,c5.2,c6.2,cp.2]
 have fzO:∀ {s':St} {A B:List Nat},Kp A B s s'→(∀ x,x ∈ A→x≤rO)→(∀ x,x ∈ B→x≤rO)→FzL st.next s' [.i .i64 k,.s nm,.i .i64 num,slN pn,v4,v5,v6] (Ex.mk k nm num (slN pn) lb la ll).cells:=by
  intro s' A B kk hA hB
  unfold Ex.cells
  have pp:pureV (slN pn)=true:=(slN_sl pn).pure (pure_strs pn)
  refine .cons (.pure rfl) (.cons (.pure rfl) (.cons (.pure rfl) (.cons (.pure pp) (.cons ?_ (.cons ?_ (.cons ?_ .nil))))))
  ·exact (g4.keep0' kk (fun x hx=>by have:=hA x hx; omega) (fun x hx=>by have:=hB x hx; omega)).part e4 (by omega) (by decide) t4
  ·exact (g5.keep0' kk (fun x hx=>by have:=hA x hx; omega) (fun x hx=>by have:=hB x hx; omega)).part e5 (by omega) (by decide) t5
  ·exact (g6.keep0' kk (fun x hx=>by have:=hA x hx; omega) (fun x hx=>by have:=hB x hx; omega)).part e6 (by omega) (by decide) t6
 have ln:∀ s:St,bLen Tryz.prog s [23] [v15]=some (.i .i64 (lt.len:Int),s):=fun s=>by
  obtain ⟨g,-,hg⟩:=g15
  exact len_sl Tryz.underlying23 hg.len.1 hg.len.2
 cases hlt:lt with
 | nil f =>
  rw [hlt] at ln
  have hw:=wt_of cr 0 [.i .i64 k,.s nm,.i .i64 num,slN pn,v4,v5,v6] (by simp [zL40]) sO
  rw [ovr_zero,over_all (by simp [zL40])] at hw
  have k2:Kp [rR] [rR] s (s.setCe rR [.i .i64 k,.s nm,.i .i64 num,slN pn,v4,v5,v6] rR):=.setCe (by simp) (by simp)
  have key:∃ t',evC (f18at 11) ⟨Tryz.prog,Tw c N,false,Tryz.f18.ntmps,N⟩ t s = .rt t' (s.setCe rR [.i .i64 k,.s nm,.i .i64 num,slN pn,v4,v5,v6] rR)∧tget t' 6 = .p rR 0:=by
   simp [f18at,f18b,cTl,Tryz.f18,h15,ln,ExL.len,h.t6,h.t7,load_ag inf40 ag40,sz40,ro,store_ag inf40 sz40,hw]
  obtain ⟨t',k1,k3⟩:=key
  exact ⟨t',_,_,k1,k3,⟨_,setCe_ce _ _ _⟩,rfl,fzO k2 (by simp; omega) (by simp; omega),kp_new h.K k2 (by simp; omega) (by simp; omega),h.M.keep k2 (by simp; omega) (by simp; omega) (by simp; omega) (by simp; omega)⟩
 | cons p y r =>
  have hpos:0 < lt.len:=by rw [hlt]; simp [ExL.len]
  have hpos':(0:Int) < (lt.len:Int):=by omega
  have bo:=fun (t:Tr AV) (hh:evO t (.tmp 175) = .ag [.i .i64 k,.s nm,.i .i64 num,slN pn,v4,v5,v6])=>build_one (S:=Tw c N) (t:=t) (st:=s) gr37 (x:=.tmp 175) (cs:=[.i .i64 k,.s nm,.i .i64 num,slN pn,v4,v5,v6]) (by rw [hh]; exact cells_ag _) rfl
  have k1:=Kp.newCe (st:=s) [] [] [.i .i64 k,.s nm,.i .i64 num,slN pn,v4,v5,v6]
  have cn:=newCe_ce (st:=s) [.i .i64 k,.s nm,.i .i64 num,slN pn,v4,v5,v6]
  obtain ⟨s1,hs1⟩:∃ x,s.newCe [.i .i64 k,.s nm,.i .i64 num,slN pn,v4,v5,v6]=x:=⟨_,rfl⟩
  have n1:s1.next=s.next+1:=by rw [← hs1]; rfl
  rw [hs1] at bo k1 cn
  have bo2:=fun (t:Tr AV) (h1:evO t (.tmp 174)=v15) (h2:evO t (.tmp 176) = .sl s.next 0 1 7 (some 1))=>build40l (S:=Tw c N) (st:=s1) (t:=t) (x:=.const (.int .i64 7)) (evO_int t .i64 7) h1 h2 c15.1 (by simp)
  have cr1:=k1.ce cr (by omega) (by omega) (by simp) (by simp)
  have hw:=wt_of cr1 0 [.i .i64 7,.s [],.i .i64 0,.sn,v15,.sl s.next 0 1 7 (some 1),.sn] (by simp [zL40]) (by simp [c15.2])
  rw [ovr_zero,over_all (by simp [zL40])] at hw
  have k2:Kp [rR] [rR] s1 (s1.setCe rR [.i .i64 7,.s [],.i .i64 0,.sn,v15,.sl s.next 0 1 7 (some 1),.sn] rR):=.setCe (by simp) (by simp)
  obtain ⟨s2,hs2⟩:∃ x,s1.setCe rR [.i .i64 7,.s [],.i .i64 0,.sn,v15,.sl s.next 0 1 7 (some 1),.sn] rR=x:=⟨_,rfl⟩
  have cr2:(s1.setCe rR [.i .i64 7,.s [],.i .i64 0,.sn,v15,.sl s.next 0 1 7 (some 1),.sn] rR).ce rR=some ([.i .i64 7,.s [],.i .i64 0,.sn,v15,.sl s.next 0 1 7 (some 1),.sn],rR,[rR]):=setCe_ce _ _ _
  rw [hs2] at hw k2 cr2
  have key:∃ t',evC (f18at 11) ⟨Tryz.prog,Tw c N,false,Tryz.f18.ntmps,N⟩ t s = .rt t' s2∧tget t' 6 = .p rR 0:=by
   simp [f18at,f18b,cTl,Tryz.f18,h15,ln,hpos,h.t6,h.t7,load_ag inf40 ag40,sz40,ro,bo,bo2,store_ag inf40 sz40,hw]
  obtain ⟨t',q1,q3⟩:=key
  have kk:Kp [rR] [rR] s s2:=kp_add (kp_wide k1) k2 (by simp) (by simp)
  refine ⟨t',s2,_,q1,q3,⟨_,cr2⟩,rfl,?_,kp_new h.K kk (by simp; omega) (by simp; omega),h.M.keep kk (by simp; omega) (by simp; omega) (by simp; omega) (by simp; omega)⟩
  have f15:=(g15.keep0' kk (by simp; omega) (by simp; omega)).part (n0:=st.next) e15 (by omega) (by decide) t15
  rw [hlt] at f15
  have cn2:=k2.ce cn (by omega) (by omega) (by simp; omega) (by simp; omega)
  have fO:=Fz.slice (c:=some 1) (m:=1) (z:=7) cn2 rfl (by omega) (fzO kk (by simp; omega) (by simp; omega)) (by decide)
  have hce:(wrapE (.cons p y r) (.mk k nm num (slN pn) lb la ll)).cells=[.i .i64 7,.s [],.i .i64 0,.sn,(ExL.cons p y r).slice 8,.rs (Ex.mk k nm num (slN pn) lb la ll).cells 1 7,.sn]:=by
   simp [wrapE,Ex.cells,ExL.slice,ExL.flat,ExL.len]
  rw [hce]
  exact .cons (.pure rfl) (.cons (.pure rfl) (.cons (.pure rfl) (.cons (.pure rfl) (.cons f15 (.cons fO (.cons (.pure rfl) .nil))))))
end
end Go.Proofs.YtbemeikjepjhoaaGreatDoor
namespace Go.Proofs.YtbemeikjepjhoaaGreatDoor
open Go.Ev
set_option maxRecDepth 100000
noncomputable section
variable {c : Option Self} {st : St}
theorem resOne_cell {P:Program} {t:Tr AV} {k:Tmp} {ty:TypeId} {v:AV} (h:tget t k=v) (hv:v≠.un):resOne P t st (.cell k ty)=loadAt P ty st v:=by
 unfold tget at h
 show (match t.get k with | some v=>loadAt P ty st v | none=>none)=_
 cases hk:t.get k with
 | none=>rw [hk] at h; exact absurd h.symm hv
 | some u=>rw [hk] at h; subst h; rfl
theorem f18_res {t':Tr AV} {s':St} {rR:Nat} {cs:List AV} {al:List Nat} (h6:tget t' 6 = .p rR 0) (hc:s'.ce rR=some (cs,rR,al)) (hl:cs.length=7):endF Tryz.prog Tryz.f18.results.toList (.rt t' s')=some (.ag cs,s'):=by
 have r:rd s' rR 0 7=some cs:=by rw [rd_of hc,cut_zero,← hl,takeN_all]
 have r1:resOne Tryz.prog t' s' (.cell 6 40)=some (.ag cs):=by
  rw [resOne_cell h6 (by simp),load_ag inf40 ag40,sz40,r]; rfl
 simp [Tryz.f18,resOf_eq,pmapO,r1]
theorem prep_call:∀ x,PrepOK c x:=by
 refine Ex.ind fun k nm num ps b a l hb ha hl=>?_
 intro hT hs st mr tr n T sv S N hM hS hp hN
 obtain ⟨N,rfl⟩:∃ N',N=N'+1:=⟨N - 1,by omega⟩
 have hsz:(Ex.mk k nm num ps b a l).size=1+b.size+a.size+l.size:=by simp only [Ex.size]
 have hTy:=hT
 simp only [Ex.Ty] at hT
 obtain ⟨hkb,hps,hTb,hTa,hTl⟩:=hT
 simp only [Ex.wt] at hp
 have hbl:=b.len_le
 have hal:=a.len_le
 have pn:=le_pot T n
 suffices hh:∃ t' s' rR cs,evC f18b ⟨Tryz.prog,Tw c N,false,Tryz.f18.ntmps,N⟩ (tmpsOf [.p mr 0,.ag (Ex.mk k nm num ps b a l).cells,sv] 0 .lf) st = .rt t' s'∧tget t' 6 = .p rR 0∧(∃ al,s'.ce rR=some (cs,rR,al))∧cs.length=7∧FzL st.next s' cs (prepE T (.mk k nm num ps b a l) S n).1.cells∧Kp [mr,tr] [mr] st s'∧Mk s' mr tr T (prepE T (.mk k nm num ps b a l) S n).2 by
  obtain ⟨t',s',rR,cs,h1,h2,⟨al',h3⟩,h4,h5,h6,h7⟩:=hh
  have he:bodyR c N Tryz.f18 (Tryz.f18.body.getD .skip) [.p mr 0,.ag (Ex.mk k nm num ps b a l).cells,sv] st=some (.ag cs,s'):=by
   unfold bodyR
   rw [show (Tryz.f18.body.getD .skip)=f18b from rfl,h1]
   exact f18_res h2 h3 h4
  exact ⟨s'.shut st.next,body_f rfl rfl rfl rfl rfl (by decide) Tryz.func18 rfl (Nat.le_of_ble_eq_true rfl) he (.ag h5),h7.shut hM.mrl,h6.shut (Nat.le_refl _)⟩
 obtain ⟨t0,s0,rE,rR,rO,a0,h0⟩:=f18_start (c:=c) k nm num ps b a l hM hS (N:=N)
 rw [a0]
 by_cases hk:k=1
 ·subst hk
  obtain ⟨t1,s1,b1,b2,b3,b4,b5⟩:=f18_var (c:=c) h0 (N:=N)
  rw [b1]
  have e:prepE T (.mk 1 nm num ps b a l) S n=(.mk 1 ((S nm).getD nm) num .sn (.nil true) (.nil true) (.nil true),n):=by rw [prepE,if_pos rfl]
  rw [e]
  refine ⟨t1,s1,rR,_,rfl,b2,b3,rfl,?_,b4,b5⟩
  have:(Ex.mk 1 ((S nm).getD nm) num .sn (.nil true) (.nil true) (.nil true)).cells=[.i .i64 1,.s ((S nm).getD nm),.i .i64 num,.sn,.sn,.sn,.sn]:=by simp [Ex.cells,ExL.slice]
  rw [this]
  exact .pure rfl
 ·obtain ⟨t1,b1,h1⟩:=f18_not (c:=c) hk h0 (N:=N)
  rw [b1,thenC_nx]
  have w1:=withN_pot T (txsOf ps) S n
  obtain ⟨t2,s2,sv2,b2,h2⟩:=f18_params (c:=c) hps (by omega) (by omega) h1 (N:=N) (by omega)
  obtain ⟨W1,hW1⟩:∃ W,withN T S (txsOf ps) n=W:=⟨_,rfl⟩
  rw [hW1] at w1 h2
  obtain ⟨t3,b3,b3',h3⟩:=f18_nil10 (c:=c) h2 (N:=N)
  obtain ⟨t4,s4,b4,h4,b4'⟩:=f18_names (c:=c) hTb (by omega) h3 b3' (N:=N) (by omega)
  have w2:=withN_pot T b.names W1.1 W1.2.2
  have w2l:=withN_len T b.names W1.1 W1.2.2
  rw [names_len] at w2 w2l
  obtain ⟨t5,s5,sv5,b5,h5,b5'⟩:=f18_bound (c:=c) (l:=b.names) (by rw [names_len]; omega) (by rw [names_len]; omega) h4 b4' (N:=N) (by omega)
  obtain ⟨W2,hW2⟩:∃ W,withN T W1.1 b.names W1.2.2=W:=⟨_,rfl⟩
  rw [hW2] at w2 w2l h5 b5'
  have w3:=prepB_pot T b W2.1 W2.2.1 W2.2.2
  have y3:=prepB_ty T b W2.1 W2.2.1 W2.2.2 hTb
  have z3:=prepB_len T b W2.1 W2.2.1 W2.2.2
  obtain ⟨t6,s6,v4,b6,h6,g6,k6,⟨Lb,hLb⟩⟩:=f18_binds (c:=c) hTb (by omega) hb w2l h5 b5' (by omega) (N:=N) (by omega)
  obtain ⟨RB,hRB⟩:∃ W,prepB T b W2.1 W2.2.1 W2.2.2=W:=⟨_,rfl⟩
  rw [hRB] at w3 y3 z3 h6 g6 hLb
  obtain ⟨t7,b7,b7',h7⟩:=f18_nil15 (c:=c) h6 (N:=N)
  have w4:=prepA_pot T a W2.1 (strictK strF k nm a.len) 0 RB.2
  have y4:=prepA_ty T a W2.1 (strictK strF k nm a.len) 0 RB.2 hTa
  have z4:=prepA_len T a W2.1 (strictK strF k nm a.len) 0 RB.2
  obtain ⟨t8,s8,b8,v5,n8,L8,La,Lt,g5,g15,q1,q1',qG,q3,q4⟩:=f18_args (c:=c) hTa (by omega) ha h7 b7' (by omega) (N:=N) (by omega)
  obtain ⟨RA,hRA⟩:∃ W,prepA T a W2.1 (strictK strF k nm a.len) 0 RB.2=W:=⟨_,rfl⟩
  rw [hRA] at w4 y4 z4 q3
  obtain ⟨fa,hfa⟩:=dropL_end a
  rw [hfa] at q3
  simp only [prepA,appL_nil] at q3
  have h8:=L8.fr h7
  have hA1:RA.1=ofL La:=by rw [q3]
  have hA2:RA.2.1=ofL Lt:=by rw [q3]
  have hA3:RA.2.2=n8:=by rw [q3]
  have ga:GrO s8 s6.next 7 v5 RA.1.len RA.1.flat:=⟨g5,by rw [hA1,ofL_len,q1]; exact qG.z5,by rw [hA1,ofL_len,q1]; exact qG.o5⟩
  have gt:GrO s8 s6.next 8 (tget t8 15) RA.2.1.len RA.2.1.flat:=⟨g15,by rw [hA2,ofL_len]; exact qG.z15,by rw [hA2,ofL_len]; exact qG.o15⟩
  rw [← hA3] at h8
  have w5:=prepL_pot T l W2.1 RA.2.2
  have y5:=prepL_ty T l W2.1 RA.2.2 hTl
  obtain ⟨t9,s9,v6,b9,h9,g9,k9,⟨Ll,hLl⟩,b9'⟩:=f18_alts (c:=c) hTl (by omega) hl h8 rfl (by omega) (N:=N) (by omega)
  obtain ⟨RL,hRL⟩:∃ W,prepL T l W2.1 RA.2.2=W:=⟨_,rfl⟩
  rw [hRL] at w5 y5 h9 g9 hLl
  have lo5:=h5.lo
  have lo6:=h6.lo
  have lo8:=h8.lo
  have m:=h5.ml
  have kk:=L8.K
  have g4':=(g6.keep' kk ⟨by omega,by omega,by omega⟩).keep' k9 ⟨by omega,by omega,by omega⟩
  rw [z3.symm] at g4'
  have ga':=ga.keep' k9 ⟨by omega,by omega,by omega⟩
  have gt':=gt.keep' k9 ⟨by omega,by omega,by omega⟩
  have zl:=prepL_len T l W2.1 RA.2.2
  rw [hRL] at zl
  rw [zl.symm] at g9
  have tO:(Ex.mk k nm num (slN W1.2.1) RB.1 RA.1 RL.1).Ty:=by
   simp only [Ex.Ty]
   exact ⟨hkb,slN_nm (by rw [← hW1,withN_len]; exact isNm_len hps),y3,y4.1,y5⟩
  obtain ⟨tE,sE,cs,c1,c2,c3,c4,c5,c6,c7⟩:=f18_end (c:=c) h9 b9' g4' ga' g9 gt' hLb hA1 hLl hA2 y3 y4.1 y5 y4.2 tO (by omega) (by omega) (by omega) (by rw [hA2,ofL_len,ExL.len_eq] at *; omega) (N:=N)
  have e:prepE T (.mk k nm num ps b a l) S n=(wrapE RA.2.1 (.mk k nm num (slN W1.2.1) RB.1 RA.1 RL.1),RL.2):=by
   rw [prepE,if_neg hk]
   simp only [hW1,hW2,hRB,hRA,hRL]
  rw [e]
  refine ⟨tE,sE,rR,cs,?_,c2,c3,c4,c5,c6,c7⟩
  rw [show evC (cTl (cTl (cTl f18b))) ⟨Tryz.prog,Tw c N,false,Tryz.f18.ntmps,N⟩ t1 s0=thenC (evC (cHd (f18at 3)) ⟨Tryz.prog,Tw c N,false,Tryz.f18.ntmps,N⟩ t1 s0) (evC (f18at 4) ⟨Tryz.prog,Tw c N,false,Tryz.f18.ntmps,N⟩) from rfl,b2,thenC_nx]
  rw [show evC (f18at 4) ⟨Tryz.prog,Tw c N,false,Tryz.f18.ntmps,N⟩ t2 s2=thenC (evC (cHd (f18at 4)) ⟨Tryz.prog,Tw c N,false,Tryz.f18.ntmps,N⟩ t2 s2) (evC (f18at 5) ⟨Tryz.prog,Tw c N,false,Tryz.f18.ntmps,N⟩) from rfl,b3,thenC_nx]
  rw [show evC (f18at 5) ⟨Tryz.prog,Tw c N,false,Tryz.f18.ntmps,N⟩ t3 s2=thenC (evC (cHd (f18at 5)) ⟨Tryz.prog,Tw c N,false,Tryz.f18.ntmps,N⟩ t3 s2) (evC (f18at 6) ⟨Tryz.prog,Tw c N,false,Tryz.f18.ntmps,N⟩) from rfl,b4,thenC_nx]
  rw [show evC (f18at 6) ⟨Tryz.prog,Tw c N,false,Tryz.f18.ntmps,N⟩ t4 s4=thenC (evC (cHd (f18at 6)) ⟨Tryz.prog,Tw c N,false,Tryz.f18.ntmps,N⟩ t4 s4) (evC (f18at 7) ⟨Tryz.prog,Tw c N,false,Tryz.f18.ntmps,N⟩) from rfl,b5,thenC_nx]
  rw [show evC (f18at 7) ⟨Tryz.prog,Tw c N,false,Tryz.f18.ntmps,N⟩ t5 s5=thenC (evC (cHd (f18at 7)) ⟨Tryz.prog,Tw c N,false,Tryz.f18.ntmps,N⟩ t5 s5) (evC (f18at 8) ⟨Tryz.prog,Tw c N,false,Tryz.f18.ntmps,N⟩) from rfl,b6,thenC_nx]
  rw [show evC (f18at 8) ⟨Tryz.prog,Tw c N,false,Tryz.f18.ntmps,N⟩ t6 s6=thenC (evC (cHd (f18at 8)) ⟨Tryz.prog,Tw c N,false,Tryz.f18.ntmps,N⟩ t6 s6) (evC (f18at 9) ⟨Tryz.prog,Tw c N,false,Tryz.f18.ntmps,N⟩) from rfl,b7,thenC_nx]
  rw [show evC (f18at 9) ⟨Tryz.prog,Tw c N,false,Tryz.f18.ntmps,N⟩ t7 s6=thenC (evC (cHd (f18at 9)) ⟨Tryz.prog,Tw c N,false,Tryz.f18.ntmps,N⟩ t7 s6) (evC (f18at 10) ⟨Tryz.prog,Tw c N,false,Tryz.f18.ntmps,N⟩) from rfl,b8,thenC_nx]
  rw [show evC (f18at 10) ⟨Tryz.prog,Tw c N,false,Tryz.f18.ntmps,N⟩ t8 s8=thenC (evC (cHd (f18at 10)) ⟨Tryz.prog,Tw c N,false,Tryz.f18.ntmps,N⟩ t8 s8) (evC (f18at 11) ⟨Tryz.prog,Tw c N,false,Tryz.f18.ntmps,N⟩) from rfl,b9,thenC_nx]
  exact c1
end
end Go.Proofs.YtbemeikjepjhoaaGreatDoor
namespace Go.Proofs.YtbemeikjepjhoaaGreatDoor
open Go.Ev
set_option maxRecDepth 100000
noncomputable section
variable {c : Option Self} {st : St}
theorem sl_nil {P:Program} {ty e:TypeId} {k:Bool} (h:P.underlying ty=some (.slice e)):Go.Ev.binOp P ty k .eql .sn .sn=some (.b true):=by
 show eqOp P ty k .eql .sn .sn=_
 simp [eqOp,eqV,eqT1,h,eqNil,AV.nilS,orElse]
theorem sl_rs {P:Program} {ty e:TypeId} {k:Bool} {cs:List AV} {n z:Nat} (h:P.underlying ty=some (.slice e)):Go.Ev.binOp P ty k .eql (.rs cs n z) .sn=some (.b false):=by
 show eqOp P ty k .eql (.rs cs n z) .sn=_
 simp [eqOp,eqV,eqT1,h,eqNil,AV.nilS,orElse]
def CloV (s:St) (lo z:Nat) (cv v:AV):Prop:=(cv = .sn∧v = .sn)∨∃ cs n g,cv = .rs cs n z∧v≠.sn∧OwZ s lo z v n cs g∧pureL cs=true
theorem CloV.keep {s s':St} {lo z:Nat} {cv v:AV} {A B:List Nat} (h:CloV s lo z cv v) (k:Kp A B s s') (hA:∀ x,x ∈ A→x < lo) (hB:∀ x,x ∈ B→x < lo):CloV s' lo z cv v:=by
 rcases h with h | ⟨cs,n,g,h1,h2,h3,h4⟩
 ·exact .inl h
 ·exact .inr ⟨cs,n,g,h1,h2,h3.keep k hA (fun x hx=>.inl (hB x hx)),h4⟩
theorem CloV.cells {s:St} {lo z:Nat} {cv v:AV} (h:CloV s lo z cv v):v.cells=some [v]∧isSc v=true:=by
 rcases h with ⟨-,rfl⟩ | ⟨cs,n,g,h1,h2,h3,h4⟩
 ·simp
 ·exact ⟨h3.cells,h3.sc⟩
theorem CloV.fz {s:St} {lo z n0:Nat} {cv v:AV} (h:CloV s lo z cv v) (hn:n0≤lo) (hz:1≤z):Fz n0 s v cv:=by
 rcases h with ⟨rfl,rfl⟩ | ⟨cs,n,g,rfl,h2,h3,h4⟩
 ·exact .pure rfl
 ·rcases h3 with ⟨rfl,-⟩ | ⟨r,rfl,rfl,rfl,-⟩ | ⟨r,f,al,-,rfl,k1,k2,k3,k4,k5,k6,k7⟩
  ·exact absurd rfl h2
  ·exact .slice0
  ·exact .slice k1 k2.symm (by omega) (.pure h4) (by omega)
theorem owz_rds {s:St} {lo z n:Nat} {v:AV} {cs:List AV} {g:Option Nat} (h:OwZ s lo z v n cs g) (hv:v≠.sn) (hp:pureL cs=true):Rds [] s v (.rs cs n z):=by
 rcases h with ⟨rfl,-⟩ | ⟨r,rfl,rfl,rfl,-⟩ | ⟨r,f,al,-,rfl,k1,k2,k3,k4,k5,k6,k7⟩
 ·exact absurd rfl hv
 ·exact .slice0
 ·exact .slice k1 k2.symm k6 k7 (by simp) (by simp) (.pure hp) (by omega)
theorem CloV.rds {s:St} {lo z:Nat} {cv v:AV} (h:CloV s lo z cv v):Rds [] s v cv:=by
 rcases h with ⟨rfl,rfl⟩ | ⟨cs,n,g,rfl,h2,h3,h4⟩
 ·exact .pure rfl
 ·exact owz_rds h3 h2 h4
theorem GrO.rds {s:St} {lo z:Nat} {v:AV} {L:List (List AV × Ex)} {l:ExL} {m:Nat} (h:GrO s lo z v l.len l.flat) (hl:l=ofL L) (hT:l.Ty m):Rds [] s v (l.slice z):=by
 subst hl
 obtain ⟨g,h0,h⟩:=h
 rw [ofL_len] at h h0
 rcases Nat.eq_zero_or_pos L.length with e | e
 ·rw [h0 e]
  have:L=[]:=List.eq_nil_of_length_eq_zero e
  subst this
  exact .pure rfl
 ·have hv:v≠.sn:=by
   rintro rfl
   rcases h with ⟨-,h,-⟩ | ⟨r,h,-⟩ | ⟨r,f,al,-,h,-⟩
   ·omega
   ·cases h
   ·cases h
  have:=owz_rds h hv (ExL.flat_pure hT)
  rw [ExL.slice_rs (l:=ofL L) (i:=0) (by rw [ofL_len]; exact e),ofL_len]
  exact this
def Clone17 (o:Option (AV × St)) (st:St) (cv:AV):Prop:=∃ v s',o=some (v,s')∧CloV s' st.next 4 cv v∧Kp [] [] st s'
theorem build0 {P:Program} {S:Self} {t:Tr AV} {ty e z:Nat} (T:GrTy P ty e z):opH (.buildSlice ty 0 #[]) P S t st=some (.sl st.next 0 0 z (some 0),st.newCe []):=by
 obtain ⟨zs,hz,hzl⟩:=T.zero
 show (match elOf P ty with
 | none=>none
 | some e=>match zeroC P e with
  | none=>none
  | some z=>(@Bool.rec (fun _=>Res) none (newSl st 0 (szOf P e) (fill (placeE (szOf P e)) (rep 0 z) (vals t []))) (Nat.ble (0 * szOf P e) 16777216)))=_
 rw [T.el]
 simp only [hz,T.sl.sz,Nat.zero_mul]
 rfl
theorem app_none {P:Program} {ty e z r:Nat} (T:GrTy P ty e z):bAppend P st [ty,ty] [.sl r 0 0 z (some 0),.rs [] 0 z]=some (.sl r 0 0 z (some 0),st):=by
 have e0:(plainArg P [ty,ty] && hasInfo P e && allSc [])=true:=by rw [T.plain,T.sl.inf]; rfl
 have eb:bAppend P st [ty,ty] [.sl r 0 0 z (some 0),.rs [] 0 z]=append P st [ty,ty] (.sl r 0 0 z (some 0)) (.rs [] 0 z):=by
  show append0 P st [ty,ty] _ _ (natOf (.rs [] 0 z))=_
  rw [show natOf (.rs [] 0 z)=none from rfl]
  show appT P st [ty,ty] _ (append P st [ty,ty] _ _)=_
  unfold appT; rw [T.ty0]
 rw [eb]
 have h1:lenOf (.rs [] 0 z)=some 0:=rfl
 have h2:firstCells st z 0 (.rs [] 0 z)=some []:=by
  show cut [] 0 (0 * z)=_
  rw [Nat.zero_mul]; rfl
 unfold append
 simp only [T.el,h1,T.sl.sz,h2,e0]
 simp
theorem clone17_call {cv:AV} {ds:List ConD} (hv:IsCons cv ds) (hl:ds.length≤1000000) {N:Nat} (hN:1≤N):Clone17 ((Tw c N).call 17 [cv] st) st cv:=by
 obtain ⟨N,rfl⟩:∃ N',N=N'+1:=⟨N - 1,by omega⟩
 rw [body_out rfl Tryz.func17 rfl (Nat.le_of_ble_eq_true rfl)]; unfold bodyR
 obtain ⟨hv,hz⟩:=hv
 rcases hv with ⟨rfl,-⟩ | rfl
 ·refine ⟨.sn,st,?_,.inl ⟨rfl,rfl⟩,.refl _ _ _⟩
  simp [Tryz.f17,sl_nil Tryz.underlying22,resOf_eq,pmapO]
 ·have hlen:(ds.map ConD.cells).flatten.length=ds.length * 4:=by
   clear hz hl
   induction ds with
   | nil=>rfl
   | cons d ds ih=>rw [List.map_cons,List.flatten_cons,List.length_append,ih]; simp [ConD.cells,Nat.add_mul]; omega
  have hsc:allSc (ds.map ConD.cells).flatten=true:=by
   clear hz hl hlen
   induction ds with
   | nil=>rfl
   | cons d ds ih=>rw [List.map_cons,List.flatten_cons]; exact allSc_append (sc_con d) ih
  have hO:OwZ (st.newCe []) st.next 4 (.sl st.next 0 0 4 (some 0)) 0 [] none:=.inr (.inl ⟨_,rfl,rfl,rfl,rfl⟩)
  cases hds:ds with
  | nil =>
   refine ⟨_,_,?_,.inr ⟨[],0,none,by simp,?_,hO,rfl⟩,.newCe _ _ _⟩
   ·simp [Tryz.f17,sl_rs Tryz.underlying22,build0 gr22,app_none gr22,resOf_eq,pmapO]
   ·simp
  | cons d0 ds0 =>
   rw [← hds]
   have hc:firstCells (st.newCe []) 4 ds.length (.rs (ds.map ConD.cells).flatten ds.length 4)=some (ds.map ConD.cells).flatten:=by
    show cut _ 0 (ds.length * 4)=_
    rw [cut_zero,← hlen,takeN_all]
   obtain ⟨v',g',s',w1,w2,w3,w4⟩:=hO.app gr22 (k:=ds.length) (x:=.rs (ds.map ConD.cells).flatten ds.length 4) rfl hc rfl hsc hlen (by omega) (Nat.le_succ _)
   rw [Nat.zero_add,List.nil_append] at w2
   refine ⟨v',s',?_,.inr ⟨_,_,g',by rw [List.length_map],?_,w2,pure_cons ds⟩,(Kp.newCe _ _ _).trans w3⟩
   ·simp [Tryz.f17,sl_rs Tryz.underlying22,build0 gr22,w1,resOf_eq,pmapO]
   ·rintro rfl
    rcases w2 with ⟨-,e,-⟩ | ⟨r,e,-⟩ | ⟨r,f,al,-,e,-⟩
    ·rw [hds] at e; cases e
    ·cases e
    ·cases e
end
end Go.Proofs.YtbemeikjepjhoaaGreatDoor
namespace Go.Proofs.YtbemeikjepjhoaaGreatDoor
open Go.Ev
set_option maxRecDepth 100000
noncomputable section
variable {c : Option Self} {st : St}
def CloW (s:St) (lo hi z:Nat) (cv v:AV):Prop:=(cv = .sn∧v = .sn)∨(∃ r,v = .sl r 0 0 z (some 0)∧cv = .rs [] 0 z)∨∃ r f al cs n,v = .sl r 0 n z none∧cv = .rs cs n z∧s.ce r=some (cs,f,al)∧cs.length=n * z∧1≤n∧lo≤r∧lo≤f∧r < hi∧f < hi∧hi≤s.next∧pureL cs=true
theorem CloV.w {s:St} {lo z:Nat} {cv v:AV} (h:CloV s lo z cv v):CloW s lo s.next z cv v:=by
 rcases h with h | ⟨cs,n,g,rfl,h2,h3,h4⟩
 ·exact .inl h
 ·rcases h3 with ⟨rfl,-⟩ | ⟨r,rfl,rfl,rfl,-⟩ | ⟨r,f,al,-,rfl,k1,k2,k3,k4,k5,k6,k7⟩
  ·exact absurd rfl h2
  ·exact .inr (.inl ⟨r,rfl,rfl⟩)
  ·exact .inr (.inr ⟨r,f,al,cs,n,rfl,rfl,k1,k2,k3,k4,k5,k6,k7,Nat.le_refl _,h4⟩)
theorem CloW.keep {s s':St} {lo hi z:Nat} {cv v:AV} {A B:List Nat} (h:CloW s lo hi z cv v) (k:Kp A B s s') (hA:∀ x,x ∈ A→x < lo∨hi≤x) (hB:∀ x,x ∈ B→x < lo∨hi≤x):CloW s' lo hi z cv v:=by
 rcases h with h | h | ⟨r,f,al,cs,n,h1,h2,h3,h4,h5,h6,h7,h8,h9,h10,h11⟩
 ·exact .inl h
 ·exact .inr (.inl h)
 ·exact .inr (.inr ⟨r,f,al,cs,n,h1,h2,k.ce h3 (by omega) (by omega) (fun hh=>by have:=hA _ hh; omega) (fun hh=>by have:=hB _ hh; omega),h4,h5,h6,h7,h8,h9,Nat.le_trans h10 k.next,h11⟩)
theorem CloW.cells {s:St} {lo hi z:Nat} {cv v:AV} (h:CloW s lo hi z cv v):v.cells=some [v]∧isSc v=true:=by
 rcases h with ⟨-,rfl⟩ | ⟨r,rfl,-⟩ | ⟨r,f,al,cs,n,rfl,-⟩ <;> simp
theorem CloW.fz {s:St} {lo hi z n0:Nat} {cv v:AV} (h:CloW s lo hi z cv v) (hn:n0≤lo):Fz n0 s v cv:=by
 rcases h with ⟨rfl,rfl⟩ | ⟨r,rfl,rfl⟩ | ⟨r,f,al,cs,n,rfl,rfl,h3,h4,h5,h6,h7,h8,h9,h10,h11⟩
 ·exact .pure rfl
 ·exact .slice0
 ·exact .slice h3 h4.symm (by omega) (.pure h11) (by omega)
theorem CloW.rds {s:St} {lo hi z:Nat} {cv v:AV} (h:CloW s lo hi z cv v):Rds [] s v cv:=by
 rcases h with ⟨rfl,rfl⟩ | ⟨r,rfl,rfl⟩ | ⟨r,f,al,cs,n,rfl,rfl,h3,h4,h5,h6,h7,h8,h9,h10,h11⟩
 ·exact .pure rfl
 ·exact .slice0
 ·exact .slice h3 h4.symm (by omega) (by omega) (by simp) (by simp) (.pure h11) (by omega)
def ChkIs (c:Option Self) (cv:AV) (l:ExL) (e:Int):Prop:=∀ (st:St) (x:AV) (N:Nat),1≤N→Rds [] st x (.ag [cv,l.slice 8])→(Tw c N).call 7 [x] st=some (.i .i64 e,st)
theorem wf25:wfTy Tryz.prog 25=true:=by kernel_rfl
theorem zC25:zeroC Tryz.prog 25=some [.sn,.sn]:=by kernel_rfl
theorem place25:∃ fs,Tryz.prog.underlying 25=some (.struct fs)∧placeF Tryz.prog fs 0=some (0,1)∧placeF Tryz.prog fs 1=some (1,1):=⟨_,Tryz.underlying25,by kernel_rfl,by kernel_rfl⟩
theorem build25 {S:Self} {t:Tr AV} {x:Operand} {v:AV} (hx:evO t x=v) (hv:v.cells=some [v]):opH (.build 25 #[(0,x)]) Tryz.prog S t st=some (.ag [v,.sn],st):=by
 obtain ⟨fs,h1,h2,h3⟩:=place25
 show @Bool.rec (fun _=>Res) none (opBuild1 Tryz.prog 25 [(0,evO t x)] st) (wfTy Tryz.prog 25)=_
 rw [wf25,hx]
 show opBuild1 Tryz.prog 25 _ st=_
 unfold opBuild1
 rw [h1]
 simp only [zC25,fillAg,fill,h2,hv]
 rfl
theorem build25n {S:Self} {t:Tr AV}:opH (.build 25 #[]) Tryz.prog S t st=some (.ag [.sn,.sn],st):=by
 obtain ⟨fs,h1,h2,h3⟩:=place25
 show @Bool.rec (fun _=>Res) none (opBuild1 Tryz.prog 25 [] st) (wfTy Tryz.prog 25)=_
 rw [wf25]
 show opBuild1 Tryz.prog 25 _ st=_
 unfold opBuild1
 rw [h1]
 simp only [zC25,fillAg,fill]
 rfl
theorem wf53:wfTy Tryz.prog 53=true:=by kernel_rfl
theorem zC53:zeroC Tryz.prog 53=some [.mn,.i .i64 0]:=by kernel_rfl
theorem place53:∃ fs,Tryz.prog.underlying 53=some (.struct fs)∧placeF Tryz.prog fs 0=some (0,1):=⟨_,Tryz.underlying53,by kernel_rfl⟩
theorem build53 {S:Self} {t:Tr AV} {x:Operand} {r:Nat} (hx:evO t x = .m r):opH (.build 53 #[(0,x)]) Tryz.prog S t st=some (.ag [.m r,.i .i64 0],st):=by
 obtain ⟨fs,h1,h2⟩:=place53
 show @Bool.rec (fun _=>Res) none (opBuild1 Tryz.prog 53 [(0,evO t x)] st) (wfTy Tryz.prog 53)=_
 rw [wf53,hx]
 show opBuild1 Tryz.prog 53 _ st=_
 unfold opBuild1
 rw [h1]
 simp only [zC53,fillAg,fill,h2,cells_m]
 rfl
noncomputable def f6at:Nat→Code
 | 0=>Tryz.f6.body.getD .skip
 | k+1=>cTl (f6at k)
structure F6 (st s:St) (t:Tr AV) (r1 r2:Nat) (cv bv:AV):Prop where
 t1:tget t 1 = .p r1 0
 t2:tget t 2 = .p r2 0
 c1:∃ al,s.ce r1=some ([cv,bv],r1,al)
 c2:∃ al,s.ce r2=some ([.sn,.sn],r2,al)
 lo:st.next≤r1∧r1 < r2∧r2 < s.next
 K:Kp [] [] st s
theorem F6.keep {s s':St} {t t':Tr AV} {r1 r2:Nat} {cv bv:AV} {A B:List Nat} (h:F6 st s t r1 r2 cv bv) (k:Kp A B s s') (hA:∀ x,x ∈ A→r2 < x) (hB:∀ x,x ∈ B→r2 < x) (h1:tget t' 1 = .p r1 0) (h2:tget t' 2 = .p r2 0):F6 st s' t' r1 r2 cv bv:=by
 obtain ⟨l1,l2,l3⟩:=h.lo
 obtain ⟨a1,c1⟩:=h.c1
 obtain ⟨a2,c2⟩:=h.c2
 have:=k.next
 exact ⟨h1,h2,⟨a1,k.ce c1 (by omega) (by omega) (fun hh=>by have:=hA _ hh; omega) (fun hh=>by have:=hB _ hh; omega)⟩,⟨a2,k.ce c2 (by omega) (by omega) (fun hh=>by have:=hA _ hh; omega) (fun hh=>by have:=hB _ hh; omega)⟩,⟨l1,l2,by omega⟩,kp_new h.K k (fun x hx=>by have:=hA _ hx; omega) (fun x hx=>by have:=hB _ hx; omega)⟩
theorem f6_start {cv:AV} {b:ExL} {e:Int} (hcs:cv.cells=some [cv]∧isSc cv=true∧pureV cv=true) (hb:b.Ty 1) (hC:ChkIs c cv b e) {N:Nat} (hN:1≤N) :
  (e≠0→∃ t s r2,evC (f6at 0) ⟨Tryz.prog,Tw c N,false,Tryz.f6.ntmps,N⟩ (tmpsOf [.ag [cv,b.slice 8]] 0 .lf) st = .rt t s∧tget t 2 = .p r2 0∧(∃ al,s.ce r2=some ([.sn,.sn],r2,al))∧tget t 3 = .i .i64 e∧Kp [] [] st s) ∧
  (e=0→∃ t s r1 r2,evC (f6at 0) ⟨Tryz.prog,Tw c N,false,Tryz.f6.ntmps,N⟩ (tmpsOf [.ag [cv,b.slice 8]] 0 .lf) st=evC (f6at 2) ⟨Tryz.prog,Tw c N,false,Tryz.f6.ntmps,N⟩ t s∧F6 st s t r1 r2 cv (b.slice 8)):=by
 have c1:=newCe_ce (st:=st) [cv,b.slice 8]
 have k1:=Kp.newCe (st:=st) [] [] [cv,b.slice 8]
 obtain ⟨s1,hs1⟩:∃ s,st.newCe [cv,b.slice 8]=s:=⟨_,rfl⟩
 have n1:s1.next=st.next+1:=by rw [← hs1]; rfl
 rw [hs1] at c1 k1
 have c2:=newCe_ce (st:=s1) [.sn,.sn]
 have k2:=Kp.newCe (st:=s1) [] [] [.sn,.sn]
 obtain ⟨s2,hs2⟩:∃ s,s1.newCe [.sn,.sn]=s:=⟨_,rfl⟩
 have n2:s2.next=s1.next+1:=by rw [← hs2]; rfl
 rw [hs2] at c2 k2
 have c1':=k2.ce c1 (by omega) (by omega) (by simp) (by simp)
 have ra:rd s2 st.next 0 2=some [cv,b.slice 8]:=by rw [rd_of c1']; rfl
 have ck:=hC s2 (.ag [cv,b.slice 8]) N hN (.pure (by simp [pureV,pureL,hcs.2.2,ExL.slice_pure hb 8]))
 have a0:∃ t,evC (cHd (f6at 0)) ⟨Tryz.prog,Tw c N,false,Tryz.f6.ntmps,N⟩ (tmpsOf [.ag [cv,b.slice 8]] 0 .lf) st = .nx t s2∧tget t 1 = .p st.next 0∧tget t 2 = .p s1.next 0:=by
  simp [f6at,cHd,Tryz.f6,opH_alloc,zC25,hs1,hs2]
 obtain ⟨t1,a0,b1,b2⟩:=a0
 rw [show evC (f6at 0) ⟨Tryz.prog,Tw c N,false,Tryz.f6.ntmps,N⟩ (tmpsOf [.ag [cv,b.slice 8]] 0 .lf) st=thenC (evC (cHd (f6at 0)) ⟨Tryz.prog,Tw c N,false,Tryz.f6.ntmps,N⟩ (tmpsOf [.ag [cv,b.slice 8]] 0 .lf) st) (fun t s=>thenC (evC (cHd (f6at 1)) ⟨Tryz.prog,Tw c N,false,Tryz.f6.ntmps,N⟩ t s) (evC (f6at 2) ⟨Tryz.prog,Tw c N,false,Tryz.f6.ntmps,N⟩)) from rfl,a0,thenC_nx]
 constructor
 ·intro he
  have hw:=wt_of c2 0 [.sn,.sn] (by simp) (by simp)
  simp at hw
  have k3:Kp [s1.next] [s1.next] s2 (s2.setCe s1.next [.sn,.sn] s1.next):=.setCe (by simp) (by simp)
  have a1:∃ t,evC (cHd (f6at 1)) ⟨Tryz.prog,Tw c N,false,Tryz.f6.ntmps,N⟩ t1 s2 = .rt t (s2.setCe s1.next [.sn,.sn] s1.next)∧tget t 2 = .p s1.next 0∧tget t 3 = .i .i64 e:=by
   simp [f6at,cHd,cTl,Tryz.f6,b1,b2,load_ag inf25 ag25,sz25,ra,callF_of Tryz.func7 rfl,ck,he,build25n,store_ag inf25 sz25,hw]
  obtain ⟨t2,a1,d2,d3⟩:=a1
  rw [a1,thenC_rt]
  exact ⟨t2,_,s1.next,rfl,d2,⟨_,setCe_ce _ _ _⟩,d3,kp_new (k1.trans k2) k3 (by simp; omega) (by simp; omega)⟩
 ·intro he
  subst he
  have a1:∃ t,evC (cHd (f6at 1)) ⟨Tryz.prog,Tw c N,false,Tryz.f6.ntmps,N⟩ t1 s2 = .nx t s2∧tget t 1 = .p st.next 0∧tget t 2 = .p s1.next 0:=by
   simp [f6at,cHd,cTl,Tryz.f6,b1,b2,load_ag inf25 ag25,sz25,ra,callF_of Tryz.func7 rfl,ck]
  obtain ⟨t2,a1,d1,d2⟩:=a1
  rw [a1,thenC_nx]
  exact ⟨t2,s2,st.next,s1.next,rfl,d1,d2,⟨_,c1'⟩,⟨_,c2⟩,⟨Nat.le_refl _,by omega,by omega⟩,k1.trans k2⟩
end
end Go.Proofs.YtbemeikjepjhoaaGreatDoor
namespace Go.Proofs.YtbemeikjepjhoaaGreatDoor
open Go.Ev
set_option maxRecDepth 100000
noncomputable section
variable {c : Option Self} {st : St}
theorem f6_maker {s:St} {t:Tr AV} {r1 r2:Nat} {cv bv:AV} (h:F6 st s t r1 r2 cv bv) {N:Nat} :
  ∃ t' s' mr tr,evC (cHd (f6at 2)) ⟨Tryz.prog,Tw c N,false,Tryz.f6.ntmps,N⟩ t s = .nx t' s'∧F6 st s' t' r1 r2 cv bv∧tget t' 5 = .p mr 0∧(∃ al,s'.ce mr=some ([.m tr,.i .i64 0],mr,al))∧MpF s' tr (seenF [])∧tr=s.next∧mr=s.next+1∧mr < s'.next:=by
 have m0:=MpF.new s
 have k1:=Kp.new (st:=s) [] [] (.mp [] 0)
 obtain ⟨s1,hs1⟩:∃ x,s.new (.mp [] 0)=x:=⟨_,rfl⟩
 have n1:s1.next=s.next+1:=by rw [← hs1]; rfl
 rw [hs1] at m0 k1
 have bo:=fun (t:Tr AV) (hx:evO t (.tmp 18) = .m s.next)=>build53 (st:=s1) (S:=Tw c N) (t:=t) hx
 have c2:=newCe_ce (st:=s1) [.m s.next,.i .i64 0]
 have k2:=Kp.newCe (st:=s1) [] [] [.m s.next,.i .i64 0]
 obtain ⟨s2,hs2⟩:∃ x,s1.newCe [.m s.next,.i .i64 0]=x:=⟨_,rfl⟩
 have n2:s2.next=s1.next+1:=by rw [← hs2]; rfl
 rw [hs2] at c2 k2
 have key:∃ t',evC (cHd (f6at 2)) ⟨Tryz.prog,Tw c N,false,Tryz.f6.ntmps,N⟩ t s = .nx t' s2∧tget t' 1 = .p r1 0∧tget t' 2 = .p r2 0∧tget t' 5 = .p s1.next 0:=by
  simp [f6at,cHd,cTl,Tryz.f6,h.t1,h.t2,hs1,bo,hs2]
 obtain ⟨t',q0,q1,q2,q3⟩:=key
 exact ⟨t',s2,s1.next,s.next,q0,h.keep (k1.trans k2) (by simp) (by simp) q1 q2,q3,⟨_,c2⟩,mpF_congr (m0.keep k2 (by omega) (by simp)) (fun x=>by simp [seenF]),rfl,n1,by omega⟩
theorem f6_taken {s:St} {t:Tr AV} {r1 r2 mr tr:Nat} {cv:AV} {b:ExL} (hb:b.Ty 1) (hl:b.len≤1000000) (h:F6 st s t r1 r2 cv (b.slice 8)) (h5:tget t 5 = .p mr 0) (hm:∃ al,s.ce mr=some ([.m tr,.i .i64 0],mr,al)) (hM:MpF s tr (seenF [])) (hr:r2 < tr∧tr < mr∧mr < s.next) (hT:Tabled s) (h0:0 < st.next) {N:Nat} (hN:2000000≤N) :
  ∃ t' s',evC (cHd (f6at 3)) ⟨Tryz.prog,Tw c N,false,Tryz.f6.ntmps,N⟩ t s = .nx t' s'∧F6 st s' t' r1 r2 cv (b.slice 8)∧tget t' 5 = .p mr 0∧Mk s' mr tr b.names 0∧s.next≤s'.next:=by
 obtain ⟨l1,l2,l3⟩:=h.lo
 obtain ⟨a1,c1⟩:=h.c1
 obtain ⟨am,cm⟩:=hm
 have rb:rd s r1 1 1=some [b.slice 8]:=by rw [rd_of c1]; rfl
 have ln:=fun st:St=>len_sl (st:=st) Tryz.underlying23 (b.slice_len 8) (b.slice_text 8)
 have key:∃ t' s',evC (cHd (f6at 3)) ⟨Tryz.prog,Tw c N,false,Tryz.f6.ntmps,N⟩ t s = .nx t' s'∧tget t' 1 = .p r1 0∧tget t' 2 = .p r2 0∧tget t' 5 = .p mr 0∧MpF s' tr (seenF b.names)∧Kp [tr] [] s s':=by
  simp [f6at,cHd,cTl,Tryz.f6,h.t1,off25_1,load_p inf23 ag23,rb,ln,evC_loop]
  generalize hL:loopC _ _ _ _=L
  obtain ⟨t1,s1,rfl,p1,p2,p5,pM,pK⟩:=loop_use hL 0 b.list.length
   (fun i t' s'=>tget t' 1 = .p r1 0∧tget t' 2 = .p r2 0∧tget t' 5 = .p mr 0∧tget t' 22=b.slice 8∧tget t' 23 = .i .i64 (b.len:Int)∧tget t' 24 = .i .i64 (i:Int)∧MpF s' tr (seenF (b.names.take i))∧Kp [tr] [] s s')
   (fun t' s'=>tget t' 1 = .p r1 0∧tget t' 2 = .p r2 0∧tget t' 5 = .p mr 0∧MpF s' tr (seenF b.names)∧Kp [tr] [] s s') (by rw [← ExL.len_eq]; omega)
   ⟨by simp [h.t1],by simp [h.t2],by simp [h5],by simp,by simp,by simp,by simpa using hM,.refl _ _ _⟩
   (by
    rintro i t' s' hi ⟨i1,i2,i5,i22,i23,i24,iM,iK⟩
    clear hL
    have hil:i < b.len:=by rw [ExL.len_eq]; exact hi
    have hin:i < b.names.length:=by rw [names_len]; exact hil
    have e3:(i:Int) < (b.len:Int):=by omega
    have e4:wr .i64 ((i:Int)+1)=((i+1:Nat):Int):=by rw [wr_in (by omega) (by omega)]; rfl
    obtain ⟨r,r1',r2'⟩:=part_at hb.pre (show preLen 1+7=8 from rfl) hi
    have ix:=index_rs (P:=Tryz.prog) Tryz.underlying23 inf42 sz42 b.flat b.len i hil
    rw [← ExL.slice_rs hil,r1',← List.append_assoc] at ix
    have hT:=ExL.ty_list hb _ (List.getElem_mem hi)
    have hpr:=pre1 hT.1
    have hnm:b.names[i]=txOf (b.list[i].1.headD .un):=by simp [ExL.names,bname]
    rw [← hnm] at hpr
    have hce:(b.list[i].1++b.list[i].2.cells).length=8:=by rw [List.length_append,r2',Ex.cells_len]; rfl
    have hsc:allSc (b.list[i].1++b.list[i].2.cells)=true:=allSc_append hT.1.sc (Ex.cells_sc hT.2.wf)
    have ld:=fun st:St=>load_ms (st:=st) (r:=r) inf42 ag42 sz42 hce
    have hhd:cut (b.list[i].1++b.list[i].2.cells) 0 1=some [.s b.names[i]]:=by rw [hpr]; rfl
    generalize b.list[i].1++b.list[i].2.cells=cl at *
    obtain ⟨s2,u1,u2,u3,u4⟩:=alloc_store (s:=s') (z:=zL42) hce hsc
    have n1:=iK.next
    have n2:=u3.next
    have M2:=iM.keep u3 (by omega) (by simp)
    obtain ⟨s3,w1,w2,w3,w4⟩:=M2.set mp51 b.names[i] (.b true)
    rw [seen_upd,List.take_append_getElem hin] at w2
    have cm2:=u3.ce (iK.ce cm (by omega) (by omega) (by simp; omega) (by simp)) (by omega) (by omega) (by simp) (by simp)
    have rm:rd s2 mr 0 1=some [.m tr]:=by rw [rd_of cm2]; rfl
    have rn:rd s2 s'.next 0 1=some [.s b.names[i]]:=by rw [rd_of u2,hhd]
    have zz:zeroC Tryz.prog 42=some zL42:=zC42
    simp [i22,i23,i24,e3,ix,ld,opH_alloc,zz,store_ag inf42 sz42,hce,u1,evC_draw]
    rw [drawC_nil (by kernel_rfl)]
    simp [i5,i24,e4,off53_0,load_p inf51 ag51,rm,off42_0,load_p inf9 ag9,rn,w1]
    exact ⟨_,_,⟨rfl,rfl⟩,by simp [i1],by simp [i2],by simp [i5],by simp [i22],by simp [i23],by simp,w2,kp_add (kp_add iK u3 (by simp) (by simp)) w3 (by simp) (by simp)⟩)
   (by
    rintro t' s' ⟨i1,i2,i5,i22,i23,i24,iM,iK⟩
    clear hL
    simp [i23,i24,ExL.len_eq]
    refine ⟨_,_,⟨rfl,rfl⟩,by simp [i1],by simp [i2],by simp [i5],?_,iK⟩
    rw [← ExL.len_eq,← names_len,List.take_length] at iM
    exact iM)
  clear hL
  exact ⟨t1,s1,by simp,p1,p2,p5,pM,pK⟩
 obtain ⟨t',s',q0,q1,q2,q5,qM,qK⟩:=key
 obtain ⟨ty,hty⟩:=hT
 have n1:=qK.next
 refine ⟨t',s',q0,h.keep qK (by simp; omega) (by simp) q1 q2,q5,⟨⟨am,qK.ce cm (by omega) (by omega) (by simp; omega) (by simp)⟩,by omega,by omega,by omega,⟨_,qM,fun j _=>seen_get _ _⟩,⟨ty,?_⟩,by omega,by omega⟩,n1⟩
 rw [qK.get 0 (by omega) (by simp; omega)]; exact hty
theorem f6_cons {s:St} {t:Tr AV} {r1 r2 mr tr n:Nat} {cv bv:AV} {T:List Str} {ds:List ConD} (hv:IsCons cv ds) (hl:ds.length≤1000000) (h:F6 st s t r1 r2 cv bv) (h5:tget t 5 = .p mr 0) (hM:Mk s mr tr T n) {N:Nat} (hN:1≤N) :
  ∃ t' s' v r8 hi,evC (cHd (f6at 4)) ⟨Tryz.prog,Tw c N,false,Tryz.f6.ntmps,N⟩ t s = .nx t' s'∧F6 st s' t' r1 r2 cv bv∧tget t' 5 = .p mr 0∧tget t' 8 = .p r8 0∧(∃ al,s'.ce r8=some ([v,.sn],r8,al))∧Mk s' mr tr T n∧CloW s' s.next hi 4 cv v∧hi≤r8∧s.next≤hi∧r8 < s'.next:=by
 obtain ⟨l1,l2,l3⟩:=h.lo
 obtain ⟨a1,c1⟩:=h.c1
 have rc:rd s r1 0 1=some [cv]:=by rw [rd_of c1]; rfl
 obtain ⟨v,s1,f1,f2,f3⟩:=clone17_call (c:=c) (st:=s) hv hl hN
 have f2w:=f2.w
 have cc:=f2.cells
 have bo:=fun (t:Tr AV) (hx:evO t (.tmp 37)=v)=>build25 (st:=s1) (S:=Tw c N) (t:=t) hx cc.1
 obtain ⟨s2,u1,u2,u3,u4⟩:=alloc_store (s:=s1) (z:=[.sn,.sn]) (cells:=[v,.sn]) rfl (by simp [cc.2])
 have key:∃ t',evC (cHd (f6at 4)) ⟨Tryz.prog,Tw c N,false,Tryz.f6.ntmps,N⟩ t s = .nx t' s2∧tget t' 1 = .p r1 0∧tget t' 2 = .p r2 0∧tget t' 5 = .p mr 0∧tget t' 8 = .p s1.next 0:=by
  simp [f6at,cHd,cTl,Tryz.f6,h.t1,h.t2,h5,off25_0,load_p inf22 ag22,rc,callF_of Tryz.func17 rfl,f1,bo,opH_alloc,zC25,store_ag inf25 sz25,u1]
 obtain ⟨t',q0,q1,q2,q5,q8⟩:=key
 have k:Kp [] [] s s2:=f3.trans u3
 exact ⟨t',s2,v,s1.next,s1.next,q0,h.keep k (by simp) (by simp) q1 q2,q5,q8,⟨_,u2⟩,hM.keep k (by simp) (by simp) (by simp) (by simp),f2w.keep u3 (by simp) (by simp),Nat.le_refl _,f3.next,u4⟩
end
end Go.Proofs.YtbemeikjepjhoaaGreatDoor
