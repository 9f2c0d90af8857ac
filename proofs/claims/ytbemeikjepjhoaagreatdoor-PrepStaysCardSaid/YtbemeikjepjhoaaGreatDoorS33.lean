/-
  What count, strict, first, Atom and normal answer, of any expression.
-/
import Derived.Test.YtbemeikjepjhoaaGreatDoorS32
namespace Go.Proofs.YtbemeikjepjhoaaGreatDoor
open Go.Ev
set_option maxRecDepth 100000
noncomputable section
section
variable {c : Option Self} {st : St}
structure ExAt (s:St) (p:Nat) (cl:List AV) (k:Int) (nm:List Nat) (b a l:ExL):Prop where
 kd:rd s p 0 1=some [.i .i64 k]
 nm:rd s p 1 1=some [.s nm]
 b:rd s p 4 1=some [b.slice 8]
 a:rd s p 5 1=some [a.slice 7]
 l:rd s p 6 1=some [l.slice 11]
 all:rd s p 0 7=some cl
theorem exAt {s:St} {p:Nat} {k:Int} {nm:List Nat} {num:Int} {ps:AV} {b a l:ExL} {g:Nat} {al:List Nat} (hc:s.ce p=some ((Ex.mk k nm num ps b a l).cells,g,al)):ExAt s p (Ex.mk k nm num ps b a l).cells k nm b a l:=by
 unfold Ex.cells at hc ⊢
 exact ⟨by rw [rd_of hc]; rfl,by rw [rd_of hc]; rfl,by rw [rd_of hc]; rfl,by rw [rd_of hc]; rfl,by rw [rd_of hc]; rfl,by rw [rd_of hc]; rfl⟩
theorem atom_call (x:Ex) (n:Nat):(Tw c (n+1)).call 39 [.ag x.cells] st=some (.b x.atom,st.newCe x.cells):=by
 rw [body_out rfl Tryz.func39 rfl (Nat.le_of_ble_eq_true rfl)]; unfold bodyR
 obtain ⟨k,nm,num,ps,b,a,l⟩:=x
 have hc:=exAt (newCe_ce (st:=st) (Ex.mk k nm num ps b a l).cells)
 unfold Ex.atom atomK Ex.kind
 generalize (Ex.mk k nm num ps b a l).cells=cl at *
 by_cases h1:k=1
 ·simp [Tryz.f39,off40_0,load_p inf3 ag3,hc.kd,h1,resOf_eq,pmapO]
 ·by_cases h2:k=2
  ·simp [Tryz.f39,off40_0,load_p inf3 ag3,hc.kd,h2,resOf_eq,pmapO]
  ·simp [Tryz.f39,off40_0,load_p inf3 ag3,hc.kd,h1,h2,resOf_eq,pmapO]
def strictK (strF:List Nat→Int) (k:Int) (nm:List Nat) (n:Nat):Int:=if k=4 then 0 else if k=6 then 1 else if k=9 then ((strF nm).toNat:Int) else (n:Int)
def firstK (strF:List Nat→Int) (k:Int) (nm:List Nat) (n:Nat):Int:=if k=5∨k=7∨k=8 then 1 else strictK strF k nm n
theorem strict_call (k:Int) (nm:List Nat) (num:Int) (ps:AV) (b a l:ExL) (n:Nat) :
  (Tw c (n+2)).call 38 [.ag (Ex.mk k nm num ps b a l).cells] st=some (.i .i64 (strictK strF k nm a.len),st.newCe (Ex.mk k nm num ps b a l).cells):=by
 rw [body_out rfl Tryz.func38 rfl (Nat.le_of_ble_eq_true rfl)]; unfold bodyR
 have hc:=exAt (newCe_ce (st:=st) (Ex.mk k nm num ps b a l).cells)
 generalize (Ex.mk k nm num ps b a l).cells=cl at *
 unfold strictK
 by_cases h1:k=4
 ·simp [Tryz.f38,off40_0,load_p inf3 ag3,hc.kd,h1,resOf_eq,pmapO]
 ·by_cases h2:k=6
  ·simp [Tryz.f38,off40_0,load_p inf3 ag3,hc.kd,h2,resOf_eq,pmapO]
  ·by_cases h3:k=9
   ·simp [Tryz.f38,off40_0,off40_1,load_p inf3 ag3,load_p inf9 ag9,hc.kd,hc.nm,h3,callF_of Tryz.func58 rfl,fun (st:St) (l:Str)=>strict58_call (c:=c) (st:=st) l (N:=n+1) (by omega),max_zero,resOf_eq,pmapO]
   ·simp [Tryz.f38,off40_0,off40_5,load_p inf3 ag3,load_p inf37 ag37,hc.kd,hc.a,h1,h2,h3,len_sl Tryz.underlying37 (a.slice_len 7) (a.slice_text 7),resOf_eq,pmapO]
theorem first_call (k:Int) (nm:List Nat) (num:Int) (ps:AV) (b a l:ExL) (n:Nat) :
  ∃ st',(Tw c (n+3)).call 53 [.ag (Ex.mk k nm num ps b a l).cells] st=some (.i .i64 (firstK strF k nm a.len),st')∧Kp [] [] st st':=by
 have hs:=strict_call (c:=c) (st:=st.newCe (Ex.mk k nm num ps b a l).cells) k nm num ps b a l n
 have hc:=exAt (newCe_ce (st:=st) (Ex.mk k nm num ps b a l).cells)
 rw [body_out rfl Tryz.func53 rfl (Nat.le_of_ble_eq_true rfl)]; unfold bodyR
 generalize (Ex.mk k nm num ps b a l).cells=cl at *
 unfold firstK
 by_cases h1:k=5
 ·refine ⟨_,?_,.newCe _ _ cl⟩
  simp [Tryz.f53,off40_0,load_p inf3 ag3,hc.kd,h1,resOf_eq,pmapO]
 ·by_cases h2:k=7
  ·refine ⟨_,?_,.newCe _ _ cl⟩
   simp [Tryz.f53,off40_0,load_p inf3 ag3,hc.kd,h2,resOf_eq,pmapO]
  ·by_cases h3:k=8
   ·refine ⟨_,?_,.newCe _ _ cl⟩
    simp [Tryz.f53,off40_0,load_p inf3 ag3,hc.kd,h3,resOf_eq,pmapO]
   ·refine ⟨_,?_,(Kp.newCe _ _ cl).trans (.newCe _ _ cl)⟩
    simp [Tryz.f53,off40_0,load_p inf3 ag3,load_ag inf40 ag40,sz40,hc.kd,hc.all,h1,h2,h3,callF_of Tryz.func38 rfl,hs,resOf_eq,pmapO]
end
structure Cnt (n base most:Nat) (L:List (List AV × Ex)) (i m:Nat):Prop where
 lo:n < m
 hi:m≤max n most+1
 eq:m≤most→m=base+sumTo L i
def CntS (v:AV) (n base most:Nat) (L:List (List AV × Ex)) (i:Nat):Prop:=∃ m:Nat,v = .i .i64 (m:Int)∧Cnt n base most L i m
section
variable {c : Option Self}
def CountedOK (c:Option Self) (x:Ex):Prop:=x.Wf→∀ (n most:Nat) (st:St) (N:Nat),x.size+5≤N→n≤1000000000→most≤1000000000 →
 ∃ (m:Nat) (st':St),(Tw c N).call 16 [.ag x.cells,.i .i64 (n:Int),.i .i64 (most:Int)] st=some (.i .i64 (m:Int),st')∧Kp [] [] st st'∧n < m∧m≤max n most+1∧(m≤most→m=n+x.size)
theorem counted_call:∀ x,CountedOK c x:=by
 refine Ex.ind fun k nm num ps b a l hb ha hl=>?_
 intro hwf n most st N hN hn hm
 simp only [Ex.Wf] at hwf
 obtain ⟨-,⟨pb,pa,pl⟩,⟨wb,wa,wl⟩,-⟩:=hwf
 obtain ⟨N,rfl⟩:∃ N',N=N'+1:=⟨N - 1,by omega⟩
 have hsz:(Ex.mk k nm num ps b a l).size=1+b.size+a.size+l.size:=by simp only [Ex.size]
 rw [hsz] at hN
 rw [body_out rfl Tryz.func16 rfl (Nat.le_of_ble_eq_true rfl)]; unfold bodyR
 have hce:=newCe_ce (st:=st) (Ex.mk k nm num ps b a l).cells
 have hp:st.next < (st.newCe (Ex.mk k nm num ps b a l).cells).next:=Nat.lt_succ_self _
 have k0:Kp [] [] st (st.newCe (Ex.mk k nm num ps b a l).cells):=.newCe _ _ _
 obtain ⟨s0,hs0⟩:∃ s0,st.newCe (Ex.mk k nm num ps b a l).cells=s0:=⟨_,rfl⟩
 rw [hs0] at k0 hp hce
 have at1:∀ {s:St},Kp [] [] s0 s→ExAt s st.next (Ex.mk k nm num ps b a l).cells k nm b a l:=fun kk=>exAt (kk.ce hce hp hp (by simp) (by simp))
 have e1:wr .i64 ((n:Int)+1)=((n+1:Nat):Int):=by rw [wr_in (by omega) (by omega)]; rfl
 simp [Tryz.f16,e1,hs0,evC_loop]
 generalize hL:loopC _ _ _ _=Lo
 obtain ⟨t1,s1,rfl,a1,b1,c1,d1⟩:=loop_ex hL 0 a.list.length
  (fun i t s=>tget t 2 = .i .i64 (most:Int)∧tget t 3 = .p st.next 0∧tget t 7 = .i .i64 (i:Int)∧Kp [] [] s0 s∧CntS (tget t 1) n (n+1) most a.list i)
  (fun t s=>tget t 2 = .i .i64 (most:Int)∧tget t 3 = .p st.next 0∧Kp [] [] s0 s∧CntS (tget t 1) n (n+1) most a.list a.list.length)
  (by rw [← ExL.len_eq]; have:=a.len_le; omega)
  ⟨by simp,by simp,by simp,.refl _ _ _,n+1,by simp,Nat.lt_succ_self _,by omega,fun _=>by rw [sumTo_zero]⟩
  (by
   rintro i t s hi ⟨i2,i3,i7,iK,m,i1,iC⟩
   clear hL
   have hx:=at1 iK
   have hil:i < a.len:=by rw [ExL.len_eq]; exact hi
   have e5:(i:Int) < (a.len:Int):=by omega
   have vl:=fun st:St=>len_sl (st:=st) Tryz.underlying37 (a.slice_len 7) (a.slice_text 7)
   by_cases hm':m≤most
   ·left
    have e6:(m:Int)≤(most:Int):=by omega
    have e7:wr .i64 ((i:Int)+1)=((i+1:Nat):Int):=by
     have:=sumTo_ge a.list i (by omega)
     have:=iC.eq hm'
     rw [wr_in (by omega) (by omega)]; rfl
    obtain ⟨r,r1,r2⟩:=part_at pa (show 0+7=7 from rfl) hi
    have ix:=index_rs (P:=Tryz.prog) Tryz.underlying37 inf40 sz40 a.flat a.len i hil
    rw [← ExL.slice_rs hil,r1,List.eq_nil_of_length_eq_zero r2,List.nil_append] at ix
    have hmem:=List.getElem_mem hi
    have hsz':=ExL.size_mem hmem
    obtain ⟨m',s',g1,g2,g3,g4,g5⟩:=ha _ hmem (ExL.wf_list wa _ hmem).1 m most s N (by omega) (by have:=iC.hi; omega) hm
    have hd:True:=trivial
    simp [i1,i2,i3,i7,off40_5,load_p inf37 ag37,hx.a,vl,e5,e6,ix,load_rpAg inf40 ag40,sz40,take_cells,callF_of Tryz.func16 rfl,g1,e7]
    refine ⟨_,_,⟨rfl,rfl⟩,by simp [i2],by simp [i3],by simp,iK.trans g2,m',by simp,⟨by have:=iC.lo; omega,by have:=iC.hi; omega,fun h=>?_⟩⟩
    rw [sumTo_succ hi,g5 h,iC.eq hm']; omega
   ·right
    have e6:¬ (m:Int)≤(most:Int):=by omega
    simp [i1,i2,i3,i7,off40_5,load_p inf37 ag37,hx.a,vl,e5,e6]
    exact ⟨_,_,⟨rfl,rfl⟩,by simp [i2],by simp [i3],iK,m,by simp [i1],iC.lo,iC.hi,fun h=>absurd h hm'⟩)
  (by
   rintro t s ⟨i2,i3,i7,iK,m,i1,iC⟩
   clear hL
   have hx:=at1 iK
   have vl:=fun st:St=>len_sl (st:=st) Tryz.underlying37 (a.slice_len 7) (a.slice_text 7)
   simp [i3,i7,off40_5,load_p inf37 ag37,hx.a,vl,ExL.len_eq]
   exact ⟨_,_,⟨rfl,rfl⟩,by simp [i2],by simp [i3],iK,m,by simp [i1],iC⟩)
 clear hL
 obtain ⟨m1,u1,v1⟩:=d1
 simp [evC_loop]
 generalize hL:loopC _ _ _ _=Lo
 obtain ⟨t2,s2,rfl,a2,b2,c2,d2⟩:=loop_ex hL 2 b.list.length
  (fun i t s=>tget t 2 = .i .i64 (most:Int)∧tget t 3 = .p st.next 0∧tget t 8 = .i .i64 (i:Int)∧Kp [] [] s0 s∧CntS (tget t 1) n (n+1+a.size) most b.list i)
  (fun t s=>tget t 2 = .i .i64 (most:Int)∧tget t 3 = .p st.next 0∧Kp [] [] s0 s∧CntS (tget t 1) n (n+1+a.size) most b.list b.list.length)
  (by rw [← ExL.len_eq]; have:=b.len_le; omega)
  ⟨by simp [a1],by simp [b1],by simp,c1,m1,by simp [u1],v1.lo,v1.hi,fun h=>by rw [sumTo_zero,v1.eq h,sumTo_all]; rfl⟩
  (by
   rintro i t s hi ⟨i2,i3,i7,iK,m,i1,iC⟩
   clear hL
   have hx:=at1 iK
   have hil:i < b.len:=by rw [ExL.len_eq]; exact hi
   have e5:(i:Int) < (b.len:Int):=by omega
   have vl:=fun st:St=>len_sl (st:=st) Tryz.underlying23 (b.slice_len 8) (b.slice_text 8)
   by_cases hm':m≤most
   ·left
    have e6:(m:Int)≤(most:Int):=by omega
    have e7:wr .i64 ((i:Int)+1)=((i+1:Nat):Int):=by
     have:=sumTo_ge b.list i (by omega)
     have:=iC.eq hm'
     rw [wr_in (by omega) (by omega)]; rfl
    obtain ⟨r,r1,r2⟩:=part_at pb (show 1+7=8 from rfl) hi
    have ix:=index_rs (P:=Tryz.prog) Tryz.underlying23 inf42 sz42 b.flat b.len i hil
    rw [← ExL.slice_rs hil,r1] at ix
    have hmem:=List.getElem_mem hi
    have hsz':=ExL.size_mem hmem
    obtain ⟨m',s',g1,g2,g3,g4,g5⟩:=hb _ hmem (ExL.wf_list wb _ hmem).1 m most s N (by omega) (by have:=iC.hi; omega) hm
    have hd:(b.list[i].1++(b.list[i].2.cells++r)).drop 1=b.list[i].2.cells++r:=by rw [List.drop_append,r2]; simp [r2,List.drop_eq_nil_of_le]
    simp [i1,i2,i3,i7,off40_4,load_p inf23 ag23,hx.b,vl,e5,e6,ix,off42_1,hd,load_rpAg inf40 ag40,sz40,take_cells,callF_of Tryz.func16 rfl,g1,e7]
    refine ⟨_,_,⟨rfl,rfl⟩,by simp [i2],by simp [i3],by simp,iK.trans g2,m',by simp,⟨by have:=iC.lo; omega,by have:=iC.hi; omega,fun h=>?_⟩⟩
    rw [sumTo_succ hi,g5 h,iC.eq hm']; omega
   ·right
    have e6:¬ (m:Int)≤(most:Int):=by omega
    simp [i1,i2,i3,i7,off40_4,load_p inf23 ag23,hx.b,vl,e5,e6]
    exact ⟨_,_,⟨rfl,rfl⟩,by simp [i2],by simp [i3],iK,m,by simp [i1],iC.lo,iC.hi,fun h=>absurd h hm'⟩)
  (by
   rintro t s ⟨i2,i3,i7,iK,m,i1,iC⟩
   clear hL
   have hx:=at1 iK
   have vl:=fun st:St=>len_sl (st:=st) Tryz.underlying23 (b.slice_len 8) (b.slice_text 8)
   simp [i3,i7,off40_4,load_p inf23 ag23,hx.b,vl,ExL.len_eq]
   exact ⟨_,_,⟨rfl,rfl⟩,by simp [i2],by simp [i3],iK,m,by simp [i1],iC⟩)
 clear hL
 obtain ⟨m2,u2,v2⟩:=d2
 simp [evC_loop]
 generalize hL:loopC _ _ _ _=Lo
 obtain ⟨t3,s3,rfl,a3,b3,c3,d3⟩:=loop_ex hL 4 l.list.length
  (fun i t s=>tget t 2 = .i .i64 (most:Int)∧tget t 3 = .p st.next 0∧tget t 9 = .i .i64 (i:Int)∧Kp [] [] s0 s∧CntS (tget t 1) n (n+1+a.size+b.size) most l.list i)
  (fun t s=>tget t 2 = .i .i64 (most:Int)∧tget t 3 = .p st.next 0∧Kp [] [] s0 s∧CntS (tget t 1) n (n+1+a.size+b.size) most l.list l.list.length)
  (by rw [← ExL.len_eq]; have:=l.len_le; omega)
  ⟨by simp [a2],by simp [b2],by simp,c2,m2,by simp [u2],v2.lo,v2.hi,fun h=>by rw [sumTo_zero,v2.eq h,sumTo_all]; rfl⟩
  (by
   rintro i t s hi ⟨i2,i3,i7,iK,m,i1,iC⟩
   clear hL
   have hx:=at1 iK
   have hil:i < l.len:=by rw [ExL.len_eq]; exact hi
   have e5:(i:Int) < (l.len:Int):=by omega
   have vl:=fun st:St=>len_sl (st:=st) Tryz.underlying38 (l.slice_len 11) (l.slice_text 11)
   by_cases hm':m≤most
   ·left
    have e6:(m:Int)≤(most:Int):=by omega
    have e7:wr .i64 ((i:Int)+1)=((i+1:Nat):Int):=by
     have:=sumTo_ge l.list i (by omega)
     have:=iC.eq hm'
     rw [wr_in (by omega) (by omega)]; rfl
    obtain ⟨r,r1,r2⟩:=part_at pl (show 4+7=11 from rfl) hi
    have ix:=index_rs (P:=Tryz.prog) Tryz.underlying38 inf80 sz80 l.flat l.len i hil
    rw [← ExL.slice_rs hil,r1] at ix
    have hmem:=List.getElem_mem hi
    have hsz':=ExL.size_mem hmem
    obtain ⟨m',s',g1,g2,g3,g4,g5⟩:=hl _ hmem (ExL.wf_list wl _ hmem).1 m most s N (by omega) (by have:=iC.hi; omega) hm
    have hd:(l.list[i].1++(l.list[i].2.cells++r)).drop 4=l.list[i].2.cells++r:=by rw [List.drop_append,r2]; simp [r2,List.drop_eq_nil_of_le]
    simp [i1,i2,i3,i7,off40_6,load_p inf38 ag38,hx.l,vl,e5,e6,ix,off80_4,hd,load_rpAg inf40 ag40,sz40,take_cells,callF_of Tryz.func16 rfl,g1,e7]
    refine ⟨_,_,⟨rfl,rfl⟩,by simp [i2],by simp [i3],by simp,iK.trans g2,m',by simp,⟨by have:=iC.lo; omega,by have:=iC.hi; omega,fun h=>?_⟩⟩
    rw [sumTo_succ hi,g5 h,iC.eq hm']; omega
   ·right
    have e6:¬ (m:Int)≤(most:Int):=by omega
    simp [i1,i2,i3,i7,off40_6,load_p inf38 ag38,hx.l,vl,e5,e6]
    exact ⟨_,_,⟨rfl,rfl⟩,by simp [i2],by simp [i3],iK,m,by simp [i1],iC.lo,iC.hi,fun h=>absurd h hm'⟩)
  (by
   rintro t s ⟨i2,i3,i7,iK,m,i1,iC⟩
   clear hL
   have hx:=at1 iK
   have vl:=fun st:St=>len_sl (st:=st) Tryz.underlying38 (l.slice_len 11) (l.slice_text 11)
   simp [i3,i7,off40_6,load_p inf38 ag38,hx.l,vl,ExL.len_eq]
   exact ⟨_,_,⟨rfl,rfl⟩,by simp [i2],by simp [i3],iK,m,by simp [i1],iC⟩)
 clear hL
 obtain ⟨m3,u3,v3⟩:=d3
 refine ⟨m3,s3,?_,k0.trans c3,v3.lo,v3.hi,fun h=>?_⟩
 ·simp [u3,resOf_eq,pmapO]
 ·rw [v3.eq h,sumTo_all,hsz]; omega
end
def PtrEx (st:St) (cr:Nat) (v:AV) (x:Ex):Prop:=(∃ r,v = .rp (x.cells++r))∨∃ p al,v = .p p 0∧st.ce p=some (x.cells,p,al)∧p < st.next∧p≠cr
def Ctr (st:St) (cr n:Nat):Prop:=(∃ al d,st.ce cr=some ([.i .i64 (n:Int),.b d],cr,al))∧cr < st.next
def Shallow (L:List (List AV × Ex)) (i at1:Nat):Prop:=∀ j (h:j < L.length),j < i→at1+1+L[j].2.depth≤4097
section
variable {c : Option Self} {st : St} {cr : Nat} {v : AV}
theorem PtrEx.kp {st':St} {x:Ex} (h:PtrEx st cr v x) (k:Kp [cr] [cr] st st'):PtrEx st' cr v x:=by
 rcases h with h | ⟨p,al,rfl,h1,h2,h3⟩
 ·exact .inl h
 ·exact .inr ⟨p,al,rfl,k.ce h1 h2 h2 (by simp [h3]) (by simp [h3]),Nat.lt_of_lt_of_le h2 k.next,h3⟩
theorem PtrEx.nn {x:Ex} (h:PtrEx st cr v x):notNil st v=some (v,st):=by
 rcases h with ⟨r,rfl⟩ | ⟨p,al,rfl,-⟩ <;> rfl
theorem ptr_a {k:Int} {nm:List Nat} {num:Int} {ps:AV} {b a l:ExL} (h:PtrEx st cr v (.mk k nm num ps b a l)):∃ ad,fieldAt 5 st v=some (ad,st)∧loadAt Tryz.prog 37 st ad=some (a.slice 7):=by
 rcases h with ⟨r,rfl⟩ | ⟨p,al,rfl,h1,-⟩
 ·refine ⟨_,rfl,?_⟩
  rw [load_rp inf37 ag37]; unfold Ex.cells; rfl
 ·refine ⟨_,rfl,?_⟩
  rw [load_p inf37 ag37,Nat.zero_add,(exAt h1).a]; rfl
theorem ptr_b {k:Int} {nm:List Nat} {num:Int} {ps:AV} {b a l:ExL} (h:PtrEx st cr v (.mk k nm num ps b a l)):∃ ad,fieldAt 4 st v=some (ad,st)∧loadAt Tryz.prog 23 st ad=some (b.slice 8):=by
 rcases h with ⟨r,rfl⟩ | ⟨p,al,rfl,h1,-⟩
 ·refine ⟨_,rfl,?_⟩
  rw [load_rp inf23 ag23]; unfold Ex.cells; rfl
 ·refine ⟨_,rfl,?_⟩
  rw [load_p inf23 ag23,Nat.zero_add,(exAt h1).b]; rfl
theorem ptr_l {k:Int} {nm:List Nat} {num:Int} {ps:AV} {b a l:ExL} (h:PtrEx st cr v (.mk k nm num ps b a l)):∃ ad,fieldAt 6 st v=some (ad,st)∧loadAt Tryz.prog 38 st ad=some (l.slice 11):=by
 rcases h with ⟨r,rfl⟩ | ⟨p,al,rfl,h1,-⟩
 ·refine ⟨_,rfl,?_⟩
  rw [load_rp inf38 ag38]; unfold Ex.cells; rfl
 ·refine ⟨_,rfl,?_⟩
  rw [load_p inf38 ag38,Nat.zero_add,(exAt h1).l]; rfl
def Stop (s:St) (cr n at1:Nat) (x:Ex):Prop:=∃ n',Ctr s cr n'∧n≤n'∧n'≤n+x.size∧¬ (at1+x.depth≤4097∧n+x.size≤1048576)
structure CountR (x:Ex) (n at1:Nat) (b:Bool) (n':Nat):Prop where
 lo:n≤n'
 hi:n'≤n+x.size
 yes:b=true→n'=n+x.size∧at1+x.depth≤4097∧n+x.size≤1048576
 fit:at1+x.depth≤4097→n+x.size≤1048576→b=true
def CountRes (o:Option (AV × St)) (st:St) (cr n at1:Nat) (x:Ex):Prop:=∃ (b:Bool) (n':Nat) (st':St),o=some (.b b,st')∧Ctr st' cr n'∧Kp [cr] [cr] st st'∧CountR x n at1 b n'
def CountOK (c:Option Self) (x:Ex):Prop:=x.Wf→∀ (cr n at1:Nat) (st:St) (v:AV) (N:Nat),x.size+5≤N→n+x.size≤1000000000→at1≤1000000→Ctr st cr n→PtrEx st cr v x →
 CountRes ((Tw c N).call 41 [.p cr 0,v,.i .i64 (at1:Int)] st) st cr n at1 x
theorem count_call:∀ x,CountOK c x:=by
 refine Ex.ind fun k nm num ps b a l hb ha hl=>?_
 intro hwf cr n at1 st v N hN hn hat hC hP
 simp only [Ex.Wf] at hwf
 obtain ⟨-,⟨pb,pa,pl⟩,⟨wb,wa,wl⟩,-⟩:=hwf
 obtain ⟨N,rfl⟩:∃ N',N=N'+1:=⟨N - 1,by omega⟩
 have hsz:(Ex.mk k nm num ps b a l).size=1+b.size+a.size+l.size:=by simp only [Ex.size]
 have hdp:(Ex.mk k nm num ps b a l).depth=1+max b.depth (max a.depth l.depth):=by simp only [Ex.depth]
 rw [hsz] at hN hn
 rw [body_out rfl Tryz.func41 rfl (Nat.le_of_ble_eq_true rfl)]; unfold bodyR
 obtain ⟨⟨al,d,hc⟩,hlt⟩:=hC
 have e1:wr .i64 ((n:Int)+1)=((n+1:Nat):Int):=by rw [wr_in (by omega) (by omega)]; rfl
 have e2:wr .i64 ((at1:Int)+1)=((at1+1:Nat):Int):=by rw [wr_in (by omega) (by omega)]; rfl
 obtain ⟨s0,hs0⟩:∃ s0,st.setCe cr [.i .i64 ((n+1:Nat):Int),.b d] cr=s0:=⟨_,rfl⟩
 have hc0:s0.ce cr=some ([.i .i64 ((n+1:Nat):Int),.b d],cr,[cr]):=by rw [← hs0]; exact setCe_ce _ _ _
 have k0:Kp [cr] [cr] st s0:=by rw [← hs0]; exact .setCe (by simp) (by simp)
 have hlt0:cr < s0.next:=Nat.lt_of_lt_of_le hlt k0.next
 have hs0':st.setCe cr [.i .i64 ((n:Int)+1),.b d] cr=s0:=hs0
 have e1':wr .i64 ((n:Int)+1)=(n:Int)+1:=e1
 by_cases hbad:4096 < at1∨1048576 < n+1
 ·obtain ⟨s1,hs1⟩:∃ s1,s0.setCe cr [.i .i64 ((n+1:Nat):Int),.b true] cr=s1:=⟨_,rfl⟩
  have hs1':s0.setCe cr [.i .i64 ((n:Int)+1),.b true] cr=s1:=hs1
  unfold CountRes
  refine ⟨false,n+1,s1,?_,⟨⟨[cr],true,by rw [← hs1]; exact setCe_ce _ _ _⟩,by rw [← hs1]; exact hlt0⟩,k0.trans (by rw [← hs1]; exact .setCe (by simp) (by simp)),⟨by omega,by rw [hsz]; omega,fun h=>(by cases h),fun h1 h2=>?_⟩⟩
  ·by_cases h4:4096 < at1
   ·have e3:(4096:Int) < (at1:Int):=by omega
    simp [Tryz.f41,off90_0,off90_1,load_p inf3 ag3,rd_of hc,e1',store_p inf3 sz3,wt_of hc,hs0',e3,store_p inf4 sz4,wt_of hc0,hs1',resOf_eq,pmapO]
   ·have e3:¬ (4096:Int) < (at1:Int):=by omega
    have e4:(1048576:Int) < (n:Int)+1:=by omega
    simp [Tryz.f41,off90_0,off90_1,load_p inf3 ag3,rd_of hc,rd_of hc0,e1',store_p inf3 sz3,wt_of hc,hs0',e3,e4,store_p inf4 sz4,wt_of hc0,hs1',resOf_eq,pmapO]
  ·rw [hsz] at h2; rw [hdp] at h1; omega
 ·have e3:¬ (4096:Int) < (at1:Int):=by omega
  have e4:¬ (1048576:Int) < (n:Int)+1:=by omega
  have hP0:=hP.kp k0
  obtain ⟨ad,f1,f2⟩:=ptr_a hP0
  simp [Tryz.f41,off90_0,off40_5,load_p inf3 ag3,rd_of hc,rd_of hc0,e1',store_p inf3 sz3,wt_of hc,hs0',e3,e4,hP0.nn,f1,f2,len_sl Tryz.underlying37 (a.slice_len 7) (a.slice_text 7),evC_loop]
  generalize hL:loopC _ _ _ _=Lo
  have step1:_:=loop_ret hL 0 a.list.length
   (fun i t s=>tget t 0 = .p cr 0∧tget t 1=v∧tget t 2 = .i .i64 (at1:Int)∧tget t 33 = .i .i64 (a.len:Int)∧tget t 34 = .i .i64 (i:Int)∧Kp [cr] [cr] st s∧Ctr s cr (n+1+sumTo a.list i)∧n+1+sumTo a.list i≤1048576∧Shallow a.list i at1)
   (fun t s=>tget t 0 = .p cr 0∧tget t 1=v∧tget t 2 = .i .i64 (at1:Int)∧Kp [cr] [cr] st s∧Ctr s cr (n+1+a.size)∧n+1+a.size≤1048576∧Shallow a.list a.list.length at1)
   (fun t s=>tget t 6 = .b false∧Kp [cr] [cr] st s∧Stop s cr n at1 (.mk k nm num ps b a l))
   (by rw [← ExL.len_eq]; have:=a.len_le; omega)
   ⟨by simp,by simp,by simp,by simp,by simp,k0,⟨⟨_,_,by rw [sumTo_zero]; exact hc0⟩,hlt0⟩,by rw [sumTo_zero]; omega,fun j hj h=>by omega⟩
   (by
    rintro i t s hi ⟨i0,i1,i2,i3,i4,iK,iC,iB,iS⟩
    clear hL
    have hil:i < a.len:=by rw [ExL.len_eq]; exact hi
    have hi2:=sumTo_ge a.list i (by omega)
    have e5:(i:Int) < (a.len:Int):=by omega
    have e7:wr .i64 ((i:Int)+1)=((i+1:Nat):Int):=by rw [wr_in (by omega) (by omega)]; rfl
    obtain ⟨r,r1,r2⟩:=part_at pa (show 0+7=7 from rfl) hi
    have ix:=index_rs (P:=Tryz.prog) Tryz.underlying37 inf40 sz40 a.flat a.len i hil
    rw [← ExL.slice_rs hil,r1,List.eq_nil_of_length_eq_zero r2,List.nil_append] at ix
    have hmem:=List.getElem_mem hi
    have hsz':=ExL.size_mem hmem
    have hdp':=ExL.depth_mem hmem
    have hsum:sumTo a.list (i+1)≤a.size:=by
     rw [← sumTo_all]
     have key:∀ j,j≤a.list.length→∀ i,i≤j→sumTo a.list i≤sumTo a.list j:=by
      intro j
      induction j with
      | zero=>intro _ i hi; rw [Nat.le_zero.1 hi]; exact Nat.le_refl _
      | succ j ihj =>
       intro hj i hij
       rcases Nat.lt_or_ge i (j+1) with h | h
       ·have:=ihj (by omega) i (by omega)
        rw [sumTo_succ (by omega:j < a.list.length)]; omega
       ·rw [Nat.le_antisymm hij h]; exact Nat.le_refl _
     exact key _ (Nat.le_refl _) _ hi
    rw [sumTo_succ hi] at hsum
    have hPs:=hP.kp iK
    obtain ⟨ad,f1,f2⟩:=ptr_a hPs
    have hd:True:=trivial
    obtain ⟨bb,n',s',g1,g2,g3,g4⟩:=ha _ hmem (ExL.wf_list wa _ hmem).1 cr (n+1+sumTo a.list i) (at1+1) s (.rp (a.list[i].2.cells++r)) N (by omega) (by omega) (by omega) iC (.inl ⟨r,rfl⟩)
    rw [show ((at1+1:Nat):Int)=(at1:Int)+1 from rfl] at g1
    cases bb with
    | true =>
     left
     obtain ⟨y1,y2,y3⟩:=g4.yes rfl
     simp [i0,i1,i2,i3,i4,e2,e5,e7,hPs.nn,off40_5,f1,f2,ix,callF_of Tryz.func41 rfl,g1]
     refine ⟨_,_,⟨rfl,rfl⟩,by simp [i0],by simp [i1],by simp [i2],by simp [i3],by simp,iK.trans g3,?_,?_,fun j hj hji=>?_⟩
     ·rw [sumTo_succ hi,← Nat.add_assoc,← y1]; exact g2
     ·rw [sumTo_succ hi]; omega
     ·by_cases hje:j=i
      ·subst hje; exact y2
      ·exact iS j hj (by omega)
    | false =>
     right
     simp [i0,i1,i2,i3,i4,e2,e5,hPs.nn,off40_5,f1,f2,ix,callF_of Tryz.func41 rfl,g1]
     refine ⟨_,_,⟨rfl,rfl⟩,by simp,iK.trans g3,n',g2,?_,?_,?_⟩
     ·have:=g4.lo; omega
     ·rw [hsz]; have:=g4.hi; omega
     ·rintro ⟨z1,z2⟩
      rw [hdp] at z1
      rw [hsz] at z2
      have:=g4.fit (by omega) (by omega)
      cases this)
   (by
    rintro t s ⟨i0,i1,i2,i3,i4,iK,iC,iB,iS⟩
    clear hL
    rw [sumTo_all] at iC iB
    simp [i3,i4,ExL.len_eq]
    exact ⟨_,_,⟨rfl,rfl⟩,by simp [i0],by simp [i1],by simp [i2],iK,iC,iB,iS⟩)
  clear hL
  rcases step1 with ⟨t1,s1,rfl,p0,p1,p2,pK,pC,pB,pS⟩ | ⟨t1,s1,rfl,q6,qK,n',qC,q1,q2,q3⟩
  case inr =>
   unfold CountRes
   refine ⟨false,n',s1,?_,qC,qK,⟨q1,q2,fun h=>(by cases h),fun h1 h2=>absurd ⟨h1,h2⟩ q3⟩⟩
   simp [q6,resOf_eq,pmapO]
  case inl =>
  have hP1:=hP.kp pK
  obtain ⟨ad1,f3,f4⟩:=ptr_b hP1
  simp [p1,hP1.nn,off40_4,f3,f4,len_sl Tryz.underlying23 (b.slice_len 8) (b.slice_text 8),evC_loop]
  generalize hL:loopC _ _ _ _=Lo
  have step2:_:=loop_ret hL 2 b.list.length
   (fun i t s=>tget t 0 = .p cr 0∧tget t 1=v∧tget t 2 = .i .i64 (at1:Int)∧tget t 53 = .i .i64 (b.len:Int)∧tget t 54 = .i .i64 (i:Int)∧Kp [cr] [cr] st s∧Ctr s cr (n+1+a.size+sumTo b.list i)∧n+1+a.size+sumTo b.list i≤1048576∧Shallow b.list i at1)
   (fun t s=>tget t 0 = .p cr 0∧tget t 1=v∧tget t 2 = .i .i64 (at1:Int)∧Kp [cr] [cr] st s∧Ctr s cr (n+1+a.size+b.size)∧n+1+a.size+b.size≤1048576∧Shallow b.list b.list.length at1)
   (fun t s=>tget t 6 = .b false∧Kp [cr] [cr] st s∧Stop s cr n at1 (.mk k nm num ps b a l))
   (by rw [← ExL.len_eq]; have:=b.len_le; omega)
   ⟨by simp [p0],by simp [p1],by simp [p2],by simp,by simp,pK,by rw [sumTo_zero]; exact pC,by rw [sumTo_zero]; exact pB,fun j hj h=>by omega⟩
   (by
    rintro i t s hi ⟨i0,i1,i2,i3,i4,iK,iC,iB,iS⟩
    clear hL
    have hil:i < b.len:=by rw [ExL.len_eq]; exact hi
    have hi2:=sumTo_ge b.list i (by omega)
    have e5:(i:Int) < (b.len:Int):=by omega
    have e7:wr .i64 ((i:Int)+1)=((i+1:Nat):Int):=by rw [wr_in (by omega) (by omega)]; rfl
    obtain ⟨r,r1,r2⟩:=part_at pb (show 1+7=8 from rfl) hi
    have ix:=index_rs (P:=Tryz.prog) Tryz.underlying23 inf42 sz42 b.flat b.len i hil
    rw [← ExL.slice_rs hil,r1] at ix
    have hmem:=List.getElem_mem hi
    have hsz':=ExL.size_mem hmem
    have hdp':=ExL.depth_mem hmem
    have hsum:sumTo b.list (i+1)≤b.size:=by
     rw [← sumTo_all]
     have key:∀ j,j≤b.list.length→∀ i,i≤j→sumTo b.list i≤sumTo b.list j:=by
      intro j
      induction j with
      | zero=>intro _ i hi; rw [Nat.le_zero.1 hi]; exact Nat.le_refl _
      | succ j ihj =>
       intro hj i hij
       rcases Nat.lt_or_ge i (j+1) with h | h
       ·have:=ihj (by omega) i (by omega)
        rw [sumTo_succ (by omega:j < b.list.length)]; omega
       ·rw [Nat.le_antisymm hij h]; exact Nat.le_refl _
     exact key _ (Nat.le_refl _) _ hi
    rw [sumTo_succ hi] at hsum
    have hPs:=hP.kp iK
    obtain ⟨ad,f1,f2⟩:=ptr_b hPs
    have hd:(b.list[i].1++(b.list[i].2.cells++r)).drop 1=b.list[i].2.cells++r:=by rw [List.drop_append,r2]; simp [r2,List.drop_eq_nil_of_le]
    obtain ⟨bb,n',s',g1,g2,g3,g4⟩:=hb _ hmem (ExL.wf_list wb _ hmem).1 cr (n+1+a.size+sumTo b.list i) (at1+1) s (.rp (b.list[i].2.cells++r)) N (by omega) (by omega) (by omega) iC (.inl ⟨r,rfl⟩)
    rw [show ((at1+1:Nat):Int)=(at1:Int)+1 from rfl] at g1
    cases bb with
    | true =>
     left
     obtain ⟨y1,y2,y3⟩:=g4.yes rfl
     simp [i0,i1,i2,i3,i4,e2,e5,e7,hPs.nn,off40_4,f1,f2,ix,off42_1,hd,callF_of Tryz.func41 rfl,g1]
     refine ⟨_,_,⟨rfl,rfl⟩,by simp [i0],by simp [i1],by simp [i2],by simp [i3],by simp,iK.trans g3,?_,?_,fun j hj hji=>?_⟩
     ·rw [sumTo_succ hi,← Nat.add_assoc,← y1]; exact g2
     ·rw [sumTo_succ hi]; omega
     ·by_cases hje:j=i
      ·subst hje; exact y2
      ·exact iS j hj (by omega)
    | false =>
     right
     simp [i0,i1,i2,i3,i4,e2,e5,hPs.nn,off40_4,f1,f2,ix,off42_1,hd,callF_of Tryz.func41 rfl,g1]
     refine ⟨_,_,⟨rfl,rfl⟩,by simp,iK.trans g3,n',g2,?_,?_,?_⟩
     ·have:=g4.lo; omega
     ·rw [hsz]; have:=g4.hi; omega
     ·rintro ⟨z1,z2⟩
      rw [hdp] at z1
      rw [hsz] at z2
      have:=g4.fit (by omega) (by omega)
      cases this)
   (by
    rintro t s ⟨i0,i1,i2,i3,i4,iK,iC,iB,iS⟩
    clear hL
    rw [sumTo_all] at iC iB
    simp [i3,i4,ExL.len_eq]
    exact ⟨_,_,⟨rfl,rfl⟩,by simp [i0],by simp [i1],by simp [i2],iK,iC,iB,iS⟩)
  clear hL
  rcases step2 with ⟨t2,s2,rfl,r0,r1,r2,rK,rC,rB,rS⟩ | ⟨t2,s2,rfl,q6,qK,n',qC,q1,q2,q3⟩
  case inr =>
   unfold CountRes
   refine ⟨false,n',s2,?_,qC,qK,⟨q1,q2,fun h=>(by cases h),fun h1 h2=>absurd ⟨h1,h2⟩ q3⟩⟩
   simp [q6,resOf_eq,pmapO]
  case inl =>
  have hP2:=hP.kp rK
  obtain ⟨ad2,f5,f6⟩:=ptr_l hP2
  simp [r1,hP2.nn,off40_6,f5,f6,len_sl Tryz.underlying38 (l.slice_len 11) (l.slice_text 11),evC_loop]
  generalize hL:loopC _ _ _ _=Lo
  have step3:_:=loop_ret hL 4 l.list.length
   (fun i t s=>tget t 0 = .p cr 0∧tget t 1=v∧tget t 2 = .i .i64 (at1:Int)∧tget t 74 = .i .i64 (l.len:Int)∧tget t 75 = .i .i64 (i:Int)∧Kp [cr] [cr] st s∧Ctr s cr (n+1+a.size+b.size+sumTo l.list i)∧n+1+a.size+b.size+sumTo l.list i≤1048576∧Shallow l.list i at1)
   (fun t s=>tget t 0 = .p cr 0∧tget t 1=v∧tget t 2 = .i .i64 (at1:Int)∧Kp [cr] [cr] st s∧Ctr s cr (n+1+a.size+b.size+l.size)∧n+1+a.size+b.size+l.size≤1048576∧Shallow l.list l.list.length at1)
   (fun t s=>tget t 6 = .b false∧Kp [cr] [cr] st s∧Stop s cr n at1 (.mk k nm num ps b a l))
   (by rw [← ExL.len_eq]; have:=l.len_le; omega)
   ⟨by simp [r0],by simp [r1],by simp [r2],by simp,by simp,rK,by rw [sumTo_zero]; exact rC,by rw [sumTo_zero]; exact rB,fun j hj h=>by omega⟩
   (by
    rintro i t s hi ⟨i0,i1,i2,i3,i4,iK,iC,iB,iS⟩
    clear hL
    have hil:i < l.len:=by rw [ExL.len_eq]; exact hi
    have hi2:=sumTo_ge l.list i (by omega)
    have e5:(i:Int) < (l.len:Int):=by omega
    have e7:wr .i64 ((i:Int)+1)=((i+1:Nat):Int):=by rw [wr_in (by omega) (by omega)]; rfl
    obtain ⟨r,r1,r2⟩:=part_at pl (show 4+7=11 from rfl) hi
    have ix:=index_rs (P:=Tryz.prog) Tryz.underlying38 inf80 sz80 l.flat l.len i hil
    rw [← ExL.slice_rs hil,r1] at ix
    have hmem:=List.getElem_mem hi
    have hsz':=ExL.size_mem hmem
    have hdp':=ExL.depth_mem hmem
    have hsum:sumTo l.list (i+1)≤l.size:=by
     rw [← sumTo_all]
     have key:∀ j,j≤l.list.length→∀ i,i≤j→sumTo l.list i≤sumTo l.list j:=by
      intro j
      induction j with
      | zero=>intro _ i hi; rw [Nat.le_zero.1 hi]; exact Nat.le_refl _
      | succ j ihj =>
       intro hj i hij
       rcases Nat.lt_or_ge i (j+1) with h | h
       ·have:=ihj (by omega) i (by omega)
        rw [sumTo_succ (by omega:j < l.list.length)]; omega
       ·rw [Nat.le_antisymm hij h]; exact Nat.le_refl _
     exact key _ (Nat.le_refl _) _ hi
    rw [sumTo_succ hi] at hsum
    have hPs:=hP.kp iK
    obtain ⟨ad,f1,f2⟩:=ptr_l hPs
    have hd:(l.list[i].1++(l.list[i].2.cells++r)).drop 4=l.list[i].2.cells++r:=by rw [List.drop_append,r2]; simp [r2,List.drop_eq_nil_of_le]
    obtain ⟨bb,n',s',g1,g2,g3,g4⟩:=hl _ hmem (ExL.wf_list wl _ hmem).1 cr (n+1+a.size+b.size+sumTo l.list i) (at1+1) s (.rp (l.list[i].2.cells++r)) N (by omega) (by omega) (by omega) iC (.inl ⟨r,rfl⟩)
    rw [show ((at1+1:Nat):Int)=(at1:Int)+1 from rfl] at g1
    cases bb with
    | true =>
     left
     obtain ⟨y1,y2,y3⟩:=g4.yes rfl
     simp [i0,i1,i2,i3,i4,e2,e5,e7,hPs.nn,off40_6,f1,f2,ix,off80_4,hd,callF_of Tryz.func41 rfl,g1]
     refine ⟨_,_,⟨rfl,rfl⟩,by simp [i0],by simp [i1],by simp [i2],by simp [i3],by simp,iK.trans g3,?_,?_,fun j hj hji=>?_⟩
     ·rw [sumTo_succ hi,← Nat.add_assoc,← y1]; exact g2
     ·rw [sumTo_succ hi]; omega
     ·by_cases hje:j=i
      ·subst hje; exact y2
      ·exact iS j hj (by omega)
    | false =>
     right
     simp [i0,i1,i2,i3,i4,e2,e5,hPs.nn,off40_6,f1,f2,ix,off80_4,hd,callF_of Tryz.func41 rfl,g1]
     refine ⟨_,_,⟨rfl,rfl⟩,by simp,iK.trans g3,n',g2,?_,?_,?_⟩
     ·have:=g4.lo; omega
     ·rw [hsz]; have:=g4.hi; omega
     ·rintro ⟨z1,z2⟩
      rw [hdp] at z1
      rw [hsz] at z2
      have:=g4.fit (by omega) (by omega)
      cases this)
   (by
    rintro t s ⟨i0,i1,i2,i3,i4,iK,iC,iB,iS⟩
    clear hL
    rw [sumTo_all] at iC iB
    simp [i3,i4,ExL.len_eq]
    exact ⟨_,_,⟨rfl,rfl⟩,by simp [i0],by simp [i1],by simp [i2],iK,iC,iB,iS⟩)
  clear hL
  rcases step3 with ⟨t3,s3,rfl,u0,u1,u2,uK,uC,uB,uS⟩ | ⟨t3,s3,rfl,q6,qK,n',qC,q1,q2,q3⟩
  case inr =>
   unfold CountRes
   refine ⟨false,n',s3,?_,qC,qK,⟨q1,q2,fun h=>(by cases h),fun h1 h2=>absurd ⟨h1,h2⟩ q3⟩⟩
   simp [q6,resOf_eq,pmapO]
  case inl =>
  unfold CountRes
  refine ⟨true,n+1+a.size+b.size+l.size,s3,?_,uC,uK,⟨by omega,by rw [hsz]; omega,fun _=>⟨by rw [hsz]; omega,?_,by rw [hsz]; omega⟩,fun _ _=>rfl⟩⟩
  ·simp [resOf_eq,pmapO]
  ·have d1:a.depth≤4096 - at1:=ExL.depth_le fun j hj=>by have:=pS j hj hj; omega
   have d2:b.depth≤4096 - at1:=ExL.depth_le fun j hj=>by have:=rS j hj hj; omega
   have d3:l.depth≤4096 - at1:=ExL.depth_le fun j hj=>by have:=uS j hj hj; omega
   rw [hdp]; omega
end
theorem zero40:zeroC Tryz.prog 40=some [.i .i64 0,.s [],.i .i64 0,.sn,.sn,.sn,.sn]:=by kernel_rfl
theorem zero42:zeroC Tryz.prog 42=some [.s [],.i .i64 0,.s [],.i .i64 0,.sn,.sn,.sn,.sn]:=by kernel_rfl
theorem zero80:zeroC Tryz.prog 80=some [.i .i64 0,.s [],.i .i64 0,.sn,.i .i64 0,.s [],.i .i64 0,.sn,.sn,.sn,.sn]:=by kernel_rfl
mutual
def nrm (strF:List Nat→Int):Ex→Bool
 | .mk k nm _ _ b a l=>atomK k || ((decide (1≤k) && decide (k≤9)) && (nrmA strF (firstK strF k nm a.len) 0 a && (nrmK strF b && nrmK strF l)))
def nrmK (strF:List Nat→Int):ExL→Bool
 | .nil _=>true
 | .cons _ x l=>nrm strF x && nrmK strF l
def nrmA (strF:List Nat→Int) (fst:Int):Nat→ExL→Bool
 | _,.nil _=>true
 | i,.cons _ x l=>(decide ((i:Int) < fst) || x.atom) && (nrm strF x && nrmA strF fst (i+1) l)
end
theorem nrmK_iff {strF:List Nat→Int}:∀ {l:ExL},nrmK strF l=true↔∀ j (h:j < l.list.length),nrm strF l.list[j].2=true
 | .nil _=>by simp [nrmK,ExL.list]
 | .cons p x l=>by
  have ih:=nrmK_iff (strF:=strF) (l:=l)
  simp only [nrmK,Bool.and_eq_true,ih]
  constructor
  ·rintro ⟨h1,h2⟩ j hj
   cases j with
   | zero=>exact h1
   | succ j=>exact h2 j (by simpa [ExL.list] using hj)
  ·intro h
   exact ⟨h 0 (by simp [ExL.list]),fun j hj=>h (j+1) (by simpa [ExL.list] using hj)⟩
theorem nrmA_iff {strF:List Nat→Int} {fst:Int}:∀ {i:Nat} {l:ExL},nrmA strF fst i l=true↔∀ j (h:j < l.list.length),((((i+j:Nat):Int) < fst)∨l.list[j].2.atom=true)∧nrm strF l.list[j].2=true
 | i,.nil _=>by simp [nrmA,ExL.list]
 | i,.cons p x l=>by
  have ih:=nrmA_iff (strF:=strF) (fst:=fst) (i:=i+1) (l:=l)
  simp only [nrmA,Bool.and_eq_true,Bool.or_eq_true,decide_eq_true_eq,ih]
  constructor
  ·rintro ⟨h1,h2,h3⟩ j hj
   cases j with
   | zero=>exact ⟨h1,h2⟩
   | succ j =>
    have:=h3 j (by simpa [ExL.list] using hj)
    rw [show i+1+j=i+(j+1) by omega] at this
    exact this
  ·intro h
   have h0:=h 0 (by simp [ExL.list])
   refine ⟨h0.1,h0.2,fun j hj=>?_⟩
   have:=h (j+1) (by simpa [ExL.list] using hj)
   rw [show i+(j+1)=i+1+j by omega] at this
   exact this
section
variable {c : Option Self} {st : St}
def NormTo (strF:List Nat→Int) (L:List (List AV × Ex)) (i:Nat):Prop:=∀ j (h:j < L.length),j < i→nrm strF L[j].2=true
def NormToA (strF:List Nat→Int) (fst:Int) (L:List (List AV × Ex)) (i:Nat):Prop:=∀ j (h:j < L.length),j < i→(((j:Int) < fst)∨L[j].2.atom=true)∧nrm strF L[j].2=true
def NormRes (strF:List Nat→Int) (o:Option (AV × St)) (st:St) (x:Ex):Prop:=∃ st',o=some (.b (nrm strF x),st')∧Kp [] [] st st'
def NormOK (c:Option Self) (x:Ex):Prop:=x.Wf→∀ (st:St) (N:Nat),x.size+10≤N→x.size≤1000000000→NormRes strF ((Tw c N).call 28 [.ag x.cells] st) st x
theorem normal_call:∀ x,NormOK c x:=by
 refine Ex.ind fun k nm num ps b a l hb ha hl=>?_
 intro hwf st N hN hn
 have hx0:(Ex.mk k nm num ps b a l).Wf:=hwf
 simp only [Ex.Wf] at hwf
 obtain ⟨-,⟨pb,pa,pl⟩,⟨wb,wa,wl⟩,-⟩:=hwf
 obtain ⟨N,rfl⟩:∃ N',N=N'+4:=⟨N - 4,by omega⟩
 have hsz:(Ex.mk k nm num ps b a l).size=1+b.size+a.size+l.size:=by simp only [Ex.size]
 rw [hsz] at hN hn
 rw [body_out rfl Tryz.func28 rfl (Nat.le_of_ble_eq_true rfl)]; unfold bodyR
 have hce:=newCe_ce (st:=st) (Ex.mk k nm num ps b a l).cells
 have k0:Kp [] [] st (st.newCe (Ex.mk k nm num ps b a l).cells):=.newCe _ _ _
 have hp:st.next < (st.newCe (Ex.mk k nm num ps b a l).cells).next:=Nat.lt_succ_self _
 have hat:=fun s:St=>atom_call (c:=c) (st:=s) (Ex.mk k nm num ps b a l) (N+2)
 have hfs:=fun s:St=>first_call (c:=c) (st:=s) k nm num ps b a l N
 obtain ⟨p,hpe⟩:∃ p,st.next=p:=⟨_,rfl⟩
 rw [hpe] at hce hp
 obtain ⟨s0,hs0⟩:∃ s0,st.newCe (Ex.mk k nm num ps b a l).cells=s0:=⟨_,rfl⟩
 rw [hs0] at k0 hp hce
 have at1:∀ {s:St},Kp [] [] s0 s→ExAt s p (Ex.mk k nm num ps b a l).cells k nm b a l:=fun kk=>exAt (kk.ce hce hp hp (by simp) (by simp))
 have hres:nrm strF (.mk k nm num ps b a l)=(atomK k || ((decide (1≤k) && decide (k≤9)) && (nrmA strF (firstK strF k nm a.len) 0 a && (nrmK strF b && nrmK strF l)))):=by simp only [nrm]
 have hatom:(Ex.mk k nm num ps b a l).atom=atomK k:=rfl
 obtain ⟨s1,hs1⟩:∃ s1,s0.newCe (Ex.mk k nm num ps b a l).cells=s1:=⟨_,rfl⟩
 have k1:Kp [] [] s0 s1:=by rw [← hs1]; exact .newCe _ _ _
 have hat0:=hat s0
 rw [hatom,hs1] at hat0
 have x0:=at1 (.refl _ _ s0)
 have x1:=at1 k1
 by_cases hA:atomK k=true
 ·unfold NormRes
  rw [hres,hA]
  refine ⟨s1,?_,k0.trans k1⟩
  rw [hA] at hat0
  simp [Tryz.f28,hpe,hs0,load_ag inf40 ag40,sz40,x0.all,callF_of Tryz.func39 rfl,hat0,resOf_eq,pmapO]
 ·have hA':atomK k=false:=by simpa using hA
  rw [hA'] at hat0
  by_cases hr1:k < 1
  ·unfold NormRes
   rw [hres,hA',decide_eq_false (by omega:¬ 1≤k)]
   refine ⟨s1,?_,k0.trans k1⟩
   simp [Tryz.f28,hpe,hs0,load_ag inf40 ag40,sz40,x0.all,callF_of Tryz.func39 rfl,hat0,off40_0,load_p inf3 ag3,x1.kd,hr1,resOf_eq,pmapO]
  ·by_cases hr2:9 < k
   ·unfold NormRes
    rw [hres,hA',decide_eq_false (by omega:¬ k≤9),Bool.and_false]
    refine ⟨s1,?_,k0.trans k1⟩
    simp [Tryz.f28,hpe,hs0,load_ag inf40 ag40,sz40,x0.all,callF_of Tryz.func39 rfl,hat0,off40_0,load_p inf3 ag3,x1.kd,hr1,hr2,resOf_eq,pmapO]
   ·have hk19:(decide (1≤k) && decide (k≤9))=true:=by simp; omega
    rw [hA',hk19] at hres
    simp only [Bool.false_or,Bool.true_and] at hres
    simp [Tryz.f28,hpe,hs0,load_ag inf40 ag40,sz40,x0.all,callF_of Tryz.func39 rfl,hat0,off40_0,off40_5,load_p inf3 ag3,load_p inf37 ag37,x1.kd,x1.a,hr1,hr2,len_sl Tryz.underlying37 (a.slice_len 7) (a.slice_text 7),evC_loop]
    generalize hL:loopC _ _ _ _=Lo
    have stepA:_:=loop_ret hL 0 a.list.length
     (fun i t s=>tget t 1 = .p p 0∧tget t 20=a.slice 7∧tget t 21 = .i .i64 (a.len:Int)∧tget t 22 = .i .i64 (i:Int)∧Kp [] [] s0 s∧NormToA strF (firstK strF k nm a.len) a.list i)
     (fun t s=>tget t 1 = .p p 0∧Kp [] [] s0 s∧NormToA strF (firstK strF k nm a.len) a.list a.list.length)
     (fun t s=>tget t 2 = .b false∧Kp [] [] s0 s∧nrm strF (.mk k nm num ps b a l)=false)
     (by rw [← ExL.len_eq]; have:=a.len_le; omega)
     ⟨by simp,by simp,by simp,by simp,k1,fun j hj h=>by omega⟩
     (by
      rintro i t s hi ⟨i1,i20,i21,i22,iK,iS⟩
      clear hL
      have hil:i < a.len:=by rw [ExL.len_eq]; exact hi
      have hi2:=sumTo_ge a.list i (by omega)
      have e5:(i:Int) < (a.len:Int):=by omega
      have hmem:=List.getElem_mem hi
      have hsz':=ExL.size_mem hmem
      have hln:=a.len_le
      have e7:wr .i64 ((i:Int)+1)=((i+1:Nat):Int):=by rw [wr_in (by omega) (by omega)]; rfl
      obtain ⟨r,r1,r2⟩:=part_at pa (show 0+7=7 from rfl) hi
      have ix:=index_rs (P:=Tryz.prog) Tryz.underlying37 inf40 sz40 a.flat a.len i hil
      rw [← ExL.slice_rs hil,r1,List.eq_nil_of_length_eq_zero r2,List.nil_append] at ix
      obtain ⟨wk,-⟩:=ExL.wf_list wa _ hmem
      generalize hy:a.list[i].2=y at *
      obtain ⟨s2,al1,al2,al3,al4⟩:=alloc_store (s:=s) (z:=[.i .i64 0,.s [],.i .i64 0,.sn,.sn,.sn,.sn]) (cells:=y.cells) (by rw [y.cells_len]; rfl) (Ex.cells_sc wk)
      have K2:=iK.trans al3
      have x2:=at1 K2
      have l2:rd s2 s.next 0 7=some y.cells:=by
       rw [rd_of al2,cut_zero]
       have:=take_cells y []
       rwa [List.append_nil] at this
      obtain ⟨s3,g1,g2⟩:=hfs s2
      have c3:=g2.ce al2 al4 al4 (by simp) (by simp)
      have l3:rd s3 s.next 0 7=some y.cells:=by
       rw [rd_of c3,cut_zero]
       have:=take_cells y []
       rwa [List.append_nil] at this
      have hat3:=atom_call (c:=c) (st:=s3) y (N+2)
      obtain ⟨s4,hs4⟩:∃ s4,s3.newCe y.cells=s4:=⟨_,rfl⟩
      have k4:Kp [] [] s3 s4:=by rw [← hs4]; exact .newCe _ _ _
      rw [hs4] at hat3
      have c4:=k4.ce c3 (Nat.lt_of_lt_of_le al4 g2.next) (Nat.lt_of_lt_of_le al4 g2.next) (by simp) (by simp)
      have l4:rd s4 s.next 0 7=some y.cells:=by
       rw [rd_of c4,cut_zero]
       have:=take_cells y []
       rwa [List.append_nil] at this
      have hfalse:¬ ((((i:Int) < firstK strF k nm a.len)∨y.atom=true)∧nrm strF y=true)→nrm strF (.mk k nm num ps b a l)=false:=by
       intro hh
       rw [hres]
       have:nrmA strF (firstK strF k nm a.len) 0 a=false:=by
        rw [Bool.eq_false_iff]
        intro ht
        have:=nrmA_iff.1 ht i hi
        rw [Nat.zero_add,hy] at this
        exact hh this
       rw [this]; rfl
      have hnext:((((i:Int) < firstK strF k nm a.len)∨y.atom=true)∧nrm strF y=true)→NormToA strF (firstK strF k nm a.len) a.list (i+1):=by
       intro hh j hj hji
       by_cases hje:j=i
       ·subst hje; rw [hy]; exact hh
       ·exact iS j hj (by omega)
      generalize firstK strF k nm a.len=fs at *
      by_cases hge:fs≤(i:Int)
      ·cases hya:y.atom with
       | false =>
        right
        rw [hya] at hat3
        simp [i1,i20,i21,i22,e5,ix,load_rpAg inf40 ag40,sz40,take_cells,opH_alloc,zero40,store_ag inf40 sz40,y.cells_len,al1,load_ag inf40 ag40,x2.all,callF_of Tryz.func53 rfl,g1,hge,l3,callF_of Tryz.func39 rfl,hat3]
        exact ⟨_,_,⟨rfl,rfl⟩,by simp,(K2.trans g2).trans k4,hfalse fun h=>by
         rcases h.1 with h | h
         ·omega
         ·rw [hya] at h; cases h⟩
       | true =>
        rw [hya] at hat3
        obtain ⟨s5,h1,h2⟩:=ha _ hmem (hy ▸ wk) s4 (N+3) (by rw [hy]; omega) (by rw [hy]; omega)
        rw [hy] at h1
        cases hyn:nrm strF y with
        | true =>
         left
         rw [hyn] at h1
         simp [i1,i20,i21,i22,e5,e7,ix,load_rpAg inf40 ag40,sz40,take_cells,opH_alloc,zero40,store_ag inf40 sz40,y.cells_len,al1,load_ag inf40 ag40,x2.all,callF_of Tryz.func53 rfl,g1,hge,l3,l4,callF_of Tryz.func39 rfl,hat3,callF_of Tryz.func28 rfl,h1]
         refine ⟨_,_,⟨rfl,rfl⟩,by simp [i1],by simp [i20],by simp [i21],by simp,((K2.trans g2).trans k4).trans h2,hnext ⟨.inr hya,hyn⟩⟩
        | false =>
         right
         rw [hyn] at h1
         simp [i1,i20,i21,i22,e5,ix,load_rpAg inf40 ag40,sz40,take_cells,opH_alloc,zero40,store_ag inf40 sz40,y.cells_len,al1,load_ag inf40 ag40,x2.all,callF_of Tryz.func53 rfl,g1,hge,l3,l4,callF_of Tryz.func39 rfl,hat3,callF_of Tryz.func28 rfl,h1]
         exact ⟨_,_,⟨rfl,rfl⟩,by simp,((K2.trans g2).trans k4).trans h2,hfalse fun h=>by rw [hyn] at h; cases h.2⟩
      ·obtain ⟨s5,h1,h2⟩:=ha _ hmem (hy ▸ wk) s3 (N+3) (by rw [hy]; omega) (by rw [hy]; omega)
       rw [hy] at h1
       cases hyn:nrm strF y with
       | true =>
        left
        rw [hyn] at h1
        simp [i1,i20,i21,i22,e5,e7,ix,load_rpAg inf40 ag40,sz40,take_cells,opH_alloc,zero40,store_ag inf40 sz40,y.cells_len,al1,load_ag inf40 ag40,x2.all,callF_of Tryz.func53 rfl,g1,hge,l3,callF_of Tryz.func28 rfl,h1]
        refine ⟨_,_,⟨rfl,rfl⟩,by simp [i1],by simp [i20],by simp [i21],by simp,(K2.trans g2).trans h2,hnext ⟨.inl (by omega),hyn⟩⟩
       | false =>
        right
        rw [hyn] at h1
        simp [i1,i20,i21,i22,e5,ix,load_rpAg inf40 ag40,sz40,take_cells,opH_alloc,zero40,store_ag inf40 sz40,y.cells_len,al1,load_ag inf40 ag40,x2.all,callF_of Tryz.func53 rfl,g1,hge,l3,callF_of Tryz.func28 rfl,h1]
        exact ⟨_,_,⟨rfl,rfl⟩,by simp,(K2.trans g2).trans h2,hfalse fun h=>by rw [hyn] at h; cases h.2⟩)
     (by
      rintro t s ⟨i1,i20,i21,i22,iK,iS⟩
      clear hL
      have e5:¬ (a.list.length:Int) < (a.len:Int):=by rw [ExL.len_eq]; omega
      simp [i21,i22,e5]
      exact ⟨_,_,⟨rfl,rfl⟩,by simp [i1],iK,iS⟩)
    clear hL
    rcases stepA with ⟨tA,sA,rfl,pA,kA,nA⟩ | ⟨tA,sA,rfl,q2,qK,qn⟩
    case inr =>
     unfold NormRes
     refine ⟨sA,?_,k0.trans qK⟩
     rw [qn]
     simp [q2,resOf_eq,pmapO]
    case inl =>
    have xA:=at1 kA
    simp [pA,off40_4,load_p inf23 ag23,xA.b,len_sl Tryz.underlying23 (b.slice_len 8) (b.slice_text 8),evC_loop]
    generalize hL:loopC _ _ _ _=Lo
    have stepB:_:=loop_ret hL 2 b.list.length
     (fun i t s=>tget t 1 = .p p 0∧tget t 43=b.slice 8∧tget t 44 = .i .i64 (b.len:Int)∧tget t 45 = .i .i64 (i:Int)∧Kp [] [] s0 s∧NormTo strF b.list i)
     (fun t s=>tget t 1 = .p p 0∧Kp [] [] s0 s∧NormTo strF b.list b.list.length)
     (fun t s=>tget t 2 = .b false∧Kp [] [] s0 s∧nrm strF (.mk k nm num ps b a l)=false)
     (by rw [← ExL.len_eq]; have:=b.len_le; omega)
     ⟨by simp [pA],by simp,by simp,by simp,kA,fun j hj h=>by omega⟩
     (by
      rintro i t s hi ⟨i1,i20,i21,i22,iK,iS⟩
      clear hL
      have hil:i < b.len:=by rw [ExL.len_eq]; exact hi
      have hi2:=sumTo_ge b.list i (by omega)
      have e5:(i:Int) < (b.len:Int):=by omega
      have hmem:=List.getElem_mem hi
      have hsz':=ExL.size_mem hmem
      have hln:=b.len_le
      have e7:wr .i64 ((i:Int)+1)=((i+1:Nat):Int):=by rw [wr_in (by omega) (by omega)]; rfl
      obtain ⟨r,r1,r2⟩:=part_at pb (show 1+7=8 from rfl) hi
      have ix:=index_rs (P:=Tryz.prog) Tryz.underlying23 inf42 sz42 b.flat b.len i hil
      rw [← ExL.slice_rs hil,r1] at ix
      obtain ⟨wk,wp⟩:=ExL.wf_list wb _ hmem
      generalize hy:b.list[i].2=y at *
      generalize b.list[i].1=pf at *
      obtain ⟨s2,al1,al2,al3,al4⟩:=alloc_store (s:=s) (z:=[.s [],.i .i64 0,.s [],.i .i64 0,.sn,.sn,.sn,.sn]) (cells:=pf++y.cells) (by rw [List.length_append,r2,y.cells_len]; rfl) (allSc_append wp (Ex.cells_sc wk))
      have K2:=iK.trans al3
      have hlen:(pf++y.cells).length=8:=by rw [List.length_append,r2,y.cells_len]
      have ht:takeN 8 (pf++(y.cells++r))=some (pf++y.cells):=by
       have:=takeN_app (pf++y.cells) r
       rwa [hlen,List.append_assoc] at this
      have l2:rd s2 s.next 1 7=some y.cells:=by
       rw [rd_of al2,cut_drop _ _ _ (by rw [hlen]; decide),List.drop_append,r2]
       simp [r2,List.drop_eq_nil_of_le,y.cells_len,List.take_of_length_le]
      have hfalse:¬ nrm strF y=true→nrm strF (.mk k nm num ps b a l)=false:=by
       intro hh
       rw [hres]
       have:nrmK strF b=false:=by
        rw [Bool.eq_false_iff]
        intro ht
        have:=nrmK_iff.1 ht i hi
        rw [hy] at this
        exact hh this
       rw [this]; rw [Bool.false_and,Bool.and_false]
      have hnext:nrm strF y=true→NormTo strF b.list (i+1):=by
       intro hh j hj hji
       by_cases hje:j=i
       ·subst hje; rw [hy]; exact hh
       ·exact iS j hj (by omega)
      obtain ⟨s5,h1,h2⟩:=hb _ hmem (hy ▸ wk) s2 (N+3) (by rw [hy]; omega) (by rw [hy]; omega)
      rw [hy] at h1
      cases hyn:nrm strF y with
      | true =>
       left
       rw [hyn] at h1
       simp [i20,i21,i22,e5,e7,ix,load_rpAg inf42 ag42,sz42,ht,opH_alloc,zero42,store_ag inf42 sz42,r2,y.cells_len,al1,off42_1,load_ag inf40 ag40,sz40,l2,callF_of Tryz.func28 rfl,h1]
       refine ⟨_,_,⟨rfl,rfl⟩,by simp [i1],by simp [i20],by simp [i21],by simp,K2.trans h2,hnext hyn⟩
      | false =>
       right
       rw [hyn] at h1
       simp [i20,i21,i22,e5,ix,load_rpAg inf42 ag42,sz42,ht,opH_alloc,zero42,store_ag inf42 sz42,r2,y.cells_len,al1,off42_1,load_ag inf40 ag40,sz40,l2,callF_of Tryz.func28 rfl,h1]
       exact ⟨_,_,⟨rfl,rfl⟩,by simp,K2.trans h2,hfalse (by rw [hyn]; decide)⟩)
     (by
      rintro t s ⟨i1,i20,i21,i22,iK,iS⟩
      clear hL
      simp [i21,i22,ExL.len_eq]
      exact ⟨_,_,⟨rfl,rfl⟩,by simp [i1],iK,iS⟩)
    clear hL
    rcases stepB with ⟨tB,sB,rfl,pB,kB,nB⟩ | ⟨tX,sX,rfl,q2,qK,qn⟩
    case inr =>
     unfold NormRes
     refine ⟨sX,?_,k0.trans qK⟩
     rw [qn]
     simp [q2,resOf_eq,pmapO]
    case inl =>
    have xB:=at1 kB
    simp [pB,off40_6,load_p inf38 ag38,xB.l,len_sl Tryz.underlying38 (l.slice_len 11) (l.slice_text 11),evC_loop]
    generalize hL:loopC _ _ _ _=Lo
    have stepC:_:=loop_ret hL 4 l.list.length
     (fun i t s=>tget t 1 = .p p 0∧tget t 55=l.slice 11∧tget t 56 = .i .i64 (l.len:Int)∧tget t 57 = .i .i64 (i:Int)∧Kp [] [] s0 s∧NormTo strF l.list i)
     (fun t s=>tget t 1 = .p p 0∧Kp [] [] s0 s∧NormTo strF l.list l.list.length)
     (fun t s=>tget t 2 = .b false∧Kp [] [] s0 s∧nrm strF (.mk k nm num ps b a l)=false)
     (by rw [← ExL.len_eq]; have:=l.len_le; omega)
     ⟨by simp [pB],by simp,by simp,by simp,kB,fun j hj h=>by omega⟩
     (by
      rintro i t s hi ⟨i1,i20,i21,i22,iK,iS⟩
      clear hL
      have hil:i < l.len:=by rw [ExL.len_eq]; exact hi
      have hi2:=sumTo_ge l.list i (by omega)
      have e5:(i:Int) < (l.len:Int):=by omega
      have hmem:=List.getElem_mem hi
      have hsz':=ExL.size_mem hmem
      have hln:=l.len_le
      have e7:wr .i64 ((i:Int)+1)=((i+1:Nat):Int):=by rw [wr_in (by omega) (by omega)]; rfl
      obtain ⟨r,r1,r2⟩:=part_at pl (show 4+7=11 from rfl) hi
      have ix:=index_rs (P:=Tryz.prog) Tryz.underlying38 inf80 sz80 l.flat l.len i hil
      rw [← ExL.slice_rs hil,r1] at ix
      obtain ⟨wk,wp⟩:=ExL.wf_list wl _ hmem
      generalize hy:l.list[i].2=y at *
      generalize l.list[i].1=pf at *
      obtain ⟨s2,al1,al2,al3,al4⟩:=alloc_store (s:=s) (z:=[.i .i64 0,.s [],.i .i64 0,.sn,.i .i64 0,.s [],.i .i64 0,.sn,.sn,.sn,.sn]) (cells:=pf++y.cells) (by rw [List.length_append,r2,y.cells_len]; rfl) (allSc_append wp (Ex.cells_sc wk))
      have K2:=iK.trans al3
      have hlen:(pf++y.cells).length=11:=by rw [List.length_append,r2,y.cells_len]
      have ht:takeN 11 (pf++(y.cells++r))=some (pf++y.cells):=by
       have:=takeN_app (pf++y.cells) r
       rwa [hlen,List.append_assoc] at this
      have l2:rd s2 s.next 4 7=some y.cells:=by
       rw [rd_of al2,cut_drop _ _ _ (by rw [hlen]; decide),List.drop_append,r2]
       simp [r2,List.drop_eq_nil_of_le,y.cells_len,List.take_of_length_le]
      have hfalse:¬ nrm strF y=true→nrm strF (.mk k nm num ps b a l)=false:=by
       intro hh
       rw [hres]
       have:nrmK strF l=false:=by
        rw [Bool.eq_false_iff]
        intro ht
        have:=nrmK_iff.1 ht i hi
        rw [hy] at this
        exact hh this
       rw [this]; rw [Bool.and_false,Bool.and_false]
      have hnext:nrm strF y=true→NormTo strF l.list (i+1):=by
       intro hh j hj hji
       by_cases hje:j=i
       ·subst hje; rw [hy]; exact hh
       ·exact iS j hj (by omega)
      obtain ⟨s5,h1,h2⟩:=hl _ hmem (hy ▸ wk) s2 (N+3) (by rw [hy]; omega) (by rw [hy]; omega)
      rw [hy] at h1
      cases hyn:nrm strF y with
      | true =>
       left
       rw [hyn] at h1
       simp [i20,i21,i22,e5,e7,ix,load_rpAg inf80 ag80,sz80,ht,opH_alloc,zero80,store_ag inf80 sz80,r2,y.cells_len,al1,off80_4,load_ag inf40 ag40,sz40,l2,callF_of Tryz.func28 rfl,h1]
       refine ⟨_,_,⟨rfl,rfl⟩,by simp [i1],by simp [i20],by simp [i21],by simp,K2.trans h2,hnext hyn⟩
      | false =>
       right
       rw [hyn] at h1
       simp [i20,i21,i22,e5,ix,load_rpAg inf80 ag80,sz80,ht,opH_alloc,zero80,store_ag inf80 sz80,r2,y.cells_len,al1,off80_4,load_ag inf40 ag40,sz40,l2,callF_of Tryz.func28 rfl,h1]
       exact ⟨_,_,⟨rfl,rfl⟩,by simp,K2.trans h2,hfalse (by rw [hyn]; decide)⟩)
     (by
      rintro t s ⟨i1,i20,i21,i22,iK,iS⟩
      clear hL
      simp [i21,i22,ExL.len_eq]
      exact ⟨_,_,⟨rfl,rfl⟩,by simp [i1],iK,iS⟩)
    clear hL
    rcases stepC with ⟨tC,sC,rfl,pC,kC,nC⟩ | ⟨tX,sX,rfl,q2,qK,qn⟩
    case inr =>
     unfold NormRes
     refine ⟨sX,?_,k0.trans qK⟩
     rw [qn]
     simp [q2,resOf_eq,pmapO]
    case inl =>
    have xC:=at1 kC
    unfold NormRes
    have hr:nrm strF (.mk k nm num ps b a l)=true:=by
     rw [hres,Bool.and_eq_true,Bool.and_eq_true]
     refine ⟨nrmA_iff.2 fun j hj=>?_,nrmK_iff.2 fun j hj=>nB j hj hj,nrmK_iff.2 fun j hj=>nC j hj hj⟩
     rw [Nat.zero_add]
     exact nA j hj hj
    rw [hr]
    refine ⟨sC,?_,k0.trans kC⟩
    simp [resOf_eq,pmapO]
end
end
end Go.Proofs.YtbemeikjepjhoaaGreatDoor
