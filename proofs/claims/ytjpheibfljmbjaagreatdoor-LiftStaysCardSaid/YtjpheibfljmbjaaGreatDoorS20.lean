/- A part of the proof. -/
import Derived.Test.YtjpheibfljmbjaaGreatDoorS19
set_option maxRecDepth 100000
set_option maxHeartbeats 4000000
open Nat renaming lt_of_lt_of_le->Q0, zero_add->J1, le_of_ble_eq_true->J5, le_refl->J9, le_succ->Z7, add_mul->V1, le_trans->V7, add_zero->V8
open List renaming mem_append_left->Q1, length_append->Q2, mem_append->Q3, mem_cons->Q4, all_cons->Q6, all_nil->Q7, mem_cons_of_mem->Q9, mem_append_right->J3, append_nil->J4, nil_append->J6, map_append->J8, append_assoc->Z3, length_cons->Z5, drop_left->Z6, length_map->Z8, drop_zero->Z9, not_mem_nil->V0, take_left->V2, mem_map->V3, getElem_mem->V4, take_append_getElem->V6, mem_singleton->V9
open Bool renaming and_true->Q8, and_eq_true->Z4
open Option renaming toList->X0
open Go.Proofs.Tryz
noncomputable section
open Go.Ev
namespace Go.Proofs.YtjpheibfljmbjaaGreatDoor
variable {A W W' Y Z al0 : List Nat}{F : Ex->Ex}{J : List (List AV× Ex)->List Nat->St->Prop}{L d outs : List (List AV× Ex)}{M0 N i lo lo2 lr m mn n n0 r rE rR z : Nat}{S : Self}{TL U0 : List ah}{a s s' s0 st : St}{b l : ae}{c : Option Self}{caps cs ec : List AV}{g : Option Nat}{k num : Int}{nm : ah}{p : List AV× Ex}{ps q v w : AV}{t : Tr AV}{x y : Operand}
def di(L:List (List AV× Ex)):List AV:=(L.map fun p=>p.1++p.2.cells).flatten
theorem xU(L M:List (List AV× Ex)):di (L++M)=di L++di M:=by simp[di]
theorem FN(hz:m+7=z)(h:∀ p∈L,p.1.length=m):(di L).length=L.length*z:=by
 induction L with
 |nil=>simp[di]
 |cons p L ih =>
  have h1:=ih fun q hq=>h q (Q9 _ hq)
  have h2:=h p (List.mem_cons_self ..);simp only[di,List.map_cons,List.flatten_cons,Q2,Z5,h2,p.2.aO]at h1|-;rw[h1,V1];omega
theorem uF(p:List AV× Ex)(L:List (List AV× Ex)):di (p::L)=p.1++(p.2.cells++di L):=by simp[di]
theorem VE(hz:m+7=z){r:List (List AV× Ex)}(hd:∀ q∈d,q.1.length=m)(hp:p.1.length=m):cut (di (d++p::r)) (d.length*z+m) 7=some p.2.cells:=by have h1:=FN hz hd;rw[xU,uF,lJ _ _ _ (by simp only[Q2,h1,hp,p.2.aO];omega),<-List.drop_drop,<-h1,Z6,<-hp,Z6,<-p.2.aO,V2]
theorem acf(hz:m+7=z){r:List (List AV× Ex)}(y:Ex)(hd:∀ q∈d,q.1.length=m)(hp:p.1.length=m):bO (di (d++p::r)) (d.length*z+m) y.cells=di (d++(p.1,y)::r):=by
 have h1:=FN hz hd;rw[kg _ _ _ (by simp only[xU,uF,Q2,h1,hp,p.2.aO,y.aO];omega),y.aO,xU,xU,uF,uF];have e1:(di d++(p.1++(p.2.cells++di r))).take (d.length*z+m)=di d++p.1:=by rw[<-Z3,<-h1,<-hp,<-Q2,V2]
 have e2:(di d++(p.1++(p.2.cells++di r))).drop (d.length*z+m+7)=di r:=by rw[<-Z3,<-Z3,<-h1,<-hp,<-p.2.aO,<-Q2,<-Q2,Z6]
 rw[e1,e2];simp
theorem oy(l:ae):l.flat=di l.list:=ae.sU l
def GQ(s:St)(n0:Nat)(v:AV)(z n:Nat)(cs:List AV):Prop:=(n=0/\v=.sn)\/(n≠0/\∃ r g al,v=.sl r 0 n z none/\s.ce r=some (cs,g,al)/\n0<=r/\n0<=g/\r<s.next/\g<s.next)
def GC(o:Option (AV× St))(st:St)(z n:Nat)(cs:List AV):Prop:=∃ v s',o=some (v,s')/\GQ s' st.next v z n cs/\Kp [] [] st s'
theorem QG(hT:l.Ty 1)(hf:l.nf)(hl:l.len<=1000000)(hN:1<=N):GC ((Tw c N).call 50 [l.slice 8] st) st 8 l.len l.flat:=by
 obtain⟨N,rfl⟩:∃ N',N=N'+1:=⟨N-1,by omega⟩;rw[dt rfl func50 rfl (J5 rfl)];unfold aV;cases l with
 |nil f =>cases hf;refine⟨.sn,st,?_,.inl ⟨rfl,rfl⟩,.refl _ _ _⟩;simp[ae.slice,f50,zk underlying23,aG,aF]
 |cons p x t =>
  have hlen:1<=(ae.cons p x t).len:=by simp[ae.len]
  have h0:aW (st.aw []) st.next 8 (.sl st.next 0 0 8 (some 0)) 0 [] none:=.inr (.inl ⟨_,rfl,rfl,rfl,rfl⟩);have hfl:=py hT.pre (z:=8) rfl;rw[ae.cZ hlen];obtain⟨L,hL⟩:∃ L,(ae.cons p x t).flat=L:=⟨_,rfl⟩;obtain⟨n,hn⟩:∃ n,(ae.cons p x t).len=n:=⟨_,rfl⟩;have hsc:=wY hT;rw[hL]at hfl hsc|-;rw[hn]at hfl hl hlen|-;obtain⟨v',g',s',w1,w2,w3,w4⟩:=h0.app mJ (x:=.rs L n 8) rfl (by show cut L 0 (n*8)=_;rw[cQ,<-hfl,dD]) rfl hsc hfl (by omega) (Z7 _);rw[J1,J6]at w2;refine⟨v',s',?_,?_,?_⟩
  ·simp[f50,vn underlying23,vj mJ,w1,aG,aF]
  ·rcases w2 with ⟨-,h,-⟩|⟨r,-,h,-⟩|⟨r,f,al,-,rfl,h1,-,-,h4,h5,h6,h7⟩
   ·omega
   ·omega
   ·exact .inr ⟨by omega,r,f,al,rfl,h1,h4,h5,h6,h7⟩
  ·exact dz (.aw (A:=[]) (B:=[]) (l:=[])) w3 (by simp) (by simp)
theorem JF(hT:l.Ty 0)(hf:l.nf)(hl:l.len<=1000000)(hN:1<=N):GC ((Tw c N).call 51 [l.slice 7] st) st 7 l.len l.flat:=by
 obtain⟨N,rfl⟩:∃ N',N=N'+1:=⟨N-1,by omega⟩;rw[dt rfl func51 rfl (J5 rfl)];unfold aV;cases l with
 |nil f =>cases hf;refine⟨.sn,st,?_,.inl ⟨rfl,rfl⟩,.refl _ _ _⟩;simp[ae.slice,f51,zk underlying32,aG,aF]
 |cons p x t =>
  have hlen:1<=(ae.cons p x t).len:=by simp[ae.len]
  have h0:aW (st.aw []) st.next 7 (.sl st.next 0 0 7 (some 0)) 0 [] none:=.inr (.inl ⟨_,rfl,rfl,rfl,rfl⟩);have hfl:=py hT.pre (z:=7) rfl;rw[ae.cZ hlen];obtain⟨L,hL⟩:∃ L,(ae.cons p x t).flat=L:=⟨_,rfl⟩;obtain⟨n,hn⟩:∃ n,(ae.cons p x t).len=n:=⟨_,rfl⟩;have hsc:=wY hT;rw[hL]at hfl hsc|-;rw[hn]at hfl hl hlen|-;obtain⟨v',g',s',w1,w2,w3,w4⟩:=h0.app lX (x:=.rs L n 7) rfl (by show cut L 0 (n*7)=_;rw[cQ,<-hfl,dD]) rfl hsc hfl (by omega) (Z7 _);rw[J1,J6]at w2;refine⟨v',s',?_,?_,?_⟩
  ·simp[f51,vn underlying32,vj lX,w1,aG,aF]
  ·rcases w2 with ⟨-,h,-⟩|⟨r,-,h,-⟩|⟨r,f,al,-,rfl,h1,-,-,h4,h5,h6,h7⟩
   ·omega
   ·omega
   ·exact .inr ⟨by omega,r,f,al,rfl,h1,h4,h5,h6,h7⟩
  ·exact dz (.aw (A:=[]) (B:=[]) (l:=[])) w3 (by simp) (by simp)
theorem P8(hT:l.Ty 4)(hf:l.nf)(hl:l.len<=1000000)(hN:1<=N):GC ((Tw c N).call 52 [l.slice 11] st) st 11 l.len l.flat:=by
 obtain⟨N,rfl⟩:∃ N',N=N'+1:=⟨N-1,by omega⟩;rw[dt rfl func52 rfl (J5 rfl)];unfold aV;cases l with
 |nil f =>cases hf;refine⟨.sn,st,?_,.inl ⟨rfl,rfl⟩,.refl _ _ _⟩;simp[ae.slice,f52,zk underlying33,aG,aF]
 |cons p x t =>
  have hlen:1<=(ae.cons p x t).len:=by simp[ae.len]
  have h0:aW (st.aw []) st.next 11 (.sl st.next 0 0 11 (some 0)) 0 [] none:=.inr (.inl ⟨_,rfl,rfl,rfl,rfl⟩);have hfl:=py hT.pre (z:=11) rfl;rw[ae.cZ hlen];obtain⟨L,hL⟩:∃ L,(ae.cons p x t).flat=L:=⟨_,rfl⟩;obtain⟨n,hn⟩:∃ n,(ae.cons p x t).len=n:=⟨_,rfl⟩;have hsc:=wY hT;rw[hL]at hfl hsc|-;rw[hn]at hfl hl hlen|-;obtain⟨v',g',s',w1,w2,w3,w4⟩:=h0.app yK (x:=.rs L n 11) rfl (by show cut L 0 (n*11)=_;rw[cQ,<-hfl,dD]) rfl hsc hfl (by omega) (Z7 _);rw[J1,J6]at w2;refine⟨v',s',?_,?_,?_⟩
  ·simp[f52,vn underlying33,vj yK,w1,aG,aF]
  ·rcases w2 with ⟨-,h,-⟩|⟨r,-,h,-⟩|⟨r,f,al,-,rfl,h1,-,-,h4,h5,h6,h7⟩
   ·omega
   ·omega
   ·exact .inr ⟨by omega,r,f,al,rfl,h1,h4,h5,h6,h7⟩
  ·exact dz (.aw (A:=[]) (B:=[]) (l:=[])) w3 (by simp) (by simp)
def jX(st:St)(X:List Nat)(r:Nat)(l:List AV):Prop:=∃ al,st.ce r=some (l,r,al)/\r<st.next/\r∉X
theorem jX.keep{X B:List Nat}{l:List AV}{st':St}(h:jX st X r l)(k:Kp A B st st')(hA:∀ x,x∈A->x∈X)(hB:∀ x,x∈B->x∈X):jX st' X r l:=by obtain⟨al,h1,h2,h3⟩:=h;exact⟨al,k.ce h1 h2 h2 (fun hh=>h3 (hA _ hh)) (fun hh=>h3 (hB _ hh)),Q0 h2 k.next,h3⟩
theorem jX.kw{l:List AV}{b:St}(h:jX a W r l)(k:Kw W W' a b):jX b W' r l:=by obtain⟨al,h1,h2,h3⟩:=h;exact⟨al,k.ce h1 h2 h2 h3 h3,Q0 h2 k.1.next,k.out h2 h3⟩
theorem jX.rd{X:List Nat}{r o n:Nat}{l:List AV}(h:jX st X r l):Go.Ev.rd st r o n=cut l o n:=by obtain⟨al,h1,-⟩:=h;exact au h1
theorem jX.to{X:List Nat}{l:List AV}(h:jX st X r l)(hY:r∉Y):jX st Y r l:=by obtain⟨al,h1,h2,-⟩:=h;exact⟨al,h1,h2,hY⟩
structure tv(l:ae)(X:List Nat)(J:List (List AV× Ex)->List Nat->St->Prop)(call:Ex->St->aR):Prop where
 lt:∀ d W s,J d W s->(∀ y∈W,y<s.next)/\∀ y∈X,y∉W
 put:∀ d W s s',J d W s->Kp X X s s'->J d W s'
 step:∀ d W s (h:d.length<l.list.length),J d W s->∃ y s' W',call l.list[d.length].2 s=some (.ag y.cells,s')/\y.Ty/\J (d++[(l.list[d.length].1,y)]) W' s'/\Kw W W' s s'
def eL(s:St)(X:List Nat)(v:AV)(z n:Nat)(cs:List AV):Prop:=(n=0/\v=.sn)\/(n≠0/\∃ r g al,v=.sl r 0 n z none/\s.ce r=some (cs,g,al)/\r∈X/\g∈X/\r<s.next/\g<s.next)
structure zY(l:ae)(X:List Nat)(J:List (List AV× Ex)->List Nat->St->Prop)(W0:List Nat)(s0:St)(rE:Nat)(ec:List AV)(v:AV)(z i:Nat)(d:List (List AV× Ex))(W:List Nat)(s:St):Prop where
 len:d.length=i
 fst:d.map (·.1)=(l.list.take i).map (·.1)
 j:J d W s
 row:eL s X v z l.len (di (d++l.list.drop i))
 e:jX s (X++W) rE ec
 kw:Kw (X++W0) (X++W) s0 s
def eQ(l:ae)(X:List Nat)(J:List (List AV× Ex)->List Nat->St->Prop)(W0:List Nat)(s0:St)(rE:Nat)(ec:List AV)(v:AV)(z i:Nat)(s:St):Prop:=∃ d W,zY l X J W0 s0 rE ec v z i d W s
theorem xY{X:List Nat}{b:St}(h:Kw W W' a b):Kw (X++W) (X++W') a b :=
 ⟨h.1.sub (fun _ h=>J3 _ h) (fun _ h=>J3 _ h),fun y hy=>by
  rcases Q3.1 hy with hy|hy
  ·exact .inl (Q1 _ hy)
  ·rcases h.2 y hy with h|h
   ·exact .inl (J3 _ h)
   ·exact .inr h⟩
theorem zY.next{l:ae}{X:List Nat}{J:List (List AV× Ex)->List Nat->St->Prop}{call:Ex->St->aR}(H:tv l X J call){W0:List Nat}{s0:St}{rE:Nat}{ec:List AV}{v:AV}{m z i:Nat}{d:List (List AV× Ex)}{W:List Nat}{s:St}(hp:l.pre m)(hz:m+7=z)(h:zY l X J W0 s0 rE ec v z i d W s)(hi:i<l.list.length):
  ∃ (r:Nat) (y:Ex) (s1 s2:St),v=.sl r 0 l.len z none/\rd s r (i*z+m) 7=some l.list[i].2.cells/\call l.list[i].2 s=some (.ag y.cells,s1)/\wt s1 r (i*z+m) y.cells=some s2/\(∀ o n,rd s1 rE o n=cut ec o n)/\eQ l X J W0 s0 rE ec v z (i+1) s2:=by
 obtain⟨hl,hf,hJ,hr,he,hk⟩:=h;have hil:i<l.len:=by rw[ae.aC];exact hi
 rcases hr with ⟨h0,-⟩|⟨h0,r,g,al,rfl,hc,hrX,hgX,hrl,hgl⟩
 ·omega
 subst hl;have hd:∀ q∈d,q.1.length=m:=fun q hq=>by
  have:q.1∈(l.list.take d.length).map (·.1):=by rw[<-hf];exact V3.2 ⟨q,hq,rfl⟩
  obtain⟨q',h1,h2⟩:=V3.1 this;rw[<-h2];exact hp q' (List.mem_of_mem_take h1)
 have hpi:l.list[d.length].1.length=m:=hp _ (V4 hi);rw[List.drop_eq_getElem_cons hi]at hc;obtain⟨y,s1,W',c1,c2,c3,c4⟩:=H.step d W s hi hJ;obtain⟨q1,q2⟩:=H.lt d W s hJ;have hc1:=c4.ce hc hrl hgl (q2 r hrX) (q2 g hgX);have hlen:(di (d++l.list[d.length]::l.list.drop (d.length+1))).length=(d.length+(l.list.drop (d.length+1)).length+1)*z:=by
  rw[FN hz]
  ·congr 1;simp;omega
  ·intro q hq;rcases Q3.1 hq with hq|hq
   ·exact hd q hq
   ·rcases Q4.1 hq with rfl|hq
    ·exact hpi
    ·exact hp q (List.mem_of_mem_drop hq)
 have hw:=bP hc1 (d.length*z+m) y.cells (by rw[hlen,y.aO];have:(d.length+1)*z<=(d.length+(l.list.drop (d.length+1)).length+1)*z:=Nat.mul_le_mul_right z (by omega);rw[V1,Nat.one_mul]at this;omega) (Ex.dH c2.wf);rw[acf hz y hd hpi]at hw;have k2:Kp X X s1 (s1.ax r (di (d++(l.list[d.length].1,y)::l.list.drop (d.length+1))) g):=.ax hrX hgX;have e1:=he.kw (xY c4);refine⟨r,y,s1,_,rfl,?_,c1,hw,fun o n=>e1.rd,d++[(l.list[d.length].1,y)],W',by simp,?_,H.put _ _ _ _ c3 k2,?_,?_,?_⟩
 ·rw[au hc,VE hz hd hpi]
 ·rw[<-V6 hi,J8,J8,hf];rfl
 ·refine .inr ⟨h0,r,g,[r],rfl,?_,hrX,hgX,Q0 hrl (V7 c4.1.next k2.next),Q0 hgl (V7 c4.1.next k2.next)⟩;rw[Z3];exact cj _ _ _
 ·exact e1.keep k2 (fun _ h=>Q1 _ h) (fun _ h=>Q1 _ h)
 ·exact(hk.trans (xY c4)).trans ⟨k2.sub (fun _ h=>Q1 _ h) (fun _ h=>Q1 _ h),fun _ h=>.inl h⟩
theorem zY.all{X:List Nat}{W0:List Nat}(h:zY l X J W0 s0 rE ec v z l.list.length d W s):eL s X v z l.len (di d):=by
 have:=h.row
 rwa [List.drop_length,J4]at this
theorem eL.len{X:List Nat}(h:eL s X v z n cs):lenOf v=some n/\lH v=false:=by rcases h with ⟨rfl,rfl⟩|⟨-,r,g,al,rfl,-⟩<;>exact⟨rfl,rfl⟩
noncomputable def fQ:Nat->Code
 |0=>f89.body.getD .skip
 |k+1=>aj (fQ k)
noncomputable def fE:Nat->Code
 |0=>f24.body.getD .skip
 |k+1=>aj (fE k)
theorem ZN{X:List Nat}{W0:List Nat}(H:tv b X J fun y s=>(Tw c N).call 89 [.ag y.cells,q] s)(hT:b.Ty 1)(hl:b.len≤1000000)(he:cut ec 4 1=some [v])(h0:eQ b X J W0 s0 rE ec v 8 0 s0)(tq:ab t 1=q)(te:ab t 2 = .p rE 0)(tr:ab t 4 = .p rR 0)(hN:2000000≤N) :
  ∃ t' s',ao (aq (fQ 2)) ⟨prog,Tw c N,false,f89.ntmps,N⟩ t s0=.nx t' s'/\ab t' 1=q/\ab t' 2=.p rE 0/\ab t' 4=.p rR 0/\eQ b X J W0 s0 rE ec v 8 b.list.length s':=by
 have ln:∀ {i:Nat} {s:St},eQ b X J W0 s0 rE ec v 8 i s->rd s rE 4 1=some [v]/\ft prog s [23] [v]=some (.i .i64 (b.len:Int),s):=fun⟨d,W,h⟩=>⟨by rw[h.e.rd,he],aY underlying23 h.row.len.1 h.row.len.2⟩
 obtain⟨r0,l0⟩:=ln h0;simp[fQ,aq,aj,f89,te,r0,l0,bw];generalize hL:bf _ _ _ _=L;obtain⟨t1,s1,rfl,u1,u2,u4,uE⟩:=dy hL 0 b.list.length
  (fun i t s=>ab t 1=q/\ab t 2=.p rE 0/\ab t 4=.p rR 0/\ab t 22=.i .i64 (b.len:Int)/\ab t 23=.i .i64 (i:Int)/\eQ b X J W0 s0 rE ec v 8 i s)
  (fun t s=>ab t 1=q/\ab t 2=.p rE 0/\ab t 4=.p rR 0/\eQ b X J W0 s0 rE ec v 8 b.list.length s) (by rw[<-ae.aC];omega)
  ⟨by simp[tq],by simp[te],by simp[tr],by simp,by simp,h0⟩
  (by
   rintro i t s hi ⟨i1,i2,i4,il,ii,iE⟩;clear hL;have hil:i<b.len:=by rw[ae.aC];exact hi
   have e5:(i:Int)<(b.len:Int):=by omega
   have e7:wr .i64 ((i:Int)+1)=((i+1:Nat):Int):=by rw[aZ (by omega) (by omega)];rfl
   obtain⟨r0,-⟩:=ln iE;obtain⟨d,W,iI⟩:=iE;obtain⟨r,y,s1,s2,rfl,g2,g3,g4,g5,g6⟩:=iI.next H (m:=1) hT.pre rfl hi;have g5':=g5 4 1;rw[he]at g5';have ix:=kQ fG.und fG.inf fG.sz r 0 b.len i none hil;rw[J1]at ix;have sto:=aI cI aH s1 r (i*8+1) y.cells y.aO;simp[il,ii,e5,br];rw[eJ (fl:=[(1,11)])]
   ·simp[i1,i2,ii,e7,r0,ix,aH,g2,g3,sto,g4];exact⟨_,_,⟨rfl,rfl⟩,by simp[i1],by simp[i2],by simp[i4],by simp[il],by simp,g6⟩
   ·kernel_rfl
   ·intro R hR;simp[i1,i2,r0,ix,aH,g2,g3,sto,g4]at hR;subst hR;simp only[Q6,Q7,Q8];refine bV rfl rfl rfl (s:=s1) ?_;simp[g5'])
  (by rintro t s ⟨i1,i2,i4,il,ii,iE⟩;clear hL;simp[il,ii,ae.aC];exact⟨_,_,⟨rfl,rfl⟩,by simp[i1],by simp[i2],by simp[i4],iE⟩)
 clear hL;exact⟨t1,s1,by simp,u1,u2,u4,uE⟩
theorem abK{X:List Nat}{W0:List Nat}(H:tv b X J fun y s=>(Tw c N).call 89 [.ag y.cells,q] s)(hT:b.Ty 0)(hl:b.len≤1000000)(he:cut ec 5 1=some [v])(h0:eQ b X J W0 s0 rE ec v 7 0 s0)(tq:ab t 1=q)(te:ab t 2 = .p rE 0)(tr:ab t 4 = .p rR 0)(hN:2000000≤N) :
  ∃ t' s',ao (aq (fQ 3)) ⟨prog,Tw c N,false,f89.ntmps,N⟩ t s0=.nx t' s'/\ab t' 1=q/\ab t' 2=.p rE 0/\ab t' 4=.p rR 0/\eQ b X J W0 s0 rE ec v 7 b.list.length s':=by
 have ln:∀ {i:Nat} {s:St},eQ b X J W0 s0 rE ec v 7 i s->rd s rE 5 1=some [v]/\ft prog s [32] [v]=some (.i .i64 (b.len:Int),s):=fun⟨d,W,h⟩=>⟨by rw[h.e.rd,he],aY underlying32 h.row.len.1 h.row.len.2⟩
 obtain⟨r0,l0⟩:=ln h0;simp[fQ,aq,aj,f89,te,r0,l0,bw];generalize hL:bf _ _ _ _=L;obtain⟨t1,s1,rfl,u1,u2,u4,uE⟩:=dy hL 2 b.list.length
  (fun i t s=>ab t 1=q/\ab t 2=.p rE 0/\ab t 4=.p rR 0/\ab t 42=.i .i64 (b.len:Int)/\ab t 43=.i .i64 (i:Int)/\eQ b X J W0 s0 rE ec v 7 i s)
  (fun t s=>ab t 1=q/\ab t 2=.p rE 0/\ab t 4=.p rR 0/\eQ b X J W0 s0 rE ec v 7 b.list.length s) (by rw[<-ae.aC];omega)
  ⟨by simp[tq],by simp[te],by simp[tr],by simp,by simp,h0⟩
  (by
   rintro i t s hi ⟨i1,i2,i4,il,ii,iE⟩;clear hL;have hil:i<b.len:=by rw[ae.aC];exact hi
   have e5:(i:Int)<(b.len:Int):=by omega
   have e7:wr .i64 ((i:Int)+1)=((i+1:Nat):Int):=by rw[aZ (by omega) (by omega)];rfl
   obtain⟨r0,-⟩:=ln iE;obtain⟨d,W,iI⟩:=iE;obtain⟨r,y,s1,s2,rfl,g2,g3,g4,g5,g6⟩:=iI.next H (m:=0) hT.pre rfl hi;rw[V8]at g2 g4;have g5':=g5 5 1;rw[he]at g5';have ix:=kQ jk.und jk.inf jk.sz r 0 b.len i none hil;rw[J1]at ix;have sto:=aI cI aH s1 r (i*7) y.cells y.aO;simp[il,ii,e5,br];rw[eJ (fl:=[(1,10)])]
   ·simp[i1,i2,ii,e7,r0,ix,aH,g2,g3,sto,g4];exact⟨_,_,⟨rfl,rfl⟩,by simp[i1],by simp[i2],by simp[i4],by simp[il],by simp,g6⟩
   ·kernel_rfl
   ·intro R hR;simp[i1,i2,r0,ix,aH,g2,g3,sto,g4]at hR;subst hR;simp only[Q6,Q7,Q8];refine bV rfl rfl rfl (s:=s1) ?_;simp[g5'])
  (by rintro t s ⟨i1,i2,i4,il,ii,iE⟩;clear hL;simp[il,ii,ae.aC];exact⟨_,_,⟨rfl,rfl⟩,by simp[i1],by simp[i2],by simp[i4],iE⟩)
 clear hL;exact⟨t1,s1,by simp,u1,u2,u4,uE⟩
theorem YV{X:List Nat}{W0:List Nat}(H:tv b X J fun y s=>(Tw c N).call 89 [.ag y.cells,q] s)(hT:b.Ty 4)(hl:b.len≤1000000)(he:cut ec 6 1=some [v])(h0:eQ b X J W0 s0 rE ec v 11 0 s0)(tq:ab t 1=q)(te:ab t 2 = .p rE 0)(tr:ab t 4 = .p rR 0)(hN:2000000≤N) :
  ∃ t' s',ao (aq (fQ 4)) ⟨prog,Tw c N,false,f89.ntmps,N⟩ t s0=.nx t' s'/\ab t' 1=q/\ab t' 2=.p rE 0/\ab t' 4=.p rR 0/\eQ b X J W0 s0 rE ec v 11 b.list.length s':=by
 have ln:∀ {i:Nat} {s:St},eQ b X J W0 s0 rE ec v 11 i s->rd s rE 6 1=some [v]/\ft prog s [33] [v]=some (.i .i64 (b.len:Int),s):=fun⟨d,W,h⟩=>⟨by rw[h.e.rd,he],aY underlying33 h.row.len.1 h.row.len.2⟩
 obtain⟨r0,l0⟩:=ln h0;simp[fQ,aq,aj,f89,te,r0,l0,bw];generalize hL:bf _ _ _ _=L;obtain⟨t1,s1,rfl,u1,u2,u4,uE⟩:=dy hL 4 b.list.length
  (fun i t s=>ab t 1=q/\ab t 2=.p rE 0/\ab t 4=.p rR 0/\ab t 60=.i .i64 (b.len:Int)/\ab t 61=.i .i64 (i:Int)/\eQ b X J W0 s0 rE ec v 11 i s)
  (fun t s=>ab t 1=q/\ab t 2=.p rE 0/\ab t 4=.p rR 0/\eQ b X J W0 s0 rE ec v 11 b.list.length s) (by rw[<-ae.aC];omega)
  ⟨by simp[tq],by simp[te],by simp[tr],by simp,by simp,h0⟩
  (by
   rintro i t s hi ⟨i1,i2,i4,il,ii,iE⟩;clear hL;have hil:i<b.len:=by rw[ae.aC];exact hi
   have e5:(i:Int)<(b.len:Int):=by omega
   have e7:wr .i64 ((i:Int)+1)=((i+1:Nat):Int):=by rw[aZ (by omega) (by omega)];rfl
   obtain⟨r0,-⟩:=ln iE;obtain⟨d,W,iI⟩:=iE;obtain⟨r,y,s1,s2,rfl,g2,g3,g4,g5,g6⟩:=iI.next H (m:=4) hT.pre rfl hi;have g5':=g5 6 1;rw[he]at g5';have ix:=kQ nY.und nY.inf nY.sz r 0 b.len i none hil;rw[J1]at ix;have sto:=aI cI aH s1 r (i*11+4) y.cells y.aO;simp[il,ii,e5,br];rw[eJ (fl:=[(1,11)])]
   ·simp[i1,i2,ii,e7,r0,ix,aH,g2,g3,sto,g4];exact⟨_,_,⟨rfl,rfl⟩,by simp[i1],by simp[i2],by simp[i4],by simp[il],by simp,g6⟩
   ·kernel_rfl
   ·intro R hR;simp[i1,i2,r0,ix,aH,g2,g3,sto,g4]at hR;subst hR;simp only[Q6,Q7,Q8];refine bV rfl rfl rfl (s:=s1) ?_;simp[g5'])
  (by rintro t s ⟨i1,i2,i4,il,ii,iE⟩;clear hL;simp[il,ii,ae.aC];exact⟨_,_,⟨rfl,rfl⟩,by simp[i1],by simp[i2],by simp[i4],iE⟩)
 clear hL;exact⟨t1,s1,by simp,u1,u2,u4,uE⟩
theorem aaL{X:List Nat}{W0:List Nat}(H:tv b X J fun y s=>(Tw c N).call 24 [q,.ag y.cells] s)(hT:b.Ty 1)(hl:b.len≤1000000)(he:cut ec 4 1=some [v])(h0:eQ b X J W0 s0 rE ec v 8 0 s0)(tq:ab t 0=q)(te:ab t 3 = .p rE 0)(tr:ab t 4 = .p rR 0)(hN:2000000≤N) :
  ∃ t' s',ao (aq (fE 2)) ⟨prog,Tw c N,false,f24.ntmps,N⟩ t s0=.nx t' s'/\ab t' 0=q/\ab t' 3=.p rE 0/\ab t' 4=.p rR 0/\eQ b X J W0 s0 rE ec v 8 b.list.length s':=by
 have ln:∀ {i:Nat} {s:St},eQ b X J W0 s0 rE ec v 8 i s->rd s rE 4 1=some [v]/\ft prog s [23] [v]=some (.i .i64 (b.len:Int),s):=fun⟨d,W,h⟩=>⟨by rw[h.e.rd,he],aY underlying23 h.row.len.1 h.row.len.2⟩
 obtain⟨r0,l0⟩:=ln h0;simp[fE,aq,aj,f24,te,r0,l0,bw];generalize hL:bf _ _ _ _=L;obtain⟨t1,s1,rfl,u1,u2,u4,uE⟩:=dy hL 0 b.list.length
  (fun i t s=>ab t 0=q/\ab t 3=.p rE 0/\ab t 4=.p rR 0/\ab t 22=.i .i64 (b.len:Int)/\ab t 23=.i .i64 (i:Int)/\eQ b X J W0 s0 rE ec v 8 i s)
  (fun t s=>ab t 0=q/\ab t 3=.p rE 0/\ab t 4=.p rR 0/\eQ b X J W0 s0 rE ec v 8 b.list.length s) (by rw[<-ae.aC];omega)
  ⟨by simp[tq],by simp[te],by simp[tr],by simp,by simp,h0⟩
  (by
   rintro i t s hi ⟨i1,i2,i4,il,ii,iE⟩;clear hL;have hil:i<b.len:=by rw[ae.aC];exact hi
   have e5:(i:Int)<(b.len:Int):=by omega
   have e7:wr .i64 ((i:Int)+1)=((i+1:Nat):Int):=by rw[aZ (by omega) (by omega)];rfl
   obtain⟨r0,-⟩:=ln iE;obtain⟨d,W,iI⟩:=iE;obtain⟨r,y,s1,s2,rfl,g2,g3,g4,g5,g6⟩:=iI.next H (m:=1) hT.pre rfl hi;have g5':=g5 4 1;rw[he]at g5';have ix:=kQ fG.und fG.inf fG.sz r 0 b.len i none hil;rw[J1]at ix;have sto:=aI cI aH s1 r (i*8+1) y.cells y.aO;simp[il,ii,e5,br];rw[eJ (fl:=[(1,11)])]
   ·simp[i1,i2,ii,e7,r0,ix,aH,g2,g3,sto,g4];exact⟨_,_,⟨rfl,rfl⟩,by simp[i1],by simp[i2],by simp[i4],by simp[il],by simp,g6⟩
   ·kernel_rfl
   ·intro R hR;simp[i1,i2,r0,ix,aH,g2,g3,sto,g4]at hR;subst hR;simp only[Q6,Q7,Q8];refine bV rfl rfl rfl (s:=s1) ?_;simp[g5'])
  (by rintro t s ⟨i1,i2,i4,il,ii,iE⟩;clear hL;simp[il,ii,ae.aC];exact⟨_,_,⟨rfl,rfl⟩,by simp[i1],by simp[i2],by simp[i4],iE⟩)
 clear hL;exact⟨t1,s1,by simp,u1,u2,u4,uE⟩
theorem ab9{X:List Nat}{W0:List Nat}(H:tv b X J fun y s=>(Tw c N).call 24 [q,.ag y.cells] s)(hT:b.Ty 0)(hl:b.len≤1000000)(he:cut ec 5 1=some [v])(h0:eQ b X J W0 s0 rE ec v 7 0 s0)(tq:ab t 0=q)(te:ab t 3 = .p rE 0)(tr:ab t 4 = .p rR 0)(hN:2000000≤N) :
  ∃ t' s',ao (aq (fE 3)) ⟨prog,Tw c N,false,f24.ntmps,N⟩ t s0=.nx t' s'/\ab t' 0=q/\ab t' 3=.p rE 0/\ab t' 4=.p rR 0/\eQ b X J W0 s0 rE ec v 7 b.list.length s':=by
 have ln:∀ {i:Nat} {s:St},eQ b X J W0 s0 rE ec v 7 i s->rd s rE 5 1=some [v]/\ft prog s [32] [v]=some (.i .i64 (b.len:Int),s):=fun⟨d,W,h⟩=>⟨by rw[h.e.rd,he],aY underlying32 h.row.len.1 h.row.len.2⟩
 obtain⟨r0,l0⟩:=ln h0;simp[fE,aq,aj,f24,te,r0,l0,bw];generalize hL:bf _ _ _ _=L;obtain⟨t1,s1,rfl,u1,u2,u4,uE⟩:=dy hL 2 b.list.length
  (fun i t s=>ab t 0=q/\ab t 3=.p rE 0/\ab t 4=.p rR 0/\ab t 42=.i .i64 (b.len:Int)/\ab t 43=.i .i64 (i:Int)/\eQ b X J W0 s0 rE ec v 7 i s)
  (fun t s=>ab t 0=q/\ab t 3=.p rE 0/\ab t 4=.p rR 0/\eQ b X J W0 s0 rE ec v 7 b.list.length s) (by rw[<-ae.aC];omega)
  ⟨by simp[tq],by simp[te],by simp[tr],by simp,by simp,h0⟩
  (by
   rintro i t s hi ⟨i1,i2,i4,il,ii,iE⟩;clear hL;have hil:i<b.len:=by rw[ae.aC];exact hi
   have e5:(i:Int)<(b.len:Int):=by omega
   have e7:wr .i64 ((i:Int)+1)=((i+1:Nat):Int):=by rw[aZ (by omega) (by omega)];rfl
   obtain⟨r0,-⟩:=ln iE;obtain⟨d,W,iI⟩:=iE;obtain⟨r,y,s1,s2,rfl,g2,g3,g4,g5,g6⟩:=iI.next H (m:=0) hT.pre rfl hi;rw[V8]at g2 g4;have g5':=g5 5 1;rw[he]at g5';have ix:=kQ jk.und jk.inf jk.sz r 0 b.len i none hil;rw[J1]at ix;have sto:=aI cI aH s1 r (i*7) y.cells y.aO;simp[il,ii,e5,br];rw[eJ (fl:=[(1,10)])]
   ·simp[i1,i2,ii,e7,r0,ix,aH,g2,g3,sto,g4];exact⟨_,_,⟨rfl,rfl⟩,by simp[i1],by simp[i2],by simp[i4],by simp[il],by simp,g6⟩
   ·kernel_rfl
   ·intro R hR;simp[i1,i2,r0,ix,aH,g2,g3,sto,g4]at hR;subst hR;simp only[Q6,Q7,Q8];refine bV rfl rfl rfl (s:=s1) ?_;simp[g5'])
  (by rintro t s ⟨i1,i2,i4,il,ii,iE⟩;clear hL;simp[il,ii,ae.aC];exact⟨_,_,⟨rfl,rfl⟩,by simp[i1],by simp[i2],by simp[i4],iE⟩)
 clear hL;exact⟨t1,s1,by simp,u1,u2,u4,uE⟩
theorem acg{X:List Nat}{W0:List Nat}(H:tv b X J fun y s=>(Tw c N).call 24 [q,.ag y.cells] s)(hT:b.Ty 4)(hl:b.len≤1000000)(he:cut ec 6 1=some [v])(h0:eQ b X J W0 s0 rE ec v 11 0 s0)(tq:ab t 0=q)(te:ab t 3 = .p rE 0)(tr:ab t 4 = .p rR 0)(hN:2000000≤N) :
  ∃ t' s',ao (aq (fE 4)) ⟨prog,Tw c N,false,f24.ntmps,N⟩ t s0=.nx t' s'/\ab t' 0=q/\ab t' 3=.p rE 0/\ab t' 4=.p rR 0/\eQ b X J W0 s0 rE ec v 11 b.list.length s':=by
 have ln:∀ {i:Nat} {s:St},eQ b X J W0 s0 rE ec v 11 i s->rd s rE 6 1=some [v]/\ft prog s [33] [v]=some (.i .i64 (b.len:Int),s):=fun⟨d,W,h⟩=>⟨by rw[h.e.rd,he],aY underlying33 h.row.len.1 h.row.len.2⟩
 obtain⟨r0,l0⟩:=ln h0;simp[fE,aq,aj,f24,te,r0,l0,bw];generalize hL:bf _ _ _ _=L;obtain⟨t1,s1,rfl,u1,u2,u4,uE⟩:=dy hL 4 b.list.length
  (fun i t s=>ab t 0=q/\ab t 3=.p rE 0/\ab t 4=.p rR 0/\ab t 60=.i .i64 (b.len:Int)/\ab t 61=.i .i64 (i:Int)/\eQ b X J W0 s0 rE ec v 11 i s)
  (fun t s=>ab t 0=q/\ab t 3=.p rE 0/\ab t 4=.p rR 0/\eQ b X J W0 s0 rE ec v 11 b.list.length s) (by rw[<-ae.aC];omega)
  ⟨by simp[tq],by simp[te],by simp[tr],by simp,by simp,h0⟩
  (by
   rintro i t s hi ⟨i1,i2,i4,il,ii,iE⟩;clear hL;have hil:i<b.len:=by rw[ae.aC];exact hi
   have e5:(i:Int)<(b.len:Int):=by omega
   have e7:wr .i64 ((i:Int)+1)=((i+1:Nat):Int):=by rw[aZ (by omega) (by omega)];rfl
   obtain⟨r0,-⟩:=ln iE;obtain⟨d,W,iI⟩:=iE;obtain⟨r,y,s1,s2,rfl,g2,g3,g4,g5,g6⟩:=iI.next H (m:=4) hT.pre rfl hi;have g5':=g5 6 1;rw[he]at g5';have ix:=kQ nY.und nY.inf nY.sz r 0 b.len i none hil;rw[J1]at ix;have sto:=aI cI aH s1 r (i*11+4) y.cells y.aO;simp[il,ii,e5,br];rw[eJ (fl:=[(1,11)])]
   ·simp[i1,i2,ii,e7,r0,ix,aH,g2,g3,sto,g4];exact⟨_,_,⟨rfl,rfl⟩,by simp[i1],by simp[i2],by simp[i4],by simp[il],by simp,g6⟩
   ·kernel_rfl
   ·intro R hR;simp[i1,i2,r0,ix,aH,g2,g3,sto,g4]at hR;subst hR;simp only[Q6,Q7,Q8];refine bV rfl rfl rfl (s:=s1) ?_;simp[g5'])
  (by rintro t s ⟨i1,i2,i4,il,ii,iE⟩;clear hL;simp[il,ii,ae.aC];exact⟨_,_,⟨rfl,rfl⟩,by simp[i1],by simp[i2],by simp[i4],iE⟩)
 clear hL;exact⟨t1,s1,by simp,u1,u2,u4,uE⟩
section
variable {B : List Nat}
theorem ib.Br(h:ib st n0 v z l)(k:Kp A B st s)(hA:∀ x,x∈A->x<n0)(hB:∀ x,x∈B->x<n0):ib s n0 v z l:=by
 rcases h with h|⟨h0,r,g,al,h1,h2,h3,h4,h5,h6⟩
 ·exact .inl h
 ·exact .inr ⟨h0,r,g,al,h1,k.ce h2 h3 h4 (fun hh=>by have:=hA _ hh;omega) (fun hh=>by have:=hB _ hh;omega),Q0 h3 k.next,Q0 h4 k.next,h5,h6⟩
theorem ib.mono(h:ib st n0 v z l)(hm:m<=n0):ib st m v z l:=by
 rcases h with h|⟨h0,r,g,al,h1,h2,h3,h4,h5,h6⟩
 ·exact .inl h
 ·exact .inr ⟨h0,r,g,al,h1,h2,h3,h4,by omega,by omega⟩
theorem BN.Br(k:Kp A B st s)(hA:∀ x,x∈A->x<n0)(hB:∀ x,x∈B->x<n0):∀ {x:Ex},BN st n0 v x->BN s n0 v x
 |.mk ..,⟨bv,av,lv,h1,h2,h3,h4⟩=>⟨bv,av,lv,h1,h2.Br k hA hB,h3.Br k hA hB,h4.Br k hA hB⟩
theorem BN.mono{m:Nat}(hm:m<=n0):∀ {x:Ex},BN st n0 v x->BN st m v x
 |.mk ..,⟨bv,av,lv,h1,h2,h3,h4⟩=>⟨bv,av,lv,h1,h2.mono hm,h3.mono hm,h4.mono hm⟩
theorem BN.ag:∀ {x:Ex},x.Ty->BN st n0 v x->∃ l,v=.ag l/\l.length=7/\bq l=true
 |.mk k nm num ps b a l,hT,⟨bv,av,lv,h1,h2,h3,h4⟩=>by simp only[Ex.Ty]at hT;exact⟨_,h1,rfl,by simp[wK hT.2.1,h2.sc,h3.sc,h4.sc]⟩
end
theorem GQ.lp(h:GQ s n0 v z n cs):∃ X,eL s X v z n cs/\∀ x∈X,n0<=x/\x<s.next:=by
 rcases h with h|⟨h0,r,g,al,h1,h2,h3,h4,h5,h6⟩
 ·exact⟨[],.inl h,by simp⟩
 ·exact⟨[r,g],.inr ⟨h0,r,g,al,h1,h2,by simp,by simp,h5,h6⟩,by simp;omega⟩
theorem eL.keep{X:List Nat}{B:List Nat}(h:eL s X v z n cs)(k:Kp A B s s')(hA:∀ x∈X,x∉A)(hB:∀ x∈X,x∉B):eL s' X v z n cs:=by
 rcases h with h|⟨h0,r,g,al,h1,h2,h3,h4,h5,h6⟩
 ·exact .inl h
 ·exact .inr ⟨h0,r,g,al,h1,k.ce h2 h5 h6 (hA r h3) (hB g h4),h3,h4,Q0 h5 k.next,Q0 h6 k.next⟩
theorem eL.Sd{X:List Nat}(hf:l.nf)(h:eL s X v z l.len l.flat)(hX:∀ x∈X,n0<=x):ib s n0 v z l:=by
 rcases h with ⟨h0,rfl⟩|⟨h0,r,g,al,h1,h2,h3,h4,h5,h6⟩
 ·obtain⟨f,rfl⟩:=lK h0;cases hf;exact .inl rfl
 ·exact .inr ⟨h0,r,g,al,h1,h2,h5,h6,hX r h3,hX g h4⟩
theorem eL.cells{s:St}{X:List Nat}{v:AV}{z n:Nat}{cs:List AV}(h:eL s X v z n cs):v.cells=some [v]/\bS v=true:=by rcases h with ⟨rfl,rfl⟩|⟨-,r,g,al,rfl,-⟩<;>simp
structure WE(s s':St)(rE:Nat)(k:Int)(nm:ah)(num:Int)(ps:AV)(b a l:ae)(bv av lv:AV)(XB XA XL:List Nat)(lo m1 m2:Nat):Prop where
 e:∃ al,s'.ce rE=some ([.i .i64 k,.s nm,.i .i64 num,ps,bv,av,lv],rE,al)
 rb:eL s' XB bv 8 b.len b.flat
 ra:eL s' XA av 7 a.len a.flat
 rl:eL s' XL lv 11 l.len l.flat
 xb:∀ x∈XB,lo<=x/\x<m1
 xa:∀ x∈XA,m1<=x/\x<m2
 xl:∀ x∈XL,m2<=x/\x<s'.next
 le:lo<=m1/\m1<=m2/\m2<=s'.next
 kp:Kp [rE] [rE] s s'
def JS(o:Out)(s:St)(slots:Tr AV->Prop)(rE:Nat)(k:Int)(nm:ah)(num:Int)(ps:AV)(b a l:ae):Prop:=∃ t' s' bv av lv XB XA XL m1 m2,o=.nx t' s'/\slots t'/\WE s s' rE k nm num ps b a l bv av lv XB XA XL s.next m1 m2
theorem XO{a:ae}(hx:Wl (.mk k nm num ps b a l))(hs:(Ex.mk k nm num ps b a l).size<=1000000)(ce:s.ce rE=some ((Ex.mk k nm num ps b a l).cells,rE,al0))(hE:rE<s.next)(tq:ab t 1=q)(te:ab t 2=.p rE 0)(tr:ab t 4=.p rR 0)(hN:1<=N):
  JS (ao (aq (fQ 1)) ⟨prog,Tw c N,false,f89.ntmps,N⟩ t s) s (fun t'=>ab t' 1=q/\ab t' 2=.p rE 0/\ab t' 4=.p rR 0) rE k nm num ps b a l:=by
 obtain⟨hh,-⟩:=Wl.fN.1 hx;have hT:=hx.1;simp only[Ex.Ty]at hT;simp only[Ex.size]at hs;have hb:=b.bZ;have ha:=a.bZ;have hl:=l.bZ;obtain⟨bv,s1,v1,o1,k1⟩:=QG (c:=c) (st:=s) hT.2.2.1 hh.nf.1 (by omega) hN;obtain⟨av,s2,v2,o2,k2⟩:=JF (c:=c) (st:=s1) hT.2.2.2.1 hh.nf.2.1 (by omega) hN;obtain⟨lv,s3,v3,o3,k3⟩:=P8 (c:=c) (st:=s2) hT.2.2.2.2 hh.nf.2.2 (by omega) hN;obtain⟨XB,b1,b2⟩:=o1.lp;obtain⟨XA,a1,a2⟩:=o2.lp;obtain⟨XL,l1,l2⟩:=o3.lp;have n1:=k1.next;have n2:=k2.next;have n3:=k3.next;have ex:=iv ce;have ce1:=k1.ce ce hE hE (by simp) (by simp);have ce2:=k2.ce ce1 (by omega) (by omega) (by simp) (by simp);have ce3:=k3.ce ce2 (by omega) (by omega) (by simp) (by simp);have hec:(Ex.mk k nm num ps b a l).cells=[.i .i64 k,.s nm,.i .i64 num,ps,b.slice 8,a.slice 7,l.slice 11]:=by simp[Ex.cells]
 rw[hec]at ce3;have w4:=bP ce3 4 [bv] (by simp) (by simp[b1.cells.2]);have c4:=cj rE (bO [AV.i .i64 k,.s nm,.i .i64 num,ps,b.slice 8,a.slice 7,l.slice 11] 4 [bv]) rE (st:=s3);have q4:Kp [rE] [rE] s3 (s3.ax rE (bO [AV.i .i64 k,.s nm,.i .i64 num,ps,b.slice 8,a.slice 7,l.slice 11] 4 [bv]) rE):=.ax (by simp) (by simp);obtain⟨s4,hs4⟩:∃ s4,s3.ax rE (bO [AV.i .i64 k,.s nm,.i .i64 num,ps,b.slice 8,a.slice 7,l.slice 11] 4 [bv]) rE=s4:=⟨_,rfl⟩;rw[hs4]at w4 c4 q4;have c4:s4.ce rE=some ([.i .i64 k,.s nm,.i .i64 num,ps,bv,a.slice 7,l.slice 11],rE,[rE]):=c4;have w5:=bP c4 5 [av] (by simp) (by simp[a1.cells.2]);have c5:=cj rE (bO [AV.i .i64 k,.s nm,.i .i64 num,ps,bv,a.slice 7,l.slice 11] 5 [av]) rE (st:=s4);have q5:Kp [rE] [rE] s4 (s4.ax rE (bO [AV.i .i64 k,.s nm,.i .i64 num,ps,bv,a.slice 7,l.slice 11] 5 [av]) rE):=.ax (by simp) (by simp);obtain⟨s5,hs5⟩:∃ s5,s4.ax rE (bO [AV.i .i64 k,.s nm,.i .i64 num,ps,bv,a.slice 7,l.slice 11] 5 [av]) rE=s5:=⟨_,rfl⟩;rw[hs5]at w5 c5 q5;have c5:s5.ce rE=some ([.i .i64 k,.s nm,.i .i64 num,ps,bv,av,l.slice 11],rE,[rE]):=c5;have w6:=bP c5 6 [lv] (by simp) (by simp[l1.cells.2]);have c6:=cj rE (bO [AV.i .i64 k,.s nm,.i .i64 num,ps,bv,av,l.slice 11] 6 [lv]) rE (st:=s5);have q6:Kp [rE] [rE] s5 (s5.ax rE (bO [AV.i .i64 k,.s nm,.i .i64 num,ps,bv,av,l.slice 11] 6 [lv]) rE):=.ax (by simp) (by simp);obtain⟨s6,hs6⟩:∃ s6,s5.ax rE (bO [AV.i .i64 k,.s nm,.i .i64 num,ps,bv,av,l.slice 11] 6 [lv]) rE=s6:=⟨_,rfl⟩;rw[hs6]at w6 c6 q6;have c6:s6.ce rE=some ([.i .i64 k,.s nm,.i .i64 num,ps,bv,av,lv],rE,[rE]):=c6;have st4:=db nH pI s3 rE 4 bv b1.cells.1;have st5:=db o9 sP s4 rE 5 av a1.cells.1;have st6:=db uX yx s5 rE 6 lv l1.cells.1;have r5:rd s1 rE 5 1=some [a.slice 7]:=by rw[au ce1,hec];rfl
 have r6:rd s2 rE 6 1=some [l.slice 11]:=by rw[au ce2,hec];rfl
 have r6':rd s1 rE 6 1=some [l.slice 11]:=by rw[au ce1,hec];rfl
 have kk:Kp [rE] [rE] s s6:=((k1.sub (by simp) (by simp)).trans ((k2.sub (by simp) (by simp)).trans (k3.sub (by simp) (by simp)))).trans (q4.trans (q5.trans q6));have k36:Kp [rE] [rE] s3 s6:=q4.trans (q5.trans q6);have n6:=k36.next;have key:∃ t',ao (aq (fQ 1)) ⟨prog,Tw c N,false,f89.ntmps,N⟩ t s=.nx t' s6/\ab t' 1=q/\ab t' 2=.p rE 0/\ab t' 4=.p rR 0:=by
  simp[fQ,aq,aj,f89,br];rw[eJ (fl:=[(4,0),(7,0),(7,3)])]
  ·simp[tq,te,tr,ex.b,r5,r6,v1,v2,v3,st4,w4,st5,w5,st6,w6]
  ·kernel_rfl
  ·intro R hR;simp[te,ex.b,r5,r6,v1,v2,v3,st4,w4,st5,w5,st6,w6]at hR;subst hR;simp only[Q6,Q7,Q8,Z4];refine⟨bV rfl rfl rfl (s:=s) ?_,bV rfl rfl rfl (s:=s) ?_,bV rfl rfl rfl (s:=s1) ?_⟩
   ·simp[ex.a]
   ·simp[ex.l]
   ·simp[r6']
 obtain⟨t',e1,e2⟩:=key;refine⟨t',s6,bv,av,lv,XB,XA,XL,s1.next,s2.next,e1,e2,⟨_,c6⟩,?_,?_,?_,b2,a2,fun x hx=>by have:=l2 x hx;omega,by omega,kk⟩
 ·refine eL.keep (eL.keep (eL.keep b1 k2 (by simp) (by simp)) k3 (by simp) (by simp)) k36 (fun x hx=>?_) (fun x hx=>?_) <;> · have:=b2 x hx;simp;omega
 ·refine eL.keep (eL.keep a1 k3 (by simp) (by simp)) k36 (fun x hx=>?_) (fun x hx=>?_) <;> · have:=a2 x hx;simp;omega
 ·refine eL.keep l1 k36 (fun x hx=>?_) (fun x hx=>?_) <;> · have:=l2 x hx;simp;omega
theorem Ry{a:ae}(hx:Wl (.mk k nm num ps b a l))(hs:(Ex.mk k nm num ps b a l).size<=1000000)(ce:s.ce rE=some ((Ex.mk k nm num ps b a l).cells,rE,al0))(hE:rE<s.next)(tq:ab t 0=q)(te:ab t 3=.p rE 0)(tr:ab t 4=.p rR 0)(hN:1<=N):
  JS (ao (aq (fE 1)) ⟨prog,Tw c N,false,f24.ntmps,N⟩ t s) s (fun t'=>ab t' 0=q/\ab t' 3=.p rE 0/\ab t' 4=.p rR 0) rE k nm num ps b a l:=by
 obtain⟨hh,-⟩:=Wl.fN.1 hx;have hT:=hx.1;simp only[Ex.Ty]at hT;simp only[Ex.size]at hs;have hb:=b.bZ;have ha:=a.bZ;have hl:=l.bZ;obtain⟨bv,s1,v1,o1,k1⟩:=QG (c:=c) (st:=s) hT.2.2.1 hh.nf.1 (by omega) hN;obtain⟨av,s2,v2,o2,k2⟩:=JF (c:=c) (st:=s1) hT.2.2.2.1 hh.nf.2.1 (by omega) hN;obtain⟨lv,s3,v3,o3,k3⟩:=P8 (c:=c) (st:=s2) hT.2.2.2.2 hh.nf.2.2 (by omega) hN;obtain⟨XB,b1,b2⟩:=o1.lp;obtain⟨XA,a1,a2⟩:=o2.lp;obtain⟨XL,l1,l2⟩:=o3.lp;have n1:=k1.next;have n2:=k2.next;have n3:=k3.next;have ex:=iv ce;have ce1:=k1.ce ce hE hE (by simp) (by simp);have ce2:=k2.ce ce1 (by omega) (by omega) (by simp) (by simp);have ce3:=k3.ce ce2 (by omega) (by omega) (by simp) (by simp);have hec:(Ex.mk k nm num ps b a l).cells=[.i .i64 k,.s nm,.i .i64 num,ps,b.slice 8,a.slice 7,l.slice 11]:=by simp[Ex.cells]
 rw[hec]at ce3;have w4:=bP ce3 4 [bv] (by simp) (by simp[b1.cells.2]);have c4:=cj rE (bO [AV.i .i64 k,.s nm,.i .i64 num,ps,b.slice 8,a.slice 7,l.slice 11] 4 [bv]) rE (st:=s3);have q4:Kp [rE] [rE] s3 (s3.ax rE (bO [AV.i .i64 k,.s nm,.i .i64 num,ps,b.slice 8,a.slice 7,l.slice 11] 4 [bv]) rE):=.ax (by simp) (by simp);obtain⟨s4,hs4⟩:∃ s4,s3.ax rE (bO [AV.i .i64 k,.s nm,.i .i64 num,ps,b.slice 8,a.slice 7,l.slice 11] 4 [bv]) rE=s4:=⟨_,rfl⟩;rw[hs4]at w4 c4 q4;have c4:s4.ce rE=some ([.i .i64 k,.s nm,.i .i64 num,ps,bv,a.slice 7,l.slice 11],rE,[rE]):=c4;have w5:=bP c4 5 [av] (by simp) (by simp[a1.cells.2]);have c5:=cj rE (bO [AV.i .i64 k,.s nm,.i .i64 num,ps,bv,a.slice 7,l.slice 11] 5 [av]) rE (st:=s4);have q5:Kp [rE] [rE] s4 (s4.ax rE (bO [AV.i .i64 k,.s nm,.i .i64 num,ps,bv,a.slice 7,l.slice 11] 5 [av]) rE):=.ax (by simp) (by simp);obtain⟨s5,hs5⟩:∃ s5,s4.ax rE (bO [AV.i .i64 k,.s nm,.i .i64 num,ps,bv,a.slice 7,l.slice 11] 5 [av]) rE=s5:=⟨_,rfl⟩;rw[hs5]at w5 c5 q5;have c5:s5.ce rE=some ([.i .i64 k,.s nm,.i .i64 num,ps,bv,av,l.slice 11],rE,[rE]):=c5;have w6:=bP c5 6 [lv] (by simp) (by simp[l1.cells.2]);have c6:=cj rE (bO [AV.i .i64 k,.s nm,.i .i64 num,ps,bv,av,l.slice 11] 6 [lv]) rE (st:=s5);have q6:Kp [rE] [rE] s5 (s5.ax rE (bO [AV.i .i64 k,.s nm,.i .i64 num,ps,bv,av,l.slice 11] 6 [lv]) rE):=.ax (by simp) (by simp);obtain⟨s6,hs6⟩:∃ s6,s5.ax rE (bO [AV.i .i64 k,.s nm,.i .i64 num,ps,bv,av,l.slice 11] 6 [lv]) rE=s6:=⟨_,rfl⟩;rw[hs6]at w6 c6 q6;have c6:s6.ce rE=some ([.i .i64 k,.s nm,.i .i64 num,ps,bv,av,lv],rE,[rE]):=c6;have st4:=db nH pI s3 rE 4 bv b1.cells.1;have st5:=db o9 sP s4 rE 5 av a1.cells.1;have st6:=db uX yx s5 rE 6 lv l1.cells.1;have r5:rd s1 rE 5 1=some [a.slice 7]:=by rw[au ce1,hec];rfl
 have r6:rd s2 rE 6 1=some [l.slice 11]:=by rw[au ce2,hec];rfl
 have r6':rd s1 rE 6 1=some [l.slice 11]:=by rw[au ce1,hec];rfl
 have kk:Kp [rE] [rE] s s6:=((k1.sub (by simp) (by simp)).trans ((k2.sub (by simp) (by simp)).trans (k3.sub (by simp) (by simp)))).trans (q4.trans (q5.trans q6));have k36:Kp [rE] [rE] s3 s6:=q4.trans (q5.trans q6);have n6:=k36.next;have key:∃ t',ao (aq (fE 1)) ⟨prog,Tw c N,false,f24.ntmps,N⟩ t s=.nx t' s6/\ab t' 0=q/\ab t' 3=.p rE 0/\ab t' 4=.p rR 0:=by
  simp[fE,aq,aj,f24,br];rw[eJ (fl:=[(4,0),(7,0),(7,3)])]
  ·simp[tq,te,tr,ex.b,r5,r6,v1,v2,v3,st4,w4,st5,w5,st6,w6]
  ·kernel_rfl
  ·intro R hR;simp[te,ex.b,r5,r6,v1,v2,v3,st4,w4,st5,w5,st6,w6]at hR;subst hR;simp only[Q6,Q7,Q8,Z4];refine⟨bV rfl rfl rfl (s:=s) ?_,bV rfl rfl rfl (s:=s) ?_,bV rfl rfl rfl (s:=s1) ?_⟩
   ·simp[ex.a]
   ·simp[ex.l]
   ·simp[r6']
 obtain⟨t',e1,e2⟩:=key;refine⟨t',s6,bv,av,lv,XB,XA,XL,s1.next,s2.next,e1,e2,⟨_,c6⟩,?_,?_,?_,b2,a2,fun x hx=>by have:=l2 x hx;omega,by omega,kk⟩
 ·refine eL.keep (eL.keep (eL.keep b1 k2 (by simp) (by simp)) k3 (by simp) (by simp)) k36 (fun x hx=>?_) (fun x hx=>?_) <;> · have:=b2 x hx;simp;omega
 ·refine eL.keep (eL.keep a1 k3 (by simp) (by simp)) k36 (fun x hx=>?_) (fun x hx=>?_) <;> · have:=a2 x hx;simp;omega
 ·refine eL.keep l1 k36 (fun x hx=>?_) (fun x hx=>?_) <;> · have:=l2 x hx;simp;omega
structure Cw(c:Option Self)(g:Nat)(caps:List AV)(M0:Nat)(J:St->Prop)(F:Ex->Ex):Prop where
 kp:∀ s s',J s->Kp [] [] s s'->J s'
 call:∀ M,M0<=M->∀ s x n0 v,J s->Wl x->BN s n0 v x->wq (nj prog (Tw c M) g (v::caps) s) s n0 (F x)
def CA(o:Option (AV× St))(st:St)(x:Ex):Prop:=∃ s',o=some (.ag x.cells,s')/\Kp [] [] st s'
theorem eL.kw{X:List Nat}(h:eL s X v z n cs)(k:Kw W W' s s')(hX:∀ x∈X,x∉W):eL s' X v z n cs:=h.keep k.1 hX hX
theorem Il{l':ae}(h:l'.len=l.len)(hf:l'.nf){X:List Nat}(hL:l'.list=L)(hr:eL s X v z l.len (di L))(hX:∀ x∈X,n0<=x):ib s n0 v z l':=by
 have e:di L=l'.flat:=by rw[oy,hL]
 rw[e,<-h]at hr;exact hr.Sd hf hX
def Eb(F:Ex->Ex)(l:ae)(s0:St)(d:List (List AV× Ex))(W:List Nat)(s:St):Prop:=W=[]/\Kp [] [] s0 s/\d=(l.list.take d.length).map fun p=>(p.1,fF F p.2)
theorem HZ{g:Nat}{J:St->Prop}(hg:Cw c g caps M0 J F){X:List Nat}(hJ:J s0)(hX:∀ x∈X,s0.next<=x)(hS:∀ p∈l.list,(fF F p.2).Ty)(IH:∀ p∈l.list,∀ s,J s->CA ((Tw c N).call 89 [.ag p.2.cells,.f (.func g) [] caps] s) s (fF F p.2)):tv l X (Eb F l s0) fun y s=>(Tw c N).call 89 [.ag y.cells,.f (.func g) [] caps] s:=by
 refine⟨fun d W s h=>?_,fun d W s s' h k=>?_,fun d W s h hJ'=>?_⟩
 ·obtain⟨rfl,-⟩:=h;simp
 ·obtain⟨rfl,h1,h2⟩:=h;exact⟨rfl,dz h1 k hX hX,h2⟩
 ·obtain⟨rfl,h1,h2⟩:=hJ';have hm:=V4 h;obtain⟨s',e1,e2⟩:=IH _ hm s (hg.kp _ _ hJ h1);refine⟨_,s',[],e1,hS _ hm,⟨rfl,h1.trans e2,?_⟩,.of e2⟩;have:(d++[(l.list[d.length].1,fF F l.list[d.length].2)]).length=d.length+1:=by simp
  rw[this,<-V6 h,J8,<-h2];rfl
theorem Jq{g:Nat}{J:St->Prop}(hM:2000000<=M0)(hg:Cw c g caps M0 J F):∀ x:Ex,Wl x->x.size<=1000000->(∀ y∈cP x,Wl y->Sm y (fF F y))->∀ (st:St) (N:Nat),J st->x.size+M0+10<=N->CA ((Tw c N).call 89 [.ag x.cells,.f (.func g) [] caps] st) st (fF F x):=by
 refine Ex.ind fun k nm num ps b a l hb ha hl=>?_
 intro hx hs hS st N hJ hN;obtain⟨N,rfl⟩:∃ N',N=N'+1:=⟨N-1,by omega⟩;obtain⟨hh,wb,wa,wl⟩:=Wl.fN.1 hx;have hT:=hx.1;simp only[Ex.Ty]at hT;have hsz:(Ex.mk k nm num ps b a l).size=1+b.size+a.size+l.size:=by simp only[Ex.size]
 have bl:=b.bZ;have al:=a.bZ;have ll:=l.bZ;have sub:∀ {q:ae},q.size<(Ex.mk k nm num ps b a l).size->(∀ p∈q.list,∀ y∈cP p.2,y∈cP (Ex.mk k nm num ps b a l))->(∀ p∈q.list,Wl p.2)->(∀ p∈q.list,(Wl p.2->p.2.size<=1000000->(∀ y∈cP p.2,Wl y->Sm y (fF F y))->∀ (st:St) (N:Nat),J st->p.2.size+M0+10<=N->CA ((Tw c N).call 89 [.ag p.2.cells,.f (.func g) [] caps] st) st (fF F p.2)))->
   (∀ p∈q.list,Sm p.2 (fF F p.2))/\∀ p∈q.list,∀ s,J s->CA ((Tw c N).call 89 [.ag p.2.cells,.f (.func g) [] caps] s) s (fF F p.2):=by
  intro q hq hn hw ih;refine⟨fun p hp=>hS p.2 (hn p hp _ (by cases p.2;simp[cP])) (hw p hp),fun p hp s hs'=>ih p hp (hw p hp) ?_ (fun y hy=>hS y (hn p hp y hy)) s N hs' ?_⟩
  ·have:=ae.dU hp;omega
  ·have:=ae.dU hp;omega
 have l1:=a.size;obtain⟨sB,iB⟩:=sub (by omega) (fun p hp=>ph (.inl hp)) wb hb;obtain⟨sA,iA⟩:=sub (by omega) (fun p hp=>ph (.inr (.inl hp))) wa ha;obtain⟨sL,iL⟩:=sub (q:=l) (by omega) (fun p hp=>ph (.inr (.inr hp))) wl hl;have hnode:=(Gm hx sB sA sL).wl;have hres:=(hS _ (by simp[cP]) hx).wl;have lenF:∀ q:ae,(lO F q).len=q.len:=fun q=>by rw[ae.aC,yG,Z8,pg]
 suffices key:∃ v s',aV c N f89 (f89.body.getD .skip) [.ag (Ex.mk k nm num ps b a l).cells,.f (.func g) [] caps] st=some (v,s')/\BN s' st.next v (fF F (Ex.mk k nm num ps b a l))/\Kp [] [] st s' by obtain⟨v,s',e1,e2,e3⟩:=key;exact⟨_,vi rfl rfl rfl rfl rfl (by decide) func89 rfl (J5 rfl) e1 (e2.fz hres.1),e3.shut (J9 _)⟩
 unfold aV;obtain⟨s0,s1,rE,rR,hrE,hs0,hrR,hs1,cE,cR,lER,lR,lo,K1⟩:=wI st (Ex.mk k nm num ps b a l).cells;show ∃ v s',eE prog f89.results.toList (ao (fQ 0) ⟨prog,Tw c N,false,f89.ntmps,N⟩ (tmpsOf [.ag (Ex.mk k nm num ps b a l).cells,.f (.func g) [] caps] 0 .lf) st)=some (v,s')/\_
 have zz:bm prog 35=some eM:=qH;have a0:∃ t,ao (aq (fQ 0)) ⟨prog,Tw c N,false,f89.ntmps,N⟩ (tmpsOf [.ag (Ex.mk k nm num ps b a l).cells,.f (.func g) [] caps] 0 .lf) st=.nx t s1/\ab t 1=.f (.func g) [] caps/\ab t 2=.p rE 0/\ab t 4=.p rR 0:=by simp[fQ,aq,f89,hrE,hs0,aJ,zz,hrR,hs1]
 obtain⟨t0,a0,b1,b2,b4⟩:=a0;rw[dw (cd:=fQ 0) rfl a0,show aj (fQ 0)=fQ 1 from rfl];obtain⟨t1,s2,bv,av,lv,XB,XA,XL,m1,m2,a1,⟨d1,d2,d4⟩,C⟩:=XO (c:=c) hx hs cE (by omega) b1 b2 b4 (N:=N) (by omega);rw[dw (cd:=fQ 1) rfl a1,show aj (fQ 1)=fQ 2 from rfl];obtain⟨alE,c2⟩:=C.e;have n2:=C.kp.next;have hle:=C.le;have K2:Kp [] [] st s2:=dz K1 C.kp (by simp;omega) (by simp;omega);have cR2:=C.kp.ce cR lR lR (by simp;omega) (by simp;omega);obtain⟨ec,hec⟩:∃ ec:List AV,[AV.i .i64 k,.s nm,.i .i64 num,ps,bv,av,lv]=ec:=⟨_,rfl⟩;rw[hec]at c2;have E2:jX s2 XB rE ec:=⟨alE,c2,by omega,fun hh=>by have:=C.xb _ hh;omega⟩;have HB:=HZ (c:=c) (N:=N) hg hJ (X:=XB) (fun x hx=>by have:=C.xb x hx;omega) (fun p hp=>(sB p hp).wl.1) iB;have LB:eQ b XB (Eb F b st) [] s2 rE ec bv 8 0 s2:=⟨[],[],rfl,by simp,⟨rfl,K2,by simp⟩,by rw[J6,Z9,<-oy];exact C.rb,by rw[J4];exact E2,.refl _ _⟩;obtain⟨t2,s3,a2,u1,u2,u4,dB,WB,uB⟩:=ZN (c:=c) HB hT.2.2.1 (by omega) (by rw[<-hec];rfl) LB d1 d2 d4 (by omega);rw[dw (cd:=fQ 2) rfl a2,show aj (fQ 2)=fQ 3 from rfl];obtain⟨rfl,K3,hdB⟩:=uB.j;have kB:=uB.kw;simp only[J4]at kB;have n3:=kB.1.next;have RA3:=C.ra.kw kB (fun x hx hh=>by have:=C.xa x hx;have:=C.xb x hh;omega);have RL3:=C.rl.kw kB (fun x hx hh=>by have:=C.xl x hx;have:=C.xb x hh;omega);have cR3:=kB.ce cR2 (by omega) (by omega) (fun hh=>by have:=C.xb _ hh;omega) (fun hh=>by have:=C.xb _ hh;omega);have E3:jX s3 XA rE ec:=uB.e.to (fun hh=>by have:=C.xa _ hh;omega);have HA:=HZ (c:=c) (N:=N) hg hJ (X:=XA) (fun x hx=>by have:=C.xa x hx;omega) (fun p hp=>(sA p hp).wl.1) iA;have LA:eQ a XA (Eb F a st) [] s3 rE ec av 7 0 s3:=⟨[],[],rfl,by simp,⟨rfl,K3,by simp⟩,by rw[J6,Z9,<-oy];exact RA3,by rw[J4];exact E3,.refl _ _⟩;obtain⟨t3,s4,a3,w1,w2,w4,dA,WA,uA⟩:=abK (c:=c) HA hT.2.2.2.1 (by omega) (by rw[<-hec];rfl) LA u1 u2 u4 (by omega);rw[dw (cd:=fQ 3) rfl a3,show aj (fQ 3)=fQ 4 from rfl];obtain⟨rfl,K4,hdA⟩:=uA.j;have kA:=uA.kw;simp only[J4]at kA;have n4:=kA.1.next;have RB4:=uB.all.kw kA (fun x hx hh=>by have:=C.xb x hx;have:=C.xa x hh;omega);have RL4:=RL3.kw kA (fun x hx hh=>by have:=C.xl x hx;have:=C.xa x hh;omega);have cR4:=kA.ce cR3 (by omega) (by omega) (fun hh=>by have:=C.xa _ hh;omega) (fun hh=>by have:=C.xa _ hh;omega);have E4:jX s4 XL rE ec:=uA.e.to (fun hh=>by have:=C.xl _ hh;omega);have HL:=HZ (c:=c) (N:=N) hg hJ (X:=XL) (fun x hx=>by have:=C.xl x hx;omega) (fun p hp=>(sL p hp).wl.1) iL;have LL:eQ l XL (Eb F l st) [] s4 rE ec lv 11 0 s4:=⟨[],[],rfl,by simp,⟨rfl,K4,by simp⟩,by rw[J6,Z9,<-oy];exact RL4,by rw[J4];exact E4,.refl _ _⟩;obtain⟨t4,s5,a4,x1,x2,x4,dL,WL,uL⟩:=YV (c:=c) HL hT.2.2.2.2 (by omega) (by rw[<-hec];rfl) LL w1 w2 w4 (by omega);rw[dw (cd:=fQ 4) rfl a4,show aj (fQ 4)=fQ 5 from rfl];obtain⟨rfl,K5,hdL⟩:=uL.j;have kL:=uL.kw;simp only[J4]at kL;have n5:=kL.1.next;have RB5:=RB4.kw kL (fun x hx hh=>by have:=C.xb x hx;have:=C.xl x hh;omega);have RA5:=uA.all.kw kL (fun x hx hh=>by have:=C.xa x hx;have:=C.xl x hh;omega);have cR5:=kL.ce cR4 (by omega) (by omega) (fun hh=>by have:=C.xl _ hh;omega) (fun hh=>by have:=C.xl _ hh;omega);have full:∀ {q:ae} {d:List (List AV× Ex)},d.length=q.list.length->d=(q.list.take d.length).map (fun p=>(p.1,fF F p.2))->(lO F q).list=d:=fun h1 h2=>by rw[yG,h2,h1,List.take_length]
 have B5:BN s5 s1.next (.ag ec) (.mk k nm num ps (lO F b) (lO F a) (lO F l)):=by rw[<-hec];exact⟨bv,av,lv,rfl,Il (lenF b) (zj hh.nf.1) (full uB.len hdB) RB5 (fun x hx=>(C.xb x hx).1),Il (lenF a) (zj hh.nf.2.1) (full uA.len hdA) RA5 (fun x hx=>by have:=C.xa x hx;omega),Il (lenF l) (zj hh.nf.2.2) (full uL.len hdL) uL.all (fun x hx=>by have:=C.xl x hx;omega)⟩
 obtain⟨s6,v6,y1,y2,y3⟩:=hg.call N (by omega) s5 _ _ _ (hg.kp _ _ hJ K5) hnode B5;have y2:BN s6 s1.next v6 (fF F (.mk k nm num ps b a l)):=y2;obtain⟨vc,rfl,hv7,hvs⟩:=y2.ag hres.1;have n6:=y3.next;have cR6:=y3.ce cR5 (by omega) (by omega) (by simp) (by simp);have hw:=bP cR6 0 vc (by rw[hv7];exact J9 _) hvs;rw[gZ,jG (by rw[hv7];rfl)]at hw;have sto:=aI cI aH s6 rR 0 vc hv7;have kR:Kp [rR] [rR] s6 (s6.ax rR vc rR):=.ax (by simp) (by simp);have re7:rd s5 rE 0 7=some ec:=by rw[uL.e.rd,<-hec];rfl
 have a5:∃ t,ao (fQ 5) ⟨prog,Tw c N,false,f89.ntmps,N⟩ t4 s5=.rt t (s6.ax rR vc rR)/\ab t 4=.p rR 0:=by simp[fQ,aj,f89,x1,x2,x4,aH,re7,y1,sto,hw]
 obtain⟨t5,a5,z4⟩:=a5;rw[a5];exact⟨_,_,tQ z4 (by rw[au (cj _ _ _),cQ,<-hv7,dD]),(y2.Br kR (by simp;omega) (by simp;omega)).mono (by have:=K1.next;omega),dz (K5.trans y3) kR (by simp;omega) (by simp;omega)⟩
def eK:AV->List Nat
 |.sl r _ _ _ none=>[r]
 |_=>[]
def dX(s:St)(X:List Nat):List AV->List (List AV× Ex)->Prop
 |cs,[]=>cs=[]
 |cs,p::L=>∃ nm v rest,p.1=[.s nm]/\cs=.s nm::(v++rest)/\v.length=7/\bq v=true/\Bx s X (.ag v) p.2/\dX s X rest L
section
variable {b : St}{X B : List Nat}
theorem dX.map(h:∀ {v:AV}{x:Ex},Bx a X v x->Bx b Y v x):∀ {cs:List AV}{L:List (List AV× Ex)},dX a X cs L->dX b Y cs L
 |_,[],hh=>hh
 |_,_::_,⟨nm,v,rest,h1,h2,h3,h4,h5,h6⟩=>⟨nm,v,rest,h1,h2,h3,h4,h h5,dX.map h h6⟩
theorem dX.len:∀ {cs:List AV}{L:List (List AV× Ex)},dX a X cs L->cs.length=L.length*8/\bq cs=true
 |_,[],hh=>by rw[show _=[] from hh];exact⟨rfl,rfl⟩
 |_,_::_,⟨nm,v,rest,h1,h2,h3,h4,h5,h6⟩=>by obtain⟨i1,i2⟩:=dX.len h6;rw[h2];refine⟨by simp only[Z5,Q2,h3,i1];omega,?_⟩;rw[vB,gX h4 i2];rfl
theorem dX.snoc{nm:ah}{v:List AV}{p:List AV× Ex}(hp:p.1=[.s nm])(hv:v.length=7)(hs:bq v=true)(hB:Bx a X (.ag v) p.2):∀ {cs:List AV}{L:List (List AV× Ex)},dX a X cs L->dX a X (cs++(.s nm::v)) (L++[p])
 |_,[],hh=>by rw[show _=[] from hh];exact⟨nm,v,[],hp,by simp,hv,hs,hB,rfl⟩
 |_,_::_,⟨nm',v',rest,h1,h2,h3,h4,h5,h6⟩=>⟨nm',v',rest++(.s nm::v),h1,by rw[h2];simp,h3,h4,h5,dX.snoc hp hv hs hB h6⟩
theorem cH.ext{q:ae}(h:cH a Y v z q)(k:Kp A B a b)(hA:∀ x,x∈A->x∈Y)(hB:∀ x,x∈B->x∈Y)(hX:∀ x,x∈X->a.next<=x):cH b (X++Y) v z q:=by
 rcases h with h|⟨h0,r,g,al,q,e1,e2,e3,e4,e5,e6⟩
 ·exact .inl h
 ·refine .inr ⟨h0,r,g,al,q,e1,k.ce e2 e3 e4 (fun hh=>e5 (hA _ hh)) (fun hh=>e6 (hB _ hh)),Q0 e3 k.next,Q0 e4 k.next,fun hh=>?_,fun hh=>?_⟩
  ·rcases Q3.1 hh with hh|hh
   ·have:=hX _ hh;omega
   ·exact e5 hh
  ·rcases Q3.1 hh with hh|hh
   ·have:=hX _ hh;omega
   ·exact e6 hh
theorem Bx.ext{v:AV}(k:Kp A B a b)(hA:∀ x,x∈A->x∈Y)(hB:∀ x,x∈B->x∈Y)(hX:∀ x,x∈X->a.next<=x):∀ {x:Ex},Bx a Y v x->Bx b (X++Y) v x
 |.mk ..,⟨bv,av,lv,h1,h2,h3,h4⟩=>⟨bv,av,lv,h1,h2.ext k hA hB hX,h3.ext k hA hB hX,h4.ext k hA hB hX⟩
end
structure Lf(s:St)(lr mn mu lo:Nat)(TL U0:List ah)(n:Nat)(outs:List (List AV× Ex))(W Z:List Nat):Prop where
 h:∃ ov g cs,mK s lr mn mu TL U0 n ov/\aW s lo 8 ov outs.length cs g/\dX s (0::(Z++W)) cs outs/\W=lr::mn::mu::(eK ov++g.toList)
 lo:lr<lo/\mn<lo/\mu<lo/\lo<=s.next
 zw:∀ y∈Z,y∉W/\y<s.next/\y≠0
section
variable {mu : Nat}
theorem _root_.Go.Ev.aW.rows(h:aW s lo z v m cs g):∀ y∈eK v++g.toList,y<s.next/\lo<=y:=by
 rcases h with ⟨rfl,-,-,rfl⟩|⟨r,rfl,rfl,rfl,rfl⟩|⟨r,f,al,rfl,rfl,h1,h2,h3,h4,h5,h6,h7⟩
 ·simp[eK]
 ·simp[eK]
 ·simp[eK];omega
theorem _root_.Go.Ev.aW.put{B:List Nat}(h:aW s lo z v m cs g)(k:Kp A B s s')(hA:∀ y∈eK v++g.toList,y∉A)(hB:∀ y∈eK v++g.toList,y∉B):aW s' lo z v m cs g:=by
 rcases h with h|h|⟨r,f,al,rfl,rfl,h1,h2,h3,h4,h5,h6,h7⟩
 ·exact .inl h
 ·exact .inr (.inl h)
 ·exact .inr (.inr ⟨r,f,al,rfl,rfl,k.ce h1 h6 h7 (hA r (by simp[eK])) (hB f (by simp[eK])),h2,h3,h4,h5,Q0 h6 k.next,Q0 h7 k.next⟩)
theorem Lf.lt(h:Lf s lr mn mu lo TL U0 n outs W Z):∀ y∈W,y<s.next:=by
 obtain⟨ov,g,cs,h1,h2,h3,rfl⟩:=h.h;intro y hy;have hl:=h1.lt;simp only[Q4]at hy;rcases hy with rfl|rfl|rfl|hy
 ·exact hl.1
 ·exact hl.2.1
 ·exact hl.2.2
 ·exact(h2.rows y hy).1
theorem Lf.put{X:List Nat}(h:Lf s lr mn mu lo TL U0 n outs W Z)(k:Kp X X s s')(hX:∀ x∈X,x∈Z):Lf s' lr mn mu lo TL U0 n outs W Z:=by
 obtain⟨⟨ov,g,cs,h1,h2,h3,hW⟩,h4,h5⟩:=h;have no:∀ {y},y∈W->y∉X:=fun hy hh=>(h5 _ (hX _ hh)).1 hy
 have m0:lr∈W:=by rw[hW];simp
 have m1:mn∈W:=by rw[hW];simp
 have m2:mu∈W:=by rw[hW];simp
 have m3:∀ y∈eK ov++g.toList,y∈W:=fun y hy=>by rw[hW];simp only[Q4];exact .inr (.inr (.inr hy))
 refine⟨⟨ov,g,cs,h1.keep k (no m0) (no m1) (no m2) (no m0) (fun hh=>(h5 0 (hX _ hh)).2.2 rfl),h2.put k (fun y hy=>no (m3 y hy)) (fun y hy=>no (m3 y hy)),h3.map fun hb=>hb.keep k (fun x hx=>Q9 _ (Q1 _ (hX x hx))) (fun x hx=>Q9 _ (Q1 _ (hX x hx))),hW⟩,?_,fun y hy=>?_⟩
 ·have:=k.next;omega
 ·have:=h5 y hy;exact⟨this.1,Q0 this.2.1 k.next,this.2.2⟩
theorem Lf.kp(h:Lf s lr mn mu lo TL U0 n outs W Z)(k:Kp [] [] s s'):Lf s' lr mn mu lo TL U0 n outs W Z:=h.put k (by simp)
theorem Lf.yh{X:List Nat}(h:Lf s lr mn mu lo TL U0 n outs W Z)(k:Kp Y Y s s')(hY:∀ y∈Y,y∈Z)(hX:∀ x∈X,s.next<=x/\x<s'.next):Lf s' lr mn mu lo TL U0 n outs W (X++Z):=by
 obtain⟨⟨ov,g,cs,h1,h2,h3,hW⟩,h4,h5⟩:=h.put k hY;obtain⟨ov',g',cs',h1',h2',h3',hW'⟩:=h.h;have hl:=h.lt;have hz:=h.zw;have m0:∀ y,y=lr\/y=mn\/y=mu\/y∈eK ov'++g'.toList->y∉Y:=fun y hy hh=>(hz _ (hY _ hh)).1 (by
  rw[hW'];simp only[Q4];rcases hy with h|h|h|h
  ·exact .inl h
  ·exact .inr (.inl h)
  ·exact .inr (.inr (.inl h))
  ·exact .inr (.inr (.inr h)))
 refine⟨⟨ov',g',cs',h1'.keep k (m0 _ (.inl rfl)) (m0 _ (.inr (.inl rfl))) (m0 _ (.inr (.inr (.inl rfl)))) (m0 _ (.inl rfl)) (fun hh=>(hz 0 (hY _ hh)).2.2 rfl),h2'.put k (fun y hy=>m0 y (.inr (.inr (.inr hy)))) (fun y hy=>m0 y (.inr (.inr (.inr hy)))),h3'.map fun hb=>(hb.ext k (fun x hx=>Q9 _ (Q1 _ (hY x hx))) (fun x hx=>Q9 _ (Q1 _ (hY x hx))) (fun x hx=>(hX x hx).1)).sub fun x hx=>by simp only[Q4,Q3]at hx|-;rcases hx with h|(h|h)|h<;>simp[h],hW'⟩,h4,fun y hy=>?_⟩;rcases Q3.1 hy with hy|hy
 ·have:=hX y hy;exact⟨fun hh=>by have:=hl y hh;omega,this.2,by have:=h1'.lt;omega⟩
 ·exact h5 y hy
theorem Lf.ext{X:List Nat}(h:Lf s lr mn mu lo TL U0 n outs W Z)(k:Kp [] [] s s')(hX:∀ x∈X,s.next<=x/\x<s'.next):Lf s' lr mn mu lo TL U0 n outs W (X++Z):=h.yh k (by simp) hX
theorem Lf.sub{Y:List Nat}(h:Lf s lr mn mu lo TL U0 n outs W Z)(hY:∀ x∈Y,x∈Z):Lf s lr mn mu lo TL U0 n outs W Y:=by
 obtain⟨⟨ov,g,cs,h1,h2,h3,hW⟩,h4,h5⟩:=h;refine⟨⟨ov,g,cs,h1,h2,h3.map fun hb=>hb.sub fun x hx=>?_,hW⟩,h4,fun y hy=>h5 y (hY y hy)⟩;simp only[Q4,Q3]at hx|-;rcases hx with hx|hx|hx
 ·exact .inl hx
 ·exact .inr (.inl (hY x hx))
 ·exact .inr (.inr hx)
theorem Lf.step{TL':List ah}{n':Nat}{B:List Nat}(h:Lf s lr mn mu lo TL U0 n outs W Z)(k:Kp A B s s')(hA:∀ y∈A,y=lr\/y=mn\/y=mu)(hB:∀ y∈B,y=lr\/y=mn\/y=mu)(hl:∀ ov,mK s lr mn mu TL U0 n ov->ov.cells=some [ov]->mK s' lr mn mu TL' U0 n' ov):Lf s' lr mn mu lo TL' U0 n' outs W Z/\Kw W W s s':=by
 obtain⟨⟨ov,g,cs,h1,h2,h3,hW⟩,h4,h5⟩:=h;have hr:=h2.rows;have aA:∀ y∈A,y∈W:=fun y hy=>by rw[hW];rcases hA y hy with rfl|rfl|rfl<;>simp
 have aB:∀ y∈B,y∈W:=fun y hy=>by rw[hW];rcases hB y hy with rfl|rfl|rfl<;>simp
 refine⟨⟨⟨ov,g,cs,hl ov h1 h2.cells,h2.put k (fun y hy hh=>?_) (fun y hy hh=>?_),h3.map fun hb=>hb.keep k (fun x hx=>Q9 _ (J3 _ (aA x hx))) (fun x hx=>Q9 _ (J3 _ (aB x hx))),hW⟩,?_,fun y hy=>?_⟩,k.sub aA aB,fun _ h=>.inl h⟩
 ·have:=hr y hy;rcases hA y hh with rfl|rfl|rfl<;>omega
 ·have:=hr y hy;rcases hB y hh with rfl|rfl|rfl<;>omega
 ·have:=k.next;omega
 ·have:=h5 y hy;exact⟨this.1,Q0 this.2.1 k.next,this.2.2⟩
theorem Lf.fresh(h:Lf s lr mn mu lo TL U0 n outs W Z)(hb:bD (bW bX U0) n<1000000)(hN:2000000<=N):
  ∃ s',(Tw c N).call 88 [.p lr 0] s=some (.s (bX (bD (bW bX U0) n)),s')/\Lf s' lr mn mu lo TL U0 (bD (bW bX U0) n) outs W Z/\Kw W W s s':=by
 obtain⟨ov,g,cs,h1,h2,h3,hW⟩:=h.h;obtain⟨s',e1,e2,e3⟩:=Tu h2.cells h1 hb hN;obtain⟨q1,q2⟩:=h.step e3 (by simp) (by simp) (fun ov' g1 g2=>by obtain⟨al,c1⟩:=h1.ce;obtain⟨al',c2⟩:=g1.ce;rw[c1]at c2;simp at c2;rw[<-c2.1];exact e2);exact⟨s',e1,q1,q2⟩
theorem Lf.Sy(h:Lf s lr mn mu lo TL U0 n outs W Z)(hb:TL.length+U0.length<1000000)(hN:2000000<=N):
  ∃ s',(Tw c N).call 84 [.p lr 0] s=some (.s (dI (kW TL U0)),s')/\Lf s' lr mn mu lo (TL++[dI (kW TL U0)]) U0 n outs W Z/\Kw W W s s':=by
 obtain⟨ov,g,cs,h1,h2,h3,hW⟩:=h.h;obtain⟨s',e1,e2,e3⟩:=XX h1 hb hN;obtain⟨q1,q2⟩:=h.step e3 (by simp) (by simp) (fun ov' g1 g2=>by obtain⟨al,c1⟩:=h1.ce;obtain⟨al',c2⟩:=g1.ce;rw[c1]at c2;simp at c2;rw[<-c2.1];exact e2);exact⟨s',e1,q1,q2⟩
end
noncomputable def mv:Code->Code
 |.block _ b=>b
 |x=>x
noncomputable def jq:Code->Code
 |.loop b=>b
 |x=>x
noncomputable def dh:Nat->Code
 |0=>f54.body.getD .skip
 |k+1=>aj (dh k)
noncomputable def eU:Nat->Code
 |0=>mv (aq (aj (aj (jq (mv (aj (aq (dh 5))))))))
 |k+1=>aj (eU k)
noncomputable def uU:Array Oper:=Fre.kT (eU 5)
noncomputable def xT(l:List Oper):List Oper:=[8,9,10,11,12,13,0,1,2,3,4,5,6,7,14,15,16,17,18,19,20,21,23,24,22,25].filterMap fun i=>l[i]?
noncomputable def qt:List Oper:=xT (eZ uU.toList)
theorem SF:gO prog 174 31 1:=⟨EA,by decide,⟨_,(by kernel_rfl:bm prog 31=some [.sn]),rfl⟩,by decide,by kernel_rfl,J5 (by kernel_rfl),J5 (by kernel_rfl)⟩
theorem ab2{P:Program}{ty e:Nat}(T:gO P ty e 1){a b:AV}(hx:ai t x=a)(hy:ai t y=b)(ha:a.cells=some [a])(hb:b.cells=some [b]):
  bH (.buildSlice ty 2 #[(0,x),(1,y)]) P S t st=some (.sl st.next 0 2 1 (some 2),st.aw [a,b]):=by
 obtain⟨zs,hzz,hzl⟩:=T.zero;obtain⟨z0,rfl⟩:=DE hzl;show(match ez P ty with
 |none=>none
 |some e=>match bm P e with
  |none=>none
  |some z=>(@Bool.rec (fun _=>aR) none (uq st 2 (aD P e) (fill (jB (aD P e)) (rep 2 z) [(0,ai t x),(1,ai t y)])) (Nat.ble (2*aD P e) 16777216)))=_
 rw[T.el,hx,hy];simp only[hzz,T.sl.sz];have h2:fill (jB 1) (rep 2 [z0]) [(0,a),(1,b)]=some [a,b]:=by simp only[fill,jB,ha,hb];rfl
 show uq st 2 1 (fill (jB 1) (rep 2 [z0]) [(0,a),(1,b)])=_
 rw[h2];rfl
theorem ach:∃ fs,prog.underlying 35=some (.struct fs)/\gM prog fs 0=some (0,1)/\gM prog fs 3=some (3,1)/\gM prog fs 5=some (5,1):=
 ⟨_,underlying35,by kernel_rfl,by kernel_rfl,by kernel_rfl⟩
theorem Zp{w:Operand}{p a:AV}(hx:ai t x=.i .i64 k)(hy:ai t y=p)(hz:ai t w=a)(hp:p.cells=some [p])(ha:a.cells=some [a]):bH (.build 35 #[(0,x),(3,y),(5,w)]) prog S t st=some (.ag [.i .i64 k,.s [],.i .i64 0,p,.sn,a,.sn],st):=by
 obtain⟨fs,h1,h2,h3,h4⟩:=ach;show @Bool.rec (fun _=>aR) none (df prog 35 [(0,ai t x),(3,ai t y),(5,ai t w)] st) (fu prog 35)=_
 rw[yF,hx,hy,hz];show df prog 35 _ st=_
 unfold df;rw[h1];simp only[sQ,iQ,jg,fill,h2,h3,h4,yk,hp,ha];rfl
theorem _root_.Go.Ev.aW.cat(h:aW st lo z v n cs g)(hs:bq cs=true)(hp:aQ cs=true):jw st z v n cs:=by
 rcases h with ⟨rfl,rfl,rfl,-⟩|⟨r,rfl,rfl,rfl,-⟩|⟨r,f,al,-,rfl,h1,h2,h3,h4,h5,h6,h7⟩
 ·exact⟨rfl,rfl,rfl,by simp,rfl,by simp,rfl,rfl,fun s _=>rfl⟩
 ·exact⟨rfl,rfl,rfl,by simp,rfl,by simp,rfl,rfl,fun s _=>rfl⟩
 ·refine⟨rfl,rfl,rfl,by simp,rfl,h2,hs,hp,fun s hk=>?_⟩;have:Nat.beq n 0=false:=by rw[bu];simp;omega
  show @Bool.rec (fun _=>Option (List AV)) (rd s r 0 (n*z)) (some []) (Nat.beq n 0)=_
  rw[this];show rd s r 0 (n*z)=_
  rw[au (hk.ce h1 h6 h7 (by simp) (by simp)),cQ,<-h2,dD]
theorem jw.isl{l:List ah}(h:de v (l.map .s)):jw st 1 v l.length (l.map .s):=by
 obtain⟨h1,h2,h3⟩:=EN (st:=st) h;rw[Z8]at h1;refine⟨h1,h.text,h3,qD h,Ph h,by simp,uD l,jD l,fun s _=>?_⟩;have:=(EN (st:=s) h).2.1
 rwa [Z8]at this
def qW(own:List ah)(pl:List ah)(body:Ex):Ex:=.mk 5 [] 0 (cG (own++pl)) (.nil true) (aX [([],body)]) (.nil true)
theorem Om{l:List ah}(h:1<=l.length):cG l=.rs (l.map .s) l.length 1:=by
 cases l with
 |nil=>simp at h
 |cons s l=>rfl
theorem aaC{mu:Nat}{rN r9 r14:Nat}{nv ow psv:AV}{gs own pl:List ah}{c9:List AV}{body:Ex}{g2:Option Nat}(t0:ab t 0=.p lr 0)(t6:ab t 6=.p rN 0)(t8:ab t 8=.i .i64 (i:Int))(t9:ab t 9=.p r9 0)(t11:ab t 11=ow)(t14:ab t 14=.p r14 0)
  (hL:Lf s lr mn mu lo TL U0 n outs W Z) (ho:outs.length<=1000000) (hN:bA s [] rN [nv]) (hG:eV s [] nv gs) (hi:i<gs.length) (h9:bA s [] r9 c9) (h94:cut c9 4 1=some [psv]) (hps:de psv (pl.map .s)) (h1:1<=pl.length) (hl:pl.length+own.length<=1000) (hO:aW s lo2 1 ow own.length (own.map .s) g2) (h14:bA s [] r14 body.cells) (_:body.Ty) (hM:4000000<=N):
  ∃ t' s' W',kc ⟨prog,Tw c (N+2),false,f54.ntmps,N+2⟩ uU t s=.nx t' s'/\(ab t' 0=ab t 0/\ab t' 3=ab t 3/\ab t' 4=ab t 4/\ab t' 5=ab t 5/\ab t' 6=ab t 6/\ab t' 7=ab t 7/\ab t' 31=ab t 31/\ab t' 32=ab t 32/\ab t' 33=ab t 33)/\Lf s' lr mn mu lo TL U0 n (outs++[([.s gs[i]],qW own pl body)]) W' Z/\Kw W W' s s':=by
 obtain⟨ov,g,cs,f1,f2,f3,hW⟩:=hL.h;obtain⟨al,c0⟩:=f1.ce;have flt:=f1.lt;have fne:=f1.ne;have fz:=f1.z;have flo:=hL.lo;obtain⟨flen,fsc⟩:=f3.len;have hWl:=hL.lt;have q94:rd s r9 4 1=some [psv]:=by rw[h9.rd,h94]
 have C1:=hO.cat (uD own) (jD own);have C2:=jw.isl (st:=s) hps;have b2:=fun(t:Tr AV) (e1:ai t (.tmp 73)=ow) (e2:ai t (.tmp 76)=psv)=>ab2 (S:=Tw c (N+2)) (st:=s) SF (x:=.tmp 73) (y:=.tmp 76) e1 e2 C1.cells C2.cells
 have k1:Kp [] [] s (s.aw [ow,psv]):=.aw _ _ _;have A1:=bA.new s [] [ow,psv] (by simp);obtain⟨s1,hs1⟩:∃ s1,s.aw [ow,psv]=s1:=⟨_,rfl⟩;obtain⟨r1,hr1⟩:∃ r,s.next=r:=⟨_,rfl⟩;rw[hs1]at k1 A1 b2;rw[hr1]at A1 b2;have hks:cu [(ow,own.length,own.map .s),(psv,pl.length,pl.map .s)]=(own++pl).length:=by
  show own.length+(pl.length+0)=_
  rw[Q2];omega
 have hkc:gu [(ow,own.length,own.map AV.s),(psv,pl.length,pl.map .s)]=(own++pl).map .s:=by simp[gu]
 obtain⟨s2,v2,k2⟩:=aaV (c:=c) (st:=s1) (vs:=[(ow,own.length,own.map .s),(psv,pl.length,pl.map .s)]) (by
  intro q hq;simp only[Q4,V0,or_false]at hq;rcases hq with rfl|rfl
  ·exact C1.keep k1
  ·exact C2.keep k1) (r:=r1) (q:=some 2) A1 (by simp) (by rw[hks,Q2];omega) (by rw[hks,Q2];omega) (N:=N) (by omega)
 rw[hks,hkc,<-Om (by rw[Q2];omega)]at v2;have v2:(Tw c (N+2)).call 91 [.sl r1 0 2 1 (some 2)] s1=some (cG (own++pl),s2):=v2;have sN:(cG (own++pl)).cells=some [cG (own++pl)]/\bS (cG (own++pl))=true:=by rw[Om (by rw[Q2];omega)];simp
 have K2:=k1.trans k2;have n2:=K2.next;have c2:=K2.ce c0 flt.1 flt.1 (by simp) (by simp);have ro:rd s2 lr 2 1=some [ov]:=by rw[au c2];rfl
 have ro':rd s lr 2 1=some [ov]:=by rw[au c0];rfl
 have rn:rd s2 rN 0 1=some [nv]:=by rw[(hN.keep K2 (by simp) (by simp)).rd];rfl
 have rn':rd s rN 0 1=some [nv]:=by rw[hN.rd];rfl
 obtain⟨ag,ixg,ldg⟩:=hG.at hi;have lg:=ldg [] [] s2 K2 (by simp) (by simp);have lg':=ldg [] [] s (.refl _ _ _) (by simp) (by simp);have r14':rd s2 r14 0 7=some body.cells:=by rw[(h14.keep K2 (by simp) (by simp)).rd,cQ,<-body.aO,dD]
 have r14'':rd s r14 0 7=some body.cells:=by rw[h14.rd,cQ,<-body.aO,dD]
 have b3:=fun(t:Tr AV) (e1:ai t (.tmp 79)=.ag body.cells)=>gT (S:=Tw c (N+2)) (t:=t) (st:=s2) lX (x:=.tmp 79) (cs:=body.cells) (by rw[e1];exact j9 _) body.aO
 have k3:Kp [] [] s2 (s2.aw body.cells):=.aw _ _ _;have c3:=cz (st:=s2) body.cells;obtain⟨s3,hs3⟩:∃ s3,s2.aw body.cells=s3:=⟨_,rfl⟩;obtain⟨r3,hr3⟩:∃ r,s2.next=r:=⟨_,rfl⟩;have n3:s3.next=r3+1:=by rw[<-hs3,<-hr3];rfl
 rw[hs3]at k3 c3 b3;rw[hr3]at c3 b3;obtain⟨lc,hlc⟩:∃ lc:List AV,[AV.i .i64 5,.s [],.i .i64 0,cG (own++pl),.sn,.sl r3 0 1 7 (some 1),.sn]=lc:=⟨_,rfl⟩;have hl7:lc.length=7:=by rw[<-hlc];rfl
 have hls:bq lc=true:=by rw[<-hlc];simp[sN.2]
 have b4:=fun(t:Tr AV) (e1:ai t (.tmp 78)=cG (own++pl)) (e2:ai t (.tmp 80)=.sl r3 0 1 7 (some 1))=>Zp (S:=Tw c (N+2)) (st:=s3) (t:=t) (x:=.const (.int .i64 5)) (y:=.tmp 78) (w:=.tmp 80) (k:=5) rfl e1 e2 sN.1 (by simp)
 rw[hlc]at b4;have b5:=fun(t:Tr AV) (e1:ai t (.tmp 72)=.s gs[i]) (e2:ai t (.tmp 81)=.ag lc)=>yD (S:=Tw c (N+2)) (st:=s3) (t:=t) (x:=.tmp 72) (y:=.tmp 81) e1 e2 hl7
 have K3:=K2.trans k3;have ln:=fun s:St=>aY (P:=prog) (st:=s) underlying23 f2.len.1 f2.len.2
 have f23:=f2.put K3 (by simp) (by simp);obtain⟨v',g',s4,w1,w2,w3,w4,-,r0,m0,hr0,hr0l⟩:=f23.zT mJ (new:=jr) rfl rfl (by omega) (by have:=K3.next;omega);have hcl:(AV.s gs[i]::lc).length=8:=by rw[Z5,hl7]
 obtain⟨r,f,s5,hg',q2,q3,q4,q5,q6,q7,q8,q9,q10,al1,q11⟩:=Ox fG w2 flen rfl hcl (by rw[vB,hls];rfl);subst hg';have b6:=fun(t:Tr AV)=>gT (S:=Tw c (N+2)) (t:=t) (st:=s3) mJ (x:=.const (.agg #[.string ⟨#[]⟩,.int .i64 0,.string ⟨#[]⟩,.int .i64 0,.slice none 0 0,.slice none 0 0,.slice none 0 0,.slice none 0 0])) (cs:=jr) (by rfl) rfl
 have er:r0=r:=by rw[hr0]at q10;cases q10;rfl
 subst er;have n4:=w3.next;have hgl:∀ x∈g.toList,lo<=x/\x<s.next:=fun x hx=>f2.fJ x (by simpa using hx)
 have hlr:lr∉g.toList:=fun hh=>by have:=hgl _ hh;omega
 have c3':=k3.ce c2 (by omega) (by omega) (by simp) (by simp);have c4:=w3.ce c3' (by omega) (by omega) (by simp) hlr;have hne:lr≠r0:=by omega
 have hnf:lr≠f:=by omega
 have c5:=q9.ce c4 (by omega) (by omega) (by simpa using hne) (by simpa using hnf);have hwA:=bP c5 2 [v'] (by simp) (by rw[q10];rfl);have k6:Kp [lr] [lr] s5 (s5.ax lr [.m mn,.m mu,v',.i .i64 (n:Int)] lr):=.ax (by simp) (by simp);have hwA:wt s5 lr 2 [v']=some (s5.ax lr [.m mn,.m mu,v',.i .i64 (n:Int)] lr):=hwA;have hwB:=bP c4 2 [v'] (by simp) (by rw[q10];rfl);have hwB:wt s4 lr 2 [v']=some (s4.ax lr [.m mn,.m mu,v',.i .i64 (n:Int)] lr):=hwB;have kB:Kp [lr] [lr] s4 (s4.ax lr [.m mn,.m mu,v',.i .i64 (n:Int)] lr):=.ax (by simp) (by simp);have B1:=kB.ce q11 q3 q5 (by simp;exact fun h=>hne h.symm) (by simp;exact fun h=>hnf h.symm);have hwB2:=bP B1 (outs.length*8) (.s gs[i]::lc) (by rw[Q2,flen,hcl];exact J9 _) (by rw[vB,hls];rfl);have sto:=db nH pI s5 lr 2 v' w2.cells;have stoB:=db nH pI s4 lr 2 v' w2.cells;have sx:=aI dn cV s4 r0 (outs.length*8) (.s gs[i]::lc) hcl;have sxB:=aI dn cV (s4.ax lr [.m mn,.m mu,v',.i .i64 (n:Int)] lr) r0 (outs.length*8) (.s gs[i]::lc) hcl;have eA:∃ t',bR prog (Tw c (N+2)) f54.ntmps qt.toArray qt t s=.nx t' (s5.ax lr [.m mn,.m mu,v',.i .i64 (n:Int)] lr)/\(ab t' 0=ab t 0/\ab t' 3=ab t 3/\ab t' 4=ab t 4/\ab t' 5=ab t 5/\ab t' 6=ab t 6/\ab t' 7=ab t 7/\ab t' 31=ab t 31/\ab t' 32=ab t 32/\ab t' 33=ab t 33):=by simp[qt,xT,eZ,strip,uU,eU,mv,jq,dh,Fre.kT,aq,aj,f54,t0,t6,t8,t9,t11,t14,aH,q94,b2,v2,ro,rn,ixg,lg,r14',b3,b4,b5,ln,b6,w1,q6,sx,q7,sto,hwA]
 have eB:∃ t' s',bR prog (Tw c (N+2)) f54.ntmps (lZ 24 qt).toArray (lZ 24 qt) t s=.nx t' s':=by simp[qt,lZ,xT,eZ,strip,uU,eU,mv,jq,dh,Fre.kT,aq,aj,f54,t0,t6,t8,t9,t11,t14,aH,q94,b2,v2,ro,rn,ixg,lg,r14',b3,b4,b5,ln,b6,w1,q6,stoB,hwB,sxB,hwB2]
 obtain⟨tA,eA,eT⟩:=eA;obtain⟨tB,sB,eB⟩:=eB;have hD:=LX (x:=⟨prog,Tw c (N+2),false,f54.ntmps,N+2⟩) (ops:=uU) (L:=qt) (LB:=lZ 24 qt) (fl:=[(9,0),(10,0),(13,0),(14,0),(18,0),(18,6)]) (flB:=[(9,0),(10,0),(13,0),(14,0),(18,0),(18,6)]) (k:=24) (t:=t) (st:=s) (by kernel_rfl) (by kernel_rfl) (by kernel_rfl) (by kernel_rfl) eA eB (by
  intro R hR;simp[qt,xT,eZ,strip,uU,eU,mv,jq,dh,Fre.kT,aq,aj,f54,t0,t6,t8,t9,t11,t14,aH,q94,b2,v2,ro,rn,ixg,lg,r14',b3,b4,b5,ln,b6,w1,q6,sx,q7,sto,hwA]at hR;subst hR;refine⟨?_,by simp[qL,Eh,qt,xT,eZ,strip,uU,eU,mv,jq,dh,Fre.kT,aq,aj,f54,AV.bW,c4,q11,bu,Ne.symm hne,Ne.symm hnf]⟩;simp only[Q6,Q7,Q8,Z4];refine⟨bV rfl rfl rfl (s:=s) ?_,bV rfl rfl rfl (s:=s) ?_,bV rfl rfl rfl (s:=s) ?_,bV rfl rfl rfl (s:=s) ?_,bV rfl rfl rfl (s:=s) ?_,bV rfl rfl rfl (s:=s2) ?_⟩
  ·show bH (.load 23 (.tmp 67)) prog (Tw c (N+2)) _ s=_
   simp[ro']
  ·show bH (.load 31 (.tmp 6)) prog (Tw c (N+2)) _ s=_
   simp[t6,rn']
  ·show bH (.load 9 (.tmp 71)) prog (Tw c (N+2)) _ s=_
   simp[lg']
  ·show bH (.load 35 (.tmp 14)) prog (Tw c (N+2)) _ s=_
   simp[t14,aH,r14'']
  ·show bH (.call { callee:=.builtin .len,args:=#[.tmp 68],argTypes:=#[23] }) prog (Tw c (N+2)) _ s=_
   simp[ln]
  ·show bH (.call { callee:=.builtin .len,args:=#[.tmp 68],argTypes:=#[23] }) prog (Tw c (N+2)) _ s2=_
   simp[ln]) (by
  intro R hR;simp[lZ,qt,xT,eZ,strip,uU,eU,mv,jq,dh,Fre.kT,aq,aj,f54,t0,t6,t8,t9,t11,t14,aH,q94,b2,v2,ro,rn,ixg,lg,r14',b3,b4,b5,ln,b6,w1,q6,stoB,hwB,sxB,hwB2]at hR;subst hR;simp only[Q6,Q7,Q8,Z4];refine⟨bV rfl rfl rfl (s:=s) ?_,bV rfl rfl rfl (s:=s) ?_,bV rfl rfl rfl (s:=s) ?_,bV rfl rfl rfl (s:=s) ?_,bV rfl rfl rfl (s:=s) ?_,bV rfl rfl rfl (s:=s2) ?_⟩
  ·show bH (.load 23 (.tmp 67)) prog (Tw c (N+2)) _ s=_
   simp[ro']
  ·show bH (.load 31 (.tmp 6)) prog (Tw c (N+2)) _ s=_
   simp[t6,rn']
  ·show bH (.load 9 (.tmp 71)) prog (Tw c (N+2)) _ s=_
   simp[lg']
  ·show bH (.load 35 (.tmp 14)) prog (Tw c (N+2)) _ s=_
   simp[t14,aH,r14'']
  ·show bH (.call { callee:=.builtin .len,args:=#[.tmp 68],argTypes:=#[23] }) prog (Tw c (N+2)) _ s=_
   simp[ln]
  ·show bH (.call { callee:=.builtin .len,args:=#[.tmp 68],argTypes:=#[23] }) prog (Tw c (N+2)) _ s2=_
   simp[ln])
 have hf:f∈g.toList\/s3.next<=f:=by
  rcases w4 with h|⟨z,h,hz⟩
  ·left;rw[<-h];simp
  ·right;cases h;exact hz
 have n5:=q9.next;have n6:=k6.next;have k03:=K3.next;have K34:Kp [lr] (lr::g.toList) s s4:=(K3.sub (by simp) (by simp)).trans (w3.sub (by simp) (fun _ h=>Q9 _ h));have KA:Kp [lr] (lr::g.toList) s (s5.ax lr [.m mn,.m mu,v',.i .i64 (n:Int)] lr):=ig (ig K34 q9 (by simp;omega) (fun x hx=>by
  rw[V9.1 hx];rcases hf with h|h
  ·exact .inl (Q9 _ h)
  ·exact .inr (by omega))) k6 (by simp) (by simp)
 obtain⟨s6,hs6⟩:∃ s6,s5.ax lr [.m mn,.m mu,v',.i .i64 (n:Int)] lr=s6:=⟨_,rfl⟩;have c6:=cj lr [.m mn,.m mu,v',.i .i64 (n:Int)] lr (st:=s5);rw[hs6]at c6 KA k6 hD n6;have mW:∀ y,y=lr\/y=mn\/y=mu\/y∈g.toList->y∈W:=fun y hy=>by
  rw[hW];rcases hy with rfl|rfl|rfl|hy
  ·simp
  ·simp
  ·simp
  ·simp only[Q4,Q3];exact .inr (.inr (.inr (.inr hy)))
 have oV:eK v'=[r0]:=by rw[q10];rfl
 have KW:Kw W (lr::mn::mu::(eK v'++(some f).toList)) s s6:=⟨KA.sub (by simp;exact mW _ (.inl rfl)) (fun x hx=>by
  rcases Q4.1 hx with rfl|hx
  ·exact mW _ (.inl rfl)
  ·exact mW _ (.inr (.inr (.inr hx)))),fun y hy=>by
  rw[oV]at hy;simp only[Q4,Q3,V0,or_false,X0]at hy;rcases hy with rfl|rfl|rfl|rfl|rfl
  ·exact .inl (mW _ (.inl rfl))
  ·exact .inl (mW _ (.inr (.inl rfl)))
  ·exact .inl (mW _ (.inr (.inr (.inl rfl))))
  ·exact .inr (by omega)
  ·rcases hf with h|h
   ·exact .inl (mW _ (.inr (.inr (.inr h))))
   ·exact .inr (by omega)⟩
 have c36:s6.ce r3=some (body.cells,r3,[r3]):=by
  have e1:=w3.ce c3 (by omega) (by omega) (by simp) (fun hh=>by have:=hgl _ hh;omega);have e2:=q9.ce e1 (by omega) (by omega) (by simp;omega) (by
   simp only[V9];rcases hf with h|h
   ·have:=hgl _ h;omega
   ·omega)
  exact k6.ce e2 (by omega) (by omega) (by simp;omega) (by simp;omega)
 refine⟨tA,s6,lr::mn::mu::(eK v'++(some f).toList),hD,eT,⟨⟨v',some f,cs++(.s gs[i]::lc),?_,?_,?_,rfl⟩,?_,fun y hy=>?_⟩,KW⟩
 ·obtain⟨ty,ht⟩:=f1.tab;exact⟨⟨_,c6⟩,by omega,fne,fz,f1.mT.keep KA flt.2.1 (by simpa using fne.1.symm),f1.mU.keep KA flt.2.2 (by simpa using fne.2.1.symm),⟨ty,by rw[KA.get 0 (by omega) (by simp;omega)];exact ht⟩⟩
 ·have:=q8.keep k6 (by simp;omega) (by simp;exact .inl flo.1);rw[Q2];exact this
 ·refine dX.snoc rfl hl7 hls ?_ (f3.map fun hb=>hb.kw (xY (X:=[0]) (xY KW)));rw[<-hlc];have nin:r3∉0::(Z++lr::mn::mu::(eK v'++(some f).toList)):=fun hh=>by
   rcases Q3.1 ((Q4.1 hh).resolve_left (by omega)) with hh|hh
   ·have:=(hL.zw _ hh).2.1;omega
   ·rw[oV]at hh;simp only[Q4,Q3,V0,or_false,X0]at hh;rcases hf with h|h
    ·have:=hgl _ h;omega
    ·omega
  exact⟨.sn,.sl r3 0 1 7 (some 1),.sn,rfl,.inl rfl,.inr ⟨by simp[aX,ae.len],r3,r3,[r3],some 1,by simp[aX,ae.len],by simpa[aX,ae.flat]using c36,by omega,by omega,nin,nin⟩,.inl rfl⟩
 ·omega
 ·have:=hL.zw y hy;refine⟨fun hh=>?_,by omega,this.2.2⟩;rcases KW.2 y hh with h|h
  ·exact this.1 h
  ·omega
section
variable {mu : Nat}
theorem Lf.QO{j:Nat}(hL:Lf s lr mn mu lo TL U0 n outs W (g.toList++Z))(hO:aW s lo2 1 v j cs g)(x:ah)(hj:j<1000000)(hlo:lo2<=s.next):
  ∃ v' g' s',gS prog (s.aw [.s x]) [31,31] [v,.sl s.next 0 1 1 (some 1)]=some (v',s')/\aW s' lo2 1 v' (j+1) (cs++[.s x]) g'/\Lf s' lr mn mu lo TL U0 n outs W (g'.toList++Z)/\Kw (g.toList++W) (g'.toList++W) s s':=by
 obtain⟨v',g',s',w1,w2,w3,w4⟩:=hO.mc fM (new:=[.s x]) rfl rfl (by omega) hlo;have kY:Kp g.toList g.toList s s':=w3.sub (by simp) (fun _ h=>h);refine⟨v',g',s',w1,w2,?_,kY.sub (fun _ h=>Q1 _ h) (fun _ h=>Q1 _ h),fun y hy=>?_⟩
 ·rcases w4 with rfl|⟨z,rfl,hz⟩
  ·exact hL.put kY (fun y hy=>Q1 _ hy)
  ·have hz':z<s'.next:=(w2.fJ z rfl).2;exact(hL.yh (X:=[z]) kY (fun y hy=>Q1 _ hy) (by simp;omega)).sub (fun y hy=>by
    rcases Q3.1 hy with hy|hy
    ·exact Q1 _ hy
    ·exact J3 _ (J3 _ hy))
 ·rcases Q3.1 hy with hy|hy
  ·rcases w4 with rfl|⟨z,rfl,hz⟩
   ·exact .inl (Q1 _ hy)
   ·have:y=z:=by simpa using hy
    exact .inr (by omega)
  ·exact .inl (J3 _ hy)
end
theorem eV.kw{l:List ah}{b:St}(h:eV a W w l)(k:Kw W W' a b):eV b W' w l:=by
 rcases h with h|⟨r,f,al,q,rest,h1,h2,h3,h4,h5,h6⟩
 ·exact .inl h
 ·exact .inr ⟨r,f,al,q,rest,h1,k.ce h2 h3 h4 h5 h6,Q0 h3 k.1.next,Q0 h4 k.1.next,k.out h3 h5,k.out h4 h6⟩
theorem eV.sub{X:List Nat}{l:List ah}(h:eV st X w l)(hs:∀ x,x∈Y->x∈X):eV st Y w l:=by
 rcases h with h|⟨r,f,al,q,rest,h1,h2,h3,h4,h5,h6⟩
 ·exact .inl h
 ·exact .inr ⟨r,f,al,q,rest,h1,h2,h3,h4,fun hh=>h5 (hs _ hh),fun hh=>h6 (hs _ hh)⟩
theorem bA.sub{X:List Nat}{l:List AV}(h:bA st X r l)(hs:∀ x,x∈Y->x∈X):bA st Y r l:=by obtain⟨g,al,h1,h2,h3,h4,h5⟩:=h;exact⟨g,al,h1,h2,h3,fun hh=>h4 (hs _ hh),fun hh=>h5 (hs _ hh)⟩
def du(U0:List ah)(n:Nat):Nat->Nat
 |0=>n
 |j+1=>bD (bW bX U0) (du U0 n j)
def oQ(U0:List ah)(n j:Nat):List ah:=(List.range j).map fun i=>bX (du U0 n (i+1))
theorem PZ(U0:List ah)(n j:Nat):oQ U0 n (j+1)=oQ U0 n j++[bX (du U0 n (j+1))]:=by unfold oQ;rw[List.range_succ,J8];rfl
theorem OI(U0:List ah)(n j:Nat):(oQ U0 n j).length=j:=by simp[oQ]
def rJ(U0:List ah)(n:Nat)(fr:List ah):Nat->ah->Option ah
 |0=>fun _=>none
 |j+1=>fun y=>if y=fr.getD j [] then some (bX (du U0 n (j+1))) else rJ U0 n fr j y
theorem DF(U0:List ah)(n:Nat):∀ j,bG (bW bX U0) (du U0 n j)<=bG (bW bX U0) n+j
 |0=>J9 _
 |j+1=>by have h1:=DF U0 n j;have h2:=wJ (bW bX U0) (du U0 n j);simp only[du];omega
structure CT(s0 s:St)(t:Tr AV)(lr mn mu lo lo2 n:Nat)(TL U0:List ah)(outs:List (List AV× Ex))(W Z:List Nat)(mt r10:Nat)(fr:List ah)(j:Nat):Prop where
 h:∃ g,aW s lo2 1 (ab t 11) j ((oQ U0 n j).map .s) g/\Lf s lr mn mu lo TL U0 (du U0 n j) outs W (g.toList++mt::Z)/\Kw (mt::W) (mt::(g.toList++W)) s0 s/\bA s (mt::(g.toList++W)) r10 [.m mt]
 m:cS s mt (fun y=>(rJ U0 n fr j y).map .s)
 ml:mt<s.next
 lo:lo2<=s.next
theorem ko{b:St}(h:Kw W W' a b)(x:Nat):Kw (x::W) (x::W') a b:=xY (X:=[x]) h
theorem IU{G:List Nat}{b:St}(h:Kw W W' a b):Kw (G++W) (G++W') a b:=xY h
theorem SO{mu:Nat}{mt r10 rF:Nat}{fv:AV}{fr:List ah}(hL:Lf s lr mn mu lo TL U0 n outs W (mt :: Z))(hF:bA s (mt :: W) rF [fv])(hS:eV s (mt :: W) fv fr)(h10:bA s (mt :: W) r10 [.m mt])(hm:cS s mt (fun _=>none))(hml:mt < s.next)(t0:ab t 0 = .p lr 0)(t5:ab t 5 = .p rF 0)(t10:ab t 10 = .p r10 0)(t11:ab t 11 = .sn)(hp:bG (bW bX U0) n+fr.length < 1000000)(hl:fr.length≤1000)(hN:4000000≤N) :
  ∃ t' s',ao (aq (eU 3)) ⟨prog,Tw c N,false,f54.ntmps,N⟩ t s=.nx t' s'/\(ab t' 0=ab t 0/\ab t' 3=ab t 3/\ab t' 4=ab t 4/\ab t' 5=ab t 5/\ab t' 6=ab t 6/\ab t' 7=ab t 7/\ab t' 31=ab t 31/\ab t' 32=ab t 32/\ab t' 33=ab t 33/\ab t' 8=ab t 8/\ab t' 9=ab t 9/\ab t' 10=ab t 10)/\CT s s' t' lr mn mu lo s.next n TL U0 outs W Z mt r10 fr fr.length:=by
 obtain⟨x3,hx3⟩:∃ x,ab t 3=x:=⟨_,rfl⟩;obtain⟨x4,hx4⟩:∃ x,ab t 4=x:=⟨_,rfl⟩;obtain⟨x6,hx6⟩:∃ x,ab t 6=x:=⟨_,rfl⟩;obtain⟨x7,hx7⟩:∃ x,ab t 7=x:=⟨_,rfl⟩;obtain⟨x31,hx31⟩:∃ x,ab t 31=x:=⟨_,rfl⟩;obtain⟨x32,hx32⟩:∃ x,ab t 32=x:=⟨_,rfl⟩;obtain⟨x33,hx33⟩:∃ x,ab t 33=x:=⟨_,rfl⟩;obtain⟨x8,hx8⟩:∃ x,ab t 8=x:=⟨_,rfl⟩;obtain⟨x9,hx9⟩:∃ x,ab t 9=x:=⟨_,rfl⟩;have rf:rd s rF 0 1=some [fv]:=by rw[hF.rd];rfl
 rw[t0,t5,t10,hx3,hx4,hx6,hx7,hx31,hx32,hx33,hx8,hx9];simp[eU,mv,jq,dh,aq,aj,f54,t5,rf,hS.len,bw];generalize hLL:bf _ _ _ _=L;obtain⟨t1,s1,rfl,u,uI⟩:=dy hLL 4 fr.length
  (fun j t' s'=>(ab t' 0=.p lr 0/\ab t' 3=x3/\ab t' 4=x4/\ab t' 5=.p rF 0/\ab t' 6=x6/\ab t' 7=x7/\ab t' 31=x31/\ab t' 32=x32/\ab t' 33=x33/\ab t' 8=x8/\ab t' 9=x9/\ab t' 10=.p r10 0)/\ab t' 39=fv/\ab t' 40=.i .i64 (fr.length:Int)/\ab t' 41=.i .i64 (j:Int)/\CT s s' t' lr mn mu lo s.next n TL U0 outs W Z mt r10 fr j)
  (fun t' s'=>(ab t' 0=.p lr 0/\ab t' 3=x3/\ab t' 4=x4/\ab t' 5=.p rF 0/\ab t' 6=x6/\ab t' 7=x7/\ab t' 31=x31/\ab t' 32=x32/\ab t' 33=x33/\ab t' 8=x8/\ab t' 9=x9/\ab t' 10=.p r10 0)/\CT s s' t' lr mn mu lo s.next n TL U0 outs W Z mt r10 fr fr.length) (by omega)
  ⟨by simp[t0,t5,t10,hx3,hx4,hx6,hx7,hx31,hx32,hx33,hx8,hx9],by simp,by simp,by simp,⟨none,by simpa[t11,oQ]using aW.nil s s.next 1,by simpa[du]using hL,by simpa using Kw.refl _ _,by simpa using h10⟩,hm,hml,J9 _⟩
  (by
   rintro j t' s' hj ⟨⟨i0,i3,i4,i5,i6,i7,i31,i32,i33,i8,i9,i10⟩,i39,il,ii,⟨g,iO,iL,iK,iA⟩,iM,iml,ilo⟩;clear hLL;have e5:(j:Int)<(fr.length:Int):=by omega
   have e7:wr .i64 ((j:Int)+1)=((j+1:Nat):Int):=by rw[aZ (by omega) (by omega)];rfl
   obtain⟨a0,ix,ldx⟩:=(hS.kw iK).at hj;have ldi:=ldx [] [] s' (.refl _ _ _) (by simp) (by simp);obtain⟨va,hva⟩:∃ va,ab t' 11=va:=⟨_,rfl⟩;rw[hva]at iO;have hpot:=DF U0 n (j+1);have hle:=oM (bW bX U0) (du U0 n (j+1));have hb:bD (bW bX U0) (du U0 n j)<1000000:=by have:du U0 n (j+1)=bD (bW bX U0) (du U0 n j):=rfl;omega
   obtain⟨s2,q1,q2,q3⟩:=iL.fresh (c:=c) hb (N:=N) (by omega);have q2:Lf s2 lr mn mu lo TL U0 (du U0 n (j+1)) outs W (g.toList++mt::Z):=q2;obtain⟨nm,hnm⟩:∃ nm,bX (du U0 n (j+1))=nm:=⟨_,rfl⟩;rw[show bX (bD (bW bX U0) (du U0 n j))=nm from hnm]at q1;have mtW:mt∉W:=(iL.zw mt (by simp)).1;have q3':Kw (mt::(g.toList++W)) (mt::(g.toList++W)) s' s2:=ko (IU q3) mt;have m2:=iM.keep q3.1 iml mtW;have n2:=q3.1.next;have ilg:=iL.zw;have hlo2:∀ y∈eK va++g.toList,s.next<=y:=fun y hy=>(iO.rows y hy).2
   have O2:=iO.put q3.1 (fun y hy hh=>by have:=hlo2 y hy;have:=hL.lt y hh;omega) (fun y hy hh=>by have:=hlo2 y hy;have:=hL.lt y hh;omega);obtain⟨s3,u1,u2,u3,u4⟩:=m2.set FU fr[j] (.s nm);have lk:=u2.get FU fr[j];rw[HG]at lk;have L3:=q2.put (X:=[mt]) (u3.sub (by simp) (by simp)) (by simp);have O3:=O2.put u3 (fun y hy hh=>by have:=hlo2 y hy;simp at hh;omega) (by simp);have K3:Kw (mt::(g.toList++W)) (mt::(g.toList++W)) s2 s3:=⟨u3.sub (by simp) (by simp),fun _ h=>.inl h⟩;obtain⟨v',g',s4,w1,w2,w3,w4⟩:=L3.QO O3 nm (by omega) (by omega);have K4:=ko w4 mt;have mtg:mt∉g.toList++W:=fun hh=>by
    rcases Q3.1 hh with hh|hh
    ·have:=hlo2 mt (J3 _ hh);omega
    ·exact mtW hh
   have m4:=u2.keep w4.1 (by omega) mtg;have hto:upd (fun y=>(rJ U0 n fr j y).map .s) fr[j] (.s nm)=fun y=>(rJ U0 n fr (j+1) y).map .s:=by
    funext y;have e1:fr.getD j []=fr[j]:=by simp[List.getD,hj]
    simp only[upd,rJ,e1,hnm];split<;>rfl
   rw[hto]at m4;have r10':rd s' r10 0 1=some [.m mt]:=by rw[iA.rd];rfl
   have A2:=iA.kw q3';have r102:rd s2 r10 0 1=some [.m mt]:=by rw[A2.rd];rfl
   have A3:=A2.kw K3;have r103:rd s3 r10 0 1=some [.m mt]:=by rw[A3.rd];rfl
   have bo:=fun(t:Tr AV) (h:ai t (.tmp 52)=.s nm)=>gT (S:=Tw c N) (t:=t) (st:=s3) fM (x:=.tmp 52) (cs:=[.s nm]) (by rw[h];simp) rfl
   have n4:=w4.1.next;have fin':∀ t'':Tr AV,ab t'' 11=v'->CT s s4 t'' lr mn mu lo s.next n TL U0 outs W Z mt r10 fr (j+1):=fun t'' h=>by refine⟨⟨g',?_,w3,((iK.trans q3').trans K3).trans K4,A3.kw K4⟩,m4,by omega,by omega⟩;rw[h,PZ,hnm,J8];exact w2
   simp[i39,il,ii,e5,ix,ldi,br];rw[eJ (fl:=[(0,4)])]
   ·simp[i0,i10,ii,hva,e7,r10',r103,q1,u1,lk,bo,w1];exact⟨_,_,⟨rfl,rfl⟩,⟨by simp[i0],by simp[i3],by simp[i4],by simp[i5],by simp[i6],by simp[i7],by simp[i31],by simp[i32],by simp[i33],by simp[i8],by simp[i9],by simp[i10]⟩,by simp[i39],by simp[il],by simp,fin' _ (by simp)⟩
   ·kernel_rfl
   ·intro R hR;simp[i0,i10,r10',q1,u1]at hR;subst hR;simp only[Q6,Q7,Q8];refine bV rfl rfl rfl (s:=s2) ?_;simp[i10,r102])
  (by rintro t' s' ⟨⟨i0,i3,i4,i5,i6,i7,i31,i32,i33,i8,i9,i10⟩,i39,il,ii,iI⟩;clear hLL;simp[il,ii];refine⟨_,_,⟨rfl,rfl⟩,⟨by simp[i0],by simp[i3],by simp[i4],by simp[i5],by simp[i6],by simp[i7],by simp[i31],by simp[i32],by simp[i33],by simp[i8],by simp[i9],by simp[i10]⟩,?_⟩;obtain⟨⟨g',f1,f2⟩,f3,f4,f5⟩:=iI;exact⟨⟨g',by simpa using f1,f2⟩,f3,f4,f5⟩)
 clear hLL;exact⟨t1,s1,by simp,u,uI⟩
