/- A part of the proof. -/
import Derived.Test.YtjpheibfljmbjaaGreatDoorS21
set_option maxRecDepth 100000
set_option maxHeartbeats 4000000
open List renaming length_map->Q0, mem_cons_of_mem->Q1, mem_append->Q2, mem_cons->Q3, mem_singleton->Q4, getElem_mem->Q6, mem_cons_self->Q7, mem_append_left->Q8, mem_append_right->Q9, length_append->J4, all_cons->J5, all_nil->J6, take_append_getElem->J9, take_length->Z4, not_mem_nil->Z6, eq_nil_of_length_eq_zero->Z8, cons_append->V0, nil_append->V1, length_cons->V2, map_append->V7
open Nat renaming le_refl->J1, beq->J3, le_of_ble_eq_true->Z3, zero_le->Z9, zero_add->V3, lt_of_lt_of_le->V6
open Bool renaming and_true->J8, eq_iff_iff->Z5, and_eq_true->Z7, or_eq_true->V4
open Option renaming toList->V8
open Go.Proofs.Tryz
noncomputable section
open Go.Ev
namespace Go.Proofs.YtjpheibfljmbjaaGreatDoor
variable {A W Z al al1 : List Nat}{L outs : List (List AV× Ex)}{N e j lo lo2 lr m mn n r r2 rE rO rR ty z : Nat}{P : Program}{S : Self}{T : ah->Bool}{TL U0 : List ah}{c : Option Self}{cs ecs r' : List AV}{cv pa v w : AV}{g : Option Nat}{k num : Int}{l q : ae}{nm : ah}{s s' st : St}{t : Tr AV}{x : Ex}
noncomputable def dT:Nat->Code
 |0=>f49.body.getD .skip
 |k+1=>aj (dT k)
theorem cH.OC{X:List Nat}(h:cH st X v z l)(hT:l.Ty m)(hz:eD m+7=z):Fz 0 st v (l.slice z):=by
 rcases h with rfl|⟨h0,r,g,al,q,rfl,h2,h3,h4,h5,h6⟩
 ·exact .pure (ae.mg hT z)
 ·rw[ae.cZ (i:=0) (by omega)];exact .slice h2 (py hT.pre hz).symm (Z9 _) (.pure (ae.oF hT)) h0
structure Al(s0 s:St)(t:Tr AV)(rE rR rO:Nat)(k:Int)(nm:ah)(num:Int)(w pa pl:AV)(b:ae)(i:Nat):Prop where
 t1:ab t 1=.p rE 0
 t2:ab t 2=.p rR 0
 t3:ab t 3=.p rO 0
 h:∃ vb g al,s.ce rO=some ([.i .i64 k,.s nm,.i .i64 num,w,vb,pa,pl],rO,al)/\(i=0->vb=.sn)/\aW s s0.next 8 vb i (di (b.list.take i)) g/\Kw [rO] (rO::g.toList) s0 s
 lo:rO<s0.next/\s0.next<=s.next
theorem acV{pl:AV}{b:ae}(hT:b.Ty 1)(hs:b.size<=1000000)(IH:∀ p∈b.list,∀ st,(Tw c N).call 49 [.ag p.2.cells] st=some (.ag p.2.cells,st))(_:bS w=true/\bS pa=true/\bS pl=true)(hE:bA s [rO] rE ecs)(h4:cut ecs 4 1=some [b.slice 8])(h:Al s s t rE rR rO k nm num w pa pl b 0)(hN:2000000<=N):
  ∃ t' s',ao (aq (dT 5)) ⟨prog,Tw c N,false,f49.ntmps,N⟩ t s=.nx t' s'/\Al s s' t' rE rR rO k nm num w pa pl b b.len:=by
 have hbl:=b.bZ;have rb:rd s rE 4 1=some [b.slice 8]:=by rw[hE.rd,h4]
 have ln:=fun st:St=>aY (st:=st) underlying23 (b.bK 8) (b.bJ 8)
 simp[dT,aq,aj,f49,h.t1,rb,ln,bw];generalize hL:bf _ _ _ _=L;obtain⟨t1,s1,rfl,uI⟩:=dy hL 0 b.list.length
  (fun i t s'=>ab t 19=b.slice 8/\ab t 20=.i .i64 (b.len:Int)/\ab t 21=.i .i64 (i:Int)/\Al s s' t rE rR rO k nm num w pa pl b i)
  (fun t s'=>Al s s' t rE rR rO k nm num w pa pl b b.len) (by rw[<-ae.aC];omega)
  ⟨by simp,by simp,by simp,by simp[h.t1],by simp[h.t2],by simp[h.t3],h.h,h.lo⟩
  (by
   rintro i t s' hi ⟨i19,il,ii,i1,i2,i3,⟨vb,g,al,iC,-,iO,iK⟩,il1,il2⟩;clear hL;have hil:i<b.len:=by rw[ae.aC];exact hi
   have e5:(i:Int)<(b.len:Int):=by omega
   have e7:wr .i64 ((i:Int)+1)=((i+1:Nat):Int):=by rw[aZ (by omega) (by omega)];rfl
   have hmem:=Q6 hi;have hTi:=ae.cU hT _ hmem;obtain⟨a0,ix,ldx⟩:=(cH.pure s' [] 8 b).at fG kI hT.pre rfl hi;have ldi:=ldx [] [] s' (.refl _ _ _) (by simp) (by simp);obtain⟨s0,hs0⟩:=hTi.1;have hc8:(b.list[i].1++b.list[i].2.cells).length=8:=by rw[hs0];simp[Ex.aO]
   have hcs:bq (b.list[i].1++b.list[i].2.cells)=true:=gX hTi.1.sc (Ex.dH hTi.2.wf);obtain⟨s2,w1,w2,w3,w4⟩:=cO (z:=jr) hc8 hcs;have sto:=aI dn cV (s'.aw jr) s'.next 0 _ hc8;have ef:=Nt hi;obtain⟨y,hy⟩:∃ y,b.list[i].2=y:=⟨_,rfl⟩;have cl:=IH _ hmem s2;rw[hs0,hy]at w1 w2 sto ldi ef hcs hc8;rw[hy]at cl;simp only[V0,V1]at w1 w2 sto ldi hcs hc8;have rx0:rd s2 s'.next 0 1=some [.s s0]:=by rw[au w2];rfl
   have rx1:rd s2 s'.next 1 7=some y.cells:=by
    rw[au w2];show cut y.cells 0 7=_
    rw[cQ,<-y.aO,dD]
   have n3:=w3.next;have hgl:=iO.fJ;have O2:=iO.keep w3 (by simp) (by simp);have C2:=w3.ce iC (by omega) (by omega) (by simp) (by simp);have hnc:bq (AV.s s0::y.cells)=true:=hcs;obtain⟨v',g',s4,y1,y2,y3,y4⟩:=O2.mc mJ hnc (by simp[Ex.aO]) (by omega) (by omega);have ef':di (b.list.take (i+1))=di (b.list.take i)++(.s s0::y.cells):=by rw[ef];simp
   rw[<-ef']at y2;have hgn:rO∉g.toList:=fun hh=>by have:=hgl rO (by simpa using hh);omega
   have C4:=y3.ce C2 (by omega) (by omega) (by simp) hgn;have hw4:=bP C4 4 [v'] (by simp) (by simp[y2.sc]);have hw4:wt s4 rO 4 [v']=some (s4.ax rO [.i .i64 k,.s nm,.i .i64 num,w,v',pa,pl] rO):=hw4;have k5:Kp [rO] [rO] s4 (s4.ax rO [.i .i64 k,.s nm,.i .i64 num,w,v',pa,pl] rO):=.ax (by simp) (by simp);have C5:=cj rO [.i .i64 k,.s nm,.i .i64 num,w,v',pa,pl] rO (st:=s4);obtain⟨s5,hs5⟩:∃ s5,s4.ax rO [.i .i64 k,.s nm,.i .i64 num,w,v',pa,pl] rO=s5:=⟨_,rfl⟩;rw[hs5]at hw4 k5 C5;have st4:=db nH pI s4 rO 4 v' y2.cells;have rv:rd s2 rO 4 1=some [vb]:=by rw[au C2];rfl
   have b1:=fun(t:Tr AV) (e1:ai t (.tmp 28)=.s s0) (e2:ai t (.tmp 31)=.ag y.cells)=>yD (S:=Tw c N) (st:=s2) (t:=t) (x:=.tmp 28) (y:=.tmp 31) e1 e2 y.aO
   have b2:=fun(t:Tr AV) (e1:ai t (.tmp 32)=.ag (.s s0::y.cells))=>gT (S:=Tw c N) (t:=t) (st:=s2) mJ (x:=.tmp 32) (cs:=.s s0::y.cells) (by rw[e1];exact j9 _) (by simp[Ex.aO])
   have z37:bm prog 37=some jr:=qj;have n4:=y3.next;have n5:=k5.next;have O5:=y2.keep k5 (by simp;omega) (by simp;exact .inl il1);have K5:Kw [rO] (rO::g'.toList) s s5:=by
    refine iK.trans (⟨(w3.sub (by simp) (by simp)).trans ((y3.sub (by simp) (fun _ h=>Q1 _ h)).trans (k5.sub (by simp) (by simp))),fun x hx=>?_⟩:Kw (rO::g.toList) (rO::g'.toList) s' s5);rcases Q3.1 hx with rfl|hx
    ·exact .inl (Q7 ..)
    ·rcases y4 with rfl|⟨q,rfl,hq⟩
     ·exact .inl (Q1 _ hx)
     ·have:x=q:=by simpa using hx
      exact .inr (by omega)
   have fin:∀ t',ab t' 1=.p rE 0->ab t' 2=.p rR 0->ab t' 3=.p rO 0->Al s s5 t' rE rR rO k nm num w pa pl b (i+1):=fun t' h1 h2 h3=>⟨h1,h2,h3,⟨v',g',_,C5,fun h=>by omega,O5,K5⟩,il1,by omega⟩
   simp[i19,il,ii,e5,ix,ldi,aJ,z37,sto,w1,br];rw[eJ (fl:=[(1,7),(3,7)])]
   ·simp[i3,ii,e7,aH,rv,rx0,rx1,cl,b1,b2,y1,st4,hw4];exact⟨_,_,⟨rfl,rfl⟩,by simp[i19],by simp[il],by simp,fin _ (by simp[i1]) (by simp[i2]) (by simp[i3])⟩
   ·kernel_rfl
   ·intro R hR;simp[i3,aH,rv,rx0,rx1,cl,b1,b2,y1,st4,hw4]at hR;subst hR;simp only[J5,J6,J8,Z7];refine⟨bV rfl rfl rfl (s:=s2) ?_,bV rfl rfl rfl (s:=s2) ?_⟩
    ·simp[rv]
    ·simp[rx0])
  (by rintro t s' ⟨i19,il,ii,i1,i2,i3,iH,iLo⟩;clear hL;rw[<-ae.aC]at iH ii;simp[il,ii];exact⟨_,_,⟨rfl,rfl⟩,by simp[i1],by simp[i2],by simp[i3],iH,iLo⟩)
 clear hL;exact⟨t1,s1,by simp,uI⟩
structure AZ(s0 s:St)(t:Tr AV)(rE rR rO:Nat)(k:Int)(nm:ah)(num:Int)(w pb pa:AV)(l:ae)(i:Nat):Prop where
 t1:ab t 1=.p rE 0
 t2:ab t 2=.p rR 0
 t3:ab t 3=.p rO 0
 h:∃ vl g al cs,s.ce rO=some ([.i .i64 k,.s nm,.i .i64 num,w,pb,pa,vl],rO,al)/\(i=0->vl=.sn)/\aW s s0.next 11 vl i cs g/\mC s (rR::rO::g.toList) cs (l.list.take i)/\Kw [rO] (rO::g.toList) s0 s
 lo:rO<s0.next/\s0.next<=s.next/\rR<s0.next
theorem UU{pb:AV}(hT:l.Ty 4)(hs:l.size<=1000000)(hvs:∀ p∈l.list,(ba (p.1.getD 3 .un)).length<=1000000)(IH:∀ p∈l.list,∀ st,(Tw c N).call 49 [.ag p.2.cells] st=some (.ag p.2.cells,st))(_:bS w=true/\bS pb=true/\bS pa=true)(hE:bA s [rO] rE ecs)(h6:cut ecs 6 1=some [l.slice 11])(h:AZ s s t rE rR rO k nm num w pb pa l 0)(hN:2000000<=N):
  ∃ t' s',ao (aq (dT 7)) ⟨prog,Tw c N,false,f49.ntmps,N⟩ t s=.nx t' s'/\AZ s s' t' rE rR rO k nm num w pb pa l l.len:=by
 have hbl:=l.bZ;have rb:rd s rE 6 1=some [l.slice 11]:=by rw[hE.rd,h6]
 have ln:=fun st:St=>aY (st:=st) underlying33 (l.bK 11) (l.bJ 11)
 simp[dT,aq,aj,f49,h.t1,rb,ln,bw];generalize hL:bf _ _ _ _=L;obtain⟨t1,s1,rfl,uI⟩:=dy hL 2 l.list.length
  (fun i t s'=>ab t 39=l.slice 11/\ab t 40=.i .i64 (l.len:Int)/\ab t 41=.i .i64 (i:Int)/\AZ s s' t rE rR rO k nm num w pb pa l i)
  (fun t s'=>AZ s s' t rE rR rO k nm num w pb pa l l.len) (by rw[<-ae.aC];omega)
  ⟨by simp,by simp,by simp,by simp[h.t1],by simp[h.t2],by simp[h.t3],h.h,h.lo⟩
  (by
   rintro i t s' hi ⟨i19,il,ii,i1,i2,i3,⟨vl,g,al,cs,iC,-,iO,iR,iK⟩,il1,il2,il3⟩;clear hL;have hil:i<l.len:=by rw[ae.aC];exact hi
   have e5:(i:Int)<(l.len:Int):=by omega
   have e7:wr .i64 ((i:Int)+1)=((i+1:Nat):Int):=by rw[aZ (by omega) (by omega)];rfl
   have hmem:=Q6 hi;have hTi:=ae.cU hT _ hmem;have hvi:=hvs _ hmem;obtain⟨a0,ix,ldx⟩:=(cH.pure s' [] 11 l).at nY zn hT.pre rfl hi;have ldi:=ldx [] [] s' (.refl _ _ _) (by simp) (by simp);obtain⟨ak,an,am,vs,hs0,hvn⟩:=hTi.1;have htk:l.list.take (i+1)=l.list.take i++[l.list[i]]:=(J9 hi).symm;obtain⟨p,hp⟩:∃ p,l.list[i]=p:=⟨_,rfl⟩;have cl:=IH _ hmem;rw[hp]at hs0 hTi ldi cl htk hvi;obtain⟨y,hy⟩:∃ y,p.2=y:=⟨_,rfl⟩;rw[hs0]at hvi ldi;have hvi:(ba vs).length<=1000000:=hvi;have hTy:y.Ty:=by rw[<-hy];exact hTi.2
   rw[hy]at cl ldi;simp only[V0,V1]at ldi;have vsc:=wK hvn;have vcl:vs.cells=some [vs]:=qD hvn.sl.1;obtain⟨s2,w1,w2,w3,w4⟩:=cO (s:=s') (z:=qp) (cells:=.i .i64 ak::.s an::.i .i64 am::vs::y.cells) (by simp[qp,Ex.aO]) (by simp[vsc,Ex.dH hTy.wf]);obtain⟨r7,hr7⟩:∃ r,s'.next=r:=⟨_,rfl⟩;rw[hr7]at w1 w2 w4;have h11:(AV.i .i64 ak::.s an::.i .i64 am::vs::y.cells).length=11:=by simp[Ex.aO]
   have sto:=aI cy bU (s'.aw qp) r7 0 _ h11;have ycut:∀ (x1 x2 x3 x4:AV),cut (x1::x2::x3::x4::y.cells) 4 7=some y.cells:=fun x1 x2 x3 x4=>by
    show cut y.cells 0 7=_
    rw[cQ,<-y.aO,dD]
   have rv:rd s2 r7 3 1=some [vs]:=by rw[au w2];rfl
   have ry:rd s2 r7 4 7=some y.cells:=by rw[au w2,ycut]
   obtain⟨w',s3,q1,q2,q3⟩:=Ke (c:=c) (st:=s2) hvn hvi (N:=N) (by omega);have n2:=w3.next;have n3:=q2.next;have W3:=q2.ce w2 w4 w4 (by simp) (by simp);have ry3:rd s3 r7 4 7=some y.cells:=by rw[au W3,ycut]
   have hgl:=iO.fJ;have hgn:∀ x∈rR::rO::g.toList,x<s'.next:=fun x hx=>by
    rcases Q3.1 hx with rfl|hx
    ·omega
    rcases Q3.1 hx with rfl|hx
    ·omega
    ·exact(hgl x (by simpa using hx)).2
   have cw:=q3 (r7::rR::rO::g.toList) (fun x hx=>by
    rcases Q3.1 hx with rfl|hx
    ·omega
    ·have:=hgn x hx;omega)
   obtain⟨wsc,wcl⟩:=cw.sc ⟨vsc,vcl⟩;have hw4:=bP W3 3 [w'] (by simp) (by simp[wsc]);have hw4:wt s3 r7 3 [w']=some (s3.ax r7 (.i .i64 ak::.s an::.i .i64 am::w'::y.cells) r7):=by rw[hw4];congr 2;rw[Cx];rfl
   have k4:Kp [r7] [r7] s3 (s3.ax r7 (.i .i64 ak::.s an::.i .i64 am::w'::y.cells) r7):=.ax (by simp) (by simp);have W4:=cj r7 (.i .i64 ak::.s an::.i .i64 am::w'::y.cells) r7 (st:=s3);obtain⟨s4,hs4⟩:∃ s4,s3.ax r7 (.i .i64 ak::.s an::.i .i64 am::w'::y.cells) r7=s4:=⟨_,rfl⟩;rw[hs4]at hw4 k4 W4;have st3:=db qS vX s3 r7 3 w' wcl;have n4:=k4.next;have hw5:=bP W4 4 y.cells (by simp[Ex.aO]) (Ex.dH hTy.wf);have ov5:bO (AV.i .i64 ak::.s an::.i .i64 am::w'::y.cells) 4 y.cells=.i .i64 ak::.s an::.i .i64 am::w'::y.cells:=by rw[kg _ _ _ (by simp[Ex.aO])];simp[Ex.aO,List.drop_eq_nil_of_le]
   rw[ov5]at hw5;have k5:Kp [r7] [r7] s4 (s4.ax r7 (.i .i64 ak::.s an::.i .i64 am::w'::y.cells) r7):=.ax (by simp) (by simp);have W5:=cj r7 (.i .i64 ak::.s an::.i .i64 am::w'::y.cells) r7 (st:=s4);obtain⟨s5,hs5⟩:∃ s5,s4.ax r7 (.i .i64 ak::.s an::.i .i64 am::w'::y.cells) r7=s5:=⟨_,rfl⟩;rw[hs5]at hw5 k5 W5;have st4:=aI cI aH s4 r7 4 y.cells y.aO;have n5:=k5.next;have K25:Kp [] [] s' s5:=dz (dz (w3.trans q2) k4 (by simp;omega) (by simp;omega)) k5 (by simp;omega) (by simp;omega);have C5:=K25.ce iC (by omega) (by omega) (by simp) (by simp);have O5:=iO.keep K25 (by simp) (by simp);have R5:=iR.kw (Kw.of (W:=rR::rO::g.toList) K25);have kw35:Kw (r7::rR::rO::g.toList) (r7::rR::rO::g.toList) s3 s5:=⟨(k4.trans k5).sub (by simp) (by simp),fun _ h=>.inl h⟩;have cw5:=(cw.kw kw35).sub (Y:=rR::rO::g.toList) (fun x hx=>Q1 _ hx);have hnc:bq (AV.i .i64 ak::.s an::.i .i64 am::w'::y.cells)=true:=by simp[wsc,Ex.dH hTy.wf]
   have h11':(AV.i .i64 ak::.s an::.i .i64 am::w'::y.cells).length=11:=by simp[Ex.aO]
   obtain⟨v',g',s6,y1,y2,y3,y4⟩:=O5.mc yK (new:=.i .i64 ak::.s an::.i .i64 am::w'::y.cells) hnc h11' (by omega) (by omega);have rv5:rd s5 rO 6 1=some [vl]:=by rw[au C5];rfl
   have r115:rd s5 r7 0 11=some (.i .i64 ak::.s an::.i .i64 am::w'::y.cells):=by rw[au W5,cQ,<-h11',dD]
   have hgn':rO∉g.toList:=fun hh=>by have:=hgl rO (by simpa using hh);omega
   have C6:=y3.ce C5 (by omega) (by omega) (by simp) hgn';have hw6:=bP C6 6 [v'] (by simp) (by simp[y2.sc]);have hw6:wt s6 rO 6 [v']=some (s6.ax rO [.i .i64 k,.s nm,.i .i64 num,w,pb,pa,v'] rO):=hw6;have k7:Kp [rO] [rO] s6 (s6.ax rO [.i .i64 k,.s nm,.i .i64 num,w,pb,pa,v'] rO):=.ax (by simp) (by simp);have C7:=cj rO [.i .i64 k,.s nm,.i .i64 num,w,pb,pa,v'] rO (st:=s6);obtain⟨s7,hs7⟩:∃ s7,s6.ax rO [.i .i64 k,.s nm,.i .i64 num,w,pb,pa,v'] rO=s7:=⟨_,rfl⟩;rw[hs7]at hw6 k7 C7;have st6:=db uX yx s6 rO 6 v' y2.cells;have b2:=fun(t:Tr AV) (e1:ai t (.tmp 55)=.ag (.i .i64 ak::.s an::.i .i64 am::w'::y.cells))=>gT (S:=Tw c N) (t:=t) (st:=s5) yK (x:=.tmp 55) (cs:=.i .i64 ak::.s an::.i .i64 am::w'::y.cells) (by rw[e1];exact j9 _) h11'
   have z93:bm prog 93=some qp:=dM;have n6:=y3.next;have n7:=k7.next;have O7:=y2.keep k7 (by simp;omega) (by simp;exact .inl il1);have K57:Kw (rO::g.toList) (rO::g'.toList) s5 s7:=⟨(y3.sub (by simp) (fun _ h=>Q1 _ h)).trans (k7.sub (by simp) (by simp)),fun x hx=>by
    rcases Q3.1 hx with rfl|hx
    ·exact .inl (Q7 ..)
    ·rcases y4 with rfl|⟨q,rfl,hq⟩
     ·exact .inl (Q1 _ hx)
     ·have:x=q:=by simpa using hx
      exact .inr (by omega)⟩
   have R7:mC s7 (rR::rO::g'.toList) (cs++(.i .i64 ak::.s an::.i .i64 am::w'::y.cells)) (l.list.take (i+1)):=by rw[htk,<-hy];rw[<-hy]at hTy;exact mC.snoc hs0 (cw5.kw (ko K57 rR)) wsc hTy (R5.kw (ko K57 rR))
   have fin:∀ t',ab t' 1=.p rE 0->ab t' 2=.p rR 0->ab t' 3=.p rO 0->AZ s s7 t' rE rR rO k nm num w pb pa l (i+1):=fun t' h1 h2 h3=>⟨h1,h2,h3,⟨v',g',_,_,C7,fun h=>by omega,O7,R7,(iK.trans (.of K25)).trans K57⟩,il1,by omega,il3⟩
   simp[i19,il,ii,e5,ix,ldi,aJ,z93,hr7,sto,w1,br];rw[eJ (fl:=[(4,0)])]
   ·simp[i3,ii,e7,aH,bU,rv,ry3,q1,cl,st3,hw4,st4,hw5,rv5,r115,b2,y1,st6,hw6];exact⟨_,_,⟨rfl,rfl⟩,by simp[i19],by simp[il],by simp,fin _ (by simp[i1]) (by simp[i2]) (by simp[i3])⟩
   ·kernel_rfl
   ·intro R hR;simp[aH,rv,ry3,q1,cl,st3,hw4,st4,hw5]at hR;subst hR;simp only[J5,J6,J8];refine bV rfl rfl rfl (s:=s2) ?_;simp[aH,ry])
  (by rintro t s' ⟨i19,il,ii,i1,i2,i3,iH,iLo⟩;clear hL;rw[<-ae.aC]at iH ii;simp[il,ii];exact⟨_,_,⟨rfl,rfl⟩,by simp[i1],by simp[i2],by simp[i3],iH,iLo⟩)
 clear hL;exact⟨t1,s1,by simp,uI⟩
theorem aby:∀ x:Ex,Wl x->x.size<=1000000->Uk c x:=by
 refine Ex.ind fun k nm num ps b a l hb ha hl=>?_
 intro hx hs st N hN;obtain⟨N,rfl⟩:∃ N',N=N'+2:=⟨N-2,by omega⟩;obtain⟨hh,wb,wa,wl⟩:=Wl.fN.1 hx;have hT:=hx.1;simp only[Ex.Ty]at hT;have hsz:(Ex.mk k nm num ps b a l).size=1+b.size+a.size+l.size:=by simp only[Ex.size]
 have ih:∀ (M:Nat),N<=M->(∀ p∈b.list,∀ st,(Tw c M).call 49 [.ag p.2.cells] st=some (.ag p.2.cells,st))/\(∀ p∈a.list,∀ st,(Tw c M).call 49 [.ag p.2.cells] st=some (.ag p.2.cells,st))/\(∀ p∈l.list,∀ st,(Tw c M).call 49 [.ag p.2.cells] st=some (.ag p.2.cells,st)):=by
  intro M hM;refine⟨fun p hp st=>?_,fun p hp st=>?_,fun p hp st=>?_⟩
  ·have:=ae.dU hp;have:=(p.2).size_pos;exact hb p hp (wb p hp) (by omega) st M (by omega)
  ·have:=ae.dU hp;exact ha p hp (wa p hp) (by omega) st M (by omega)
  ·have:=ae.dU hp;exact hl p hp (wl p hp) (by omega) st M (by omega)
 obtain⟨ihb,iha,ihl⟩:=ih N (J1 _);obtain⟨ihb1,-,ihl1⟩:=ih (N+1) (Nat.le_succ _);have hcl:(Ex.mk k nm num ps b a l).cells=[.i .i64 k,.s nm,.i .i64 num,ps,b.slice 8,a.slice 7,l.slice 11]:=by simp[Ex.cells]
 refine Em rfl rfl rfl rfl (by decide) (by simp[aQ,bg,Ex.nX hx.1]) func49 rfl (Z3 rfl) (by simpa[bg]using Ex.nX hx.1) ?_;unfold aV;obtain⟨s0,s1,rE,rR,hrE,hs0,hrR,hs1,cE,cR,lER,lR,lo,K1⟩:=wI aK (Ex.mk k nm num ps b a l).cells;show Eo (eE prog f49.results.toList (ao (dT 0) ⟨prog,Tw c (N+1),false,f49.ntmps,N+1⟩ (tmpsOf [.ag (Ex.mk k nm num ps b a l).cells] 0 .lf) aK)) _
 have zz:bm prog 35=some eM:=qH;have a0:∃ t,ao (aq (dT 0)) ⟨prog,Tw c (N+1),false,f49.ntmps,N+1⟩ (tmpsOf [.ag (Ex.mk k nm num ps b a l).cells] 0 .lf) aK=.nx t s1/\ab t 1=.p rE 0/\ab t 2=.p rR 0:=by simp[dT,aq,f49,hrE,hs0,aJ,zz,hrR,hs1]
 obtain⟨t0,a0,b1,b2⟩:=a0;rw[dw rfl a0,show aj (dT 0)=dT 1 from rfl];have ex1:=iv cE;obtain⟨s2,p1,p2,p3,p4⟩:=cO (z:=eM) (by rw[Ex.aO];rfl) (Ex.dH hx.1.wf);obtain⟨rO,hrO⟩:∃ r,s1.next=r:=⟨_,rfl⟩;rw[hrO]at p1 p2 p4;have stO:=aI cI aH (s1.aw eM) rO 0 (Ex.mk k nm num ps b a l).cells (Ex.aO _);have a1:∃ t,ao (aq (dT 1)) ⟨prog,Tw c (N+1),false,f49.ntmps,N+1⟩ t0 s1=.nx t s2/\ab t 1=.p rE 0/\ab t 2=.p rR 0/\ab t 3=.p rO 0:=by simp[dT,aq,aj,f49,b1,b2,aH,ex1.all,aJ,zz,hrO,stO,p1]
 obtain⟨t1,a1,c1,c2,c3⟩:=a1;rw[dw (cd:=dT 1) rfl a1,show aj (dT 1)=dT 2 from rfl];have n1:=K1.next;have n2:=p3.next;have E2:=p3.ce cE (by omega) (by omega) (by simp) (by simp);have R2:=p3.ce cR lR lR (by simp) (by simp);have hps32:=hh.hd.p32;obtain⟨w,s3,q1,q2,q3⟩:=Ke (c:=c) (st:=s2) hh.nms (by omega) (N:=N+1) (by omega);have n3:=q2.next;have O3:=q2.ce p2 p4 p4 (by simp) (by simp);have E3:=q2.ce E2 (by omega) (by omega) (by simp) (by simp);have R3:=q2.ce R2 (by omega) (by omega) (by simp) (by simp);have cw3:=q3 [rR,rO] (by simp;omega);obtain⟨wsc,wcl⟩:=cw3.sc ⟨wK hh.nms,qD hh.nms.sl.1⟩;rw[hcl]at O3;have hw4:wt s3 rO 3 [w]=some (s3.ax rO [.i .i64 k,.s nm,.i .i64 num,w,b.slice 8,a.slice 7,l.slice 11] rO):=bP O3 3 [w] (by simp) (by simp[wsc]);have k4:Kp [rO] [rO] s3 (s3.ax rO [.i .i64 k,.s nm,.i .i64 num,w,b.slice 8,a.slice 7,l.slice 11] rO):=.ax (by simp) (by simp);have O4:=cj rO [.i .i64 k,.s nm,.i .i64 num,w,b.slice 8,a.slice 7,l.slice 11] rO (st:=s3);obtain⟨s4,hs4⟩:∃ s4,s3.ax rO [.i .i64 k,.s nm,.i .i64 num,w,b.slice 8,a.slice 7,l.slice 11] rO=s4:=⟨_,rfl⟩;rw[hs4]at hw4 k4 O4;have st3:=db qS vX s3 rO 3 w wcl;have rps:rd s2 rE 3 1=some [ps]:=by rw[au E2,hcl];rfl
 have a2:∃ t,ao (aq (dT 2)) ⟨prog,Tw c (N+1),false,f49.ntmps,N+1⟩ t1 s2=.nx t s4/\ab t 1=.p rE 0/\ab t 2=.p rR 0/\ab t 3=.p rO 0:=by simp[dT,aq,aj,f49,c1,c2,c3,rps,q1,st3,hw4]
 obtain⟨t2,a2,d1,d2,d3⟩:=a2;rw[dw (cd:=dT 2) rfl a2,show aj (dT 2)=dT 3 from rfl];have n4:=k4.next;have E4:=k4.ce E3 (by omega) (by omega) (by simp;omega) (by simp;omega);have R4:=k4.ce R3 (by omega) (by omega) (by simp;omega) (by simp;omega);have K4':Kw [rO] [rO] s3 s4:=⟨k4,fun _ h=>.inl h⟩;have cw4:=cw3.kw (ko K4' rR);obtain⟨pa,s5,x1,x2,x3⟩:=TY (c:=c) (st:=s4) hT.2.2.2.1 (by omega) (N:=N) iha (by omega);have n5:=x3.next;have O5:=x3.ce O4 (by omega) (by omega) (by simp) (by simp);have sa5:=ew.Df hh.nf.2.1 x2 (X:=[rR,rO]) (by simp;omega);have hw6:wt s5 rO 5 [pa]=some (s5.ax rO [.i .i64 k,.s nm,.i .i64 num,w,b.slice 8,pa,l.slice 11] rO):=bP O5 5 [pa] (by simp) (by simp[sa5.sc]);have k6:Kp [rO] [rO] s5 (s5.ax rO [.i .i64 k,.s nm,.i .i64 num,w,b.slice 8,pa,l.slice 11] rO):=.ax (by simp) (by simp);have O6:=cj rO [.i .i64 k,.s nm,.i .i64 num,w,b.slice 8,pa,l.slice 11] rO (st:=s5);obtain⟨s6,hs6⟩:∃ s6,s5.ax rO [.i .i64 k,.s nm,.i .i64 num,w,b.slice 8,pa,l.slice 11] rO=s6:=⟨_,rfl⟩;rw[hs6]at hw6 k6 O6;have st5:=db o9 sP s5 rO 5 pa sa5.cells;have ra4:rd s4 rE 5 1=some [a.slice 7]:=by rw[au E4,hcl];rfl
 have a3:∃ t,ao (aq (dT 3)) ⟨prog,Tw c (N+1),false,f49.ntmps,N+1⟩ t2 s4=.nx t s6/\ab t 1=.p rE 0/\ab t 2=.p rR 0/\ab t 3=.p rO 0:=by simp[dT,aq,aj,f49,d1,d2,d3,ra4,x1,st5,hw6]
 obtain⟨t3,a3,e1,e2,e3⟩:=a3;rw[dw (cd:=dT 3) rfl a3,show aj (dT 3)=dT 4 from rfl];have n6:=k6.next;have hw7:wt s6 rO 4 [.sn]=some (s6.ax rO [.i .i64 k,.s nm,.i .i64 num,w,.sn,pa,l.slice 11] rO):=bP O6 4 [.sn] (by simp) (by simp);have k7:Kp [rO] [rO] s6 (s6.ax rO [.i .i64 k,.s nm,.i .i64 num,w,.sn,pa,l.slice 11] rO):=.ax (by simp) (by simp);have O7:=cj rO [.i .i64 k,.s nm,.i .i64 num,w,.sn,pa,l.slice 11] rO (st:=s6);obtain⟨s7,hs7⟩:∃ s7,s6.ax rO [.i .i64 k,.s nm,.i .i64 num,w,.sn,pa,l.slice 11] rO=s7:=⟨_,rfl⟩;rw[hs7]at hw7 k7 O7;have st7:=db nH pI s6 rO 4 .sn (by simp);have a4:∃ t,ao (aq (dT 4)) ⟨prog,Tw c (N+1),false,f49.ntmps,N+1⟩ t3 s6=.nx t s7/\ab t 1=.p rE 0/\ab t 2=.p rR 0/\ab t 3=.p rO 0:=by simp[dT,aq,aj,f49,e1,e2,e3,st7,hw7]
 obtain⟨t4,a4,f1,f2,f3⟩:=a4;rw[dw (cd:=dT 4) rfl a4,show aj (dT 4)=dT 5 from rfl];have n7:=k7.next;have K47:Kw [rO] [rO] s4 s7:=⟨(x3.sub (by simp) (by simp)).trans (k6.trans k7),fun _ h=>.inl h⟩;have K57:Kw [rO] [rO] s5 s7:=⟨k6.trans k7,fun _ h=>.inl h⟩;have cw7:=cw4.kw (ko K47 rR);have sa7:=sa5.kw (ko K57 rR);have E4':bA s4 [rO] rE (Ex.mk k nm num ps b a l).cells:=⟨_,_,E4,by omega,by omega,by simp;omega,by simp;omega⟩;have E7:=bA.kw E4' K47;have R4':jX s4 [rO] rR eM:=⟨_,R4,by omega,by simp;omega⟩;have R7:=jX.kw R4' K47;obtain⟨t5,s8,a5,B1,B2,B3,⟨vb,g8,al8,O8,B4,B5,K8⟩,lo8,lo8'⟩:=acV (c:=c) (N:=N+1) hT.2.2.1 (by omega) ihb1 ⟨wsc,sa5.sc,l.yu 11⟩ E7 (by rw[hcl];rfl) ⟨f1,f2,f3,⟨.sn,none,_,O7,fun _=>rfl,by simpa[di]using aW.nil s7 s7.next 8,by simpa using Kw.refl _ _⟩,by omega,J1 _⟩ (by omega);rw[dw (cd:=dT 5) rfl a5,show aj (dT 5)=dT 6 from rfl];have sb8:cH s8 [rR,rO] vb 8 b:=ew.Df hh.nf.1 ⟨g8,B4,by rw[ae.aC,Z4,<-oy,<-ae.aC]at B5;exact B5⟩ (by simp;omega);have sub8:∀ x,x∈[rO]->x∈rO::g8.toList:=by simp
 have E8:=(E7.kw K8).sub sub8;have sub8':∀ x,x∈[rR,rO]->x∈rR::rO::g8.toList:=by simp
 have R8:=(R7.kw K8).to (Y:=[rO]) (by simp;omega);have cw8:=(cw7.kw (ko K8 rR)).sub sub8';have sa8:=(sa7.kw (ko K8 rR)).sub sub8';have hw9:wt s8 rO 6 [.sn]=some (s8.ax rO [.i .i64 k,.s nm,.i .i64 num,w,vb,pa,.sn] rO):=bP O8 6 [.sn] (by simp) (by simp);have k9:Kp [rO] [rO] s8 (s8.ax rO [.i .i64 k,.s nm,.i .i64 num,w,vb,pa,.sn] rO):=.ax (by simp) (by simp);have O9:=cj rO [.i .i64 k,.s nm,.i .i64 num,w,vb,pa,.sn] rO (st:=s8);obtain⟨s9,hs9⟩:∃ s9,s8.ax rO [.i .i64 k,.s nm,.i .i64 num,w,vb,pa,.sn] rO=s9:=⟨_,rfl⟩;rw[hs9]at hw9 k9 O9;have st9:=db uX yx s8 rO 6 .sn (by simp);have a6:∃ t,ao (aq (dT 6)) ⟨prog,Tw c (N+1),false,f49.ntmps,N+1⟩ t5 s8=.nx t s9/\ab t 1=.p rE 0/\ab t 2=.p rR 0/\ab t 3=.p rO 0:=by simp[dT,aq,aj,f49,B1,B2,B3,st9,hw9]
 obtain⟨t6,a6,g1,g2,g3⟩:=a6;rw[dw (cd:=dT 6) rfl a6,show aj (dT 6)=dT 7 from rfl];have n9:=k9.next;have K9:Kw [rO] [rO] s8 s9:=⟨k9,fun _ h=>.inl h⟩;obtain⟨t7,s10,a7,A1,A2,A3,⟨vl,gl,all,csl,O10,A4,A5,A6,K10⟩,lo10,lo10',lo10''⟩:=UU (c:=c) (N:=N+1) hT.2.2.2.2 (by omega) (fun p hp=>by have:=hh.vs p.1 (List.mem_map.2 ⟨p,hp,rfl⟩);omega) ihl1 ⟨wsc,sb8.sc,sa5.sc⟩ (E8.kw K9) (by rw[hcl];rfl) ⟨g1,g2,g3,⟨.sn,none,_,[],O9,fun _=>rfl,aW.nil s9 s9.next 11,by simp[mC],by simpa using Kw.refl _ _⟩,by omega,J1 _,by omega⟩ (by omega);rw[dw (cd:=dT 7) rfl a7,show aj (dT 7)=dT 8 from rfl];have R10:=(R8.kw K9).kw K10;have cw10:=(cw8.kw (ko K9 rR)).kw (ko K10 rR);have sa10:=(sa8.kw (ko K9 rR)).kw (ko K10 rR);have sb10:=(sb8.kw (ko K9 rR)).kw (ko K10 rR);obtain⟨alr,cR10,lR10,nR10⟩:=R10;have vlsc:=A5.sc;have hw11:=bP cR10 0 [.i .i64 k,.s nm,.i .i64 num,w,vb,pa,vl] (by simp[eM]) (by simp[wsc,sb8.sc,sa5.sc,vlsc]);rw[gZ,show over eM [.i .i64 k,.s nm,.i .i64 num,w,vb,pa,vl]=[.i .i64 k,.s nm,.i .i64 num,w,vb,pa,vl] from jG rfl]at hw11;have k11:Kp [rR] [rR] s10 (s10.ax rR [.i .i64 k,.s nm,.i .i64 num,w,vb,pa,vl] rR):=.ax (by simp) (by simp);have R11:=cj rR [.i .i64 k,.s nm,.i .i64 num,w,vb,pa,vl] rR (st:=s10);obtain⟨s11,hs11⟩:∃ s11,s10.ax rR [.i .i64 k,.s nm,.i .i64 num,w,vb,pa,vl] rR=s11:=⟨_,rfl⟩;rw[hs11]at hw11 k11 R11;have st11:=aI cI aH s10 rR 0 [.i .i64 k,.s nm,.i .i64 num,w,vb,pa,vl] rfl;have rO10:rd s10 rO 0 7=some [.i .i64 k,.s nm,.i .i64 num,w,vb,pa,vl]:=by rw[au O10];rfl
 have a8:∃ t,ao (dT 8) ⟨prog,Tw c (N+1),false,f49.ntmps,N+1⟩ t7 s10=.rt t s11/\ab t 2=.p rR 0:=by simp[dT,aj,f49,A2,A3,aH,rO10,st11,hw11]
 obtain⟨t8,a8,z2⟩:=a8;have er:eE prog f49.results.toList (.rt t8 s11)=some (.ag [.i .i64 k,.s nm,.i .i64 num,w,vb,pa,vl],s11):=tQ z2 (by rw[au R11];rfl);rw[a8,er];refine⟨_,_,rfl,?_⟩;have K11:Kw (rR::rO::gl.toList) (rR::rO::gl.toList) s10 s11:=⟨k11.sub (by simp) (by simp),fun _ h=>.inl h⟩;have zw:=(cw10.kw K11).fz;have za:=(sa10.kw K11).OC hT.2.2.2.1 rfl;have zb:=(sb10.kw K11).OC hT.2.2.1 rfl;have O11:=A5.keep k11 (by simp;omega) (by simp;exact .inl (by omega));have zl:Fz 0 s11 vl (l.slice 11):=by
  by_cases h0:l.len=0
  ·obtain⟨f,rfl⟩:=lK h0;have hf:=hh.nf.2.2;cases hf;rw[A4 rfl];exact .pure rfl
  ·have A6':=(A6.kw K11).fz;rw[ae.aC,Z4,<-oy]at A6';obtain⟨v',h1,h2⟩:=O11.fz (Z9 _) (by omega) A6';rcases h2 with ⟨-,h2,-⟩|rfl
   ·exact absurd h2 h0
   ·rw[ae.cZ (i:=0) (by omega)];exact h1
 rw[hcl];exact .ag (.cons (.pure rfl) (.cons (.pure rfl) (.cons (.pure rfl) (.cons zw (.cons zb (.cons za (.cons zl .nil)))))))
def pT:Ex:=.mk 0 [] 0 .sn (.nil true) (.nil true) (.nil true)
open Classical in
def jZ(x:Ex):Ex:=if x.depth<=4096 then x else pT
theorem Yd:bH (.build 35 #[]) prog S t st=some (.ag pT.cells,st):=by
 obtain⟨fs,h1,-⟩:=Ah;show @Bool.rec (fun _=>aR) none (df prog 35 [] st) (fu prog 35)=_
 rw[yF];show df prog 35 [] st=_
 unfold df;rw[h1];simp only[sQ,iQ,jg,fill];rfl
theorem Hf:pT.Ty:=by simp only[pT,Ex.Ty,ae.Ty];exact⟨by omega,⟨[],.inl ⟨rfl,rfl⟩,by simp⟩,trivial,trivial,trivial⟩
theorem Eu(h:x.Ty):(jZ x).Ty:=by
 unfold jZ;split
 ·exact h
 ·exact Hf
theorem ace(hx:Wl x)(hs:x.size<=1000000)(hN:4000000<=N):(Tw c (N+2)).call 23 [.ag x.cells] st=some (.ag (jZ x).cells,st):=by
 refine Em rfl rfl rfl rfl (by decide) (by simp[aQ,bg,Ex.nX hx.1]) func23 rfl (Z3 rfl) (by simpa[bg]using Ex.nX (Eu hx.1)) ?_;unfold aV;obtain⟨s0,s1,rE,rR,hrE,hs0,hrR,hs1,cE,cR,lER,lR,lo,K1⟩:=wI aK x.cells;have zz:bm prog 35=some eM:=qH;have r7:rd s1 rE 0 7=some x.cells:=by rw[au cE,cQ,<-x.aO,dD]
 obtain⟨b,e1,e2,e3⟩:=WV (c:=c) (st:=s1) x hx.1 hs (N:=N) (by omega);have cl:=aby (c:=c) x hx hs s1 (N+1) (by omega);have fin:∀ {y:Ex},y.Ty->(∃ t,ao (f23.body.getD .skip) ⟨prog,Tw c (N+1),false,f23.ntmps,N+1⟩ (tmpsOf [.ag x.cells] 0 .lf) aK=.rt t (s1.ax rR y.cells rR)/\ab t 2=.p rR 0)->Eo (eE prog f23.results.toList (ao (f23.body.getD .skip) ⟨prog,Tw c (N+1),false,f23.ntmps,N+1⟩ (tmpsOf [.ag x.cells] 0 .lf) aK)) (.ag y.cells):=by rintro y hy ⟨t,a1,a2⟩;have er:eE prog f23.results.toList (.rt t (s1.ax rR y.cells rR))=some (.ag y.cells,s1.ax rR y.cells rR):=tQ a2 (by rw[au (cj _ _ _),cQ,<-y.aO,dD]);rw[a1,er];exact⟨_,_,rfl,.pure (by simpa[bg]using Ex.nX hy)⟩
 have wr:∀ y:Ex,y.Ty->wt s1 rR 0 y.cells=some (s1.ax rR y.cells rR):=fun y hy=>by
  have hw:=bP cR 0 y.cells (by rw[y.aO];exact J1 _) (Ex.dH hy.wf)
  rwa [gZ,jG (by rw[y.aO];rfl)]at hw
 show Eo (eE prog f23.results.toList (ao (f23.body.getD .skip) ⟨prog,Tw c (N+1),false,f23.ntmps,N+1⟩ (tmpsOf [.ag x.cells] 0 .lf) aK)) _
 by_cases hd:x.depth<=4096
 ·have hb:=e2 hd;subst hb;have:jZ x=x:=by unfold jZ;rw[if_pos hd]
  rw[this];refine fin hx.1 ?_;have sto:=aI cI aH s1 rR 0 x.cells x.aO;have w:=wr x hx.1;simp[f23,hrE,hs0,aJ,zz,hrR,hs1,aH,r7,e1,cl,sto,w]
 ·have hb:b=false:=by
   cases b with
   |false=>rfl
   |true=>exact absurd (e3 rfl) hd
  subst hb;have:jZ x=pT:=by unfold jZ;rw[if_neg hd]
  rw[this];refine fin Hf ?_;have sto:=aI cI aH s1 rR 0 pT.cells pT.aO;have w:=wr pT Hf;simp[f23,hrE,hs0,aJ,zz,hrR,hs1,aH,r7,e1,Yd,sto,w]
def jH(s:St)(r:Nat)(T:ah->Bool):Prop:=∃ es k,s.get r=some (.mp es k)/\strKeys es/\(∀ x,Go.Ev.look es x=jL T x)/\∀ e∈es,e.2.2<k
theorem jH.mp(h:jH s r T):cS s r (jL T):=by obtain⟨es,k,h1,h2,h3,-⟩:=h;exact⟨es,k,h1,h2,h3⟩
theorem jH.keep{B:List Nat}(h:jH s r T)(k:Kp A B s s')(h1:r<s.next)(h2:r∉A):jH s' r T:=by obtain⟨es,c,h,h3⟩:=h;exact⟨es,c,by rw[k.get _ h1 h2];exact h,h3⟩
theorem jH.new(st:St):jH (st.new (.mp [] 0)) st.next (fun _=>false):=by refine⟨[],0,?_,trivial,fun _=>rfl,fun e h=>by cases h⟩;unfold St.get St.new;rw[Tr.eh,if_pos rfl]
theorem JO:∀ (es:List (AV× AV× Nat)) (k n:Nat) (a b:AV),(∀ e∈es,e.2.2<k)->tJ k (es++[(a,b,k)]) n=some (n+es.length)
 |[],k,n,a,b,_=>by
  show @Bool.rec (fun _=>Option Nat) _ (some n) (J3 k k)=_
  rw[Nat.beq_refl];rfl
 |(x,y,z)::es,k,n,a,b,h=>by
  have hz:J3 z k=false:=by have:z<k:=h _ (Q7 ..);rw[bu];simp;omega
  show @Bool.rec (fun _=>Option Nat) (tJ k (es++[(a,b,k)]) (n+1)) (some n) (J3 z k)=_
  rw[hz];show tJ k (es++[(a,b,k)]) (n+1)=_
  rw[JO es k (n+1) a b fun e he=>h e (Q1 _ he)];simp only[V2];congr 1;omega
theorem QC:∀ (es:List (AV× AV× Nat)) (k:Nat) (a b v:AV),mf (es++[(a,b,k)]) es.length v=es++[(a,v,k)]
 |[],k,a,b,v=>rfl
 |(x,y,z)::es,k,a,b,v=>by
  show(x,y,z)::mf (es++[(a,b,k)]) es.length v=_
  rw[QC es k a b v];rfl
theorem jH.add(h:jH s r T)(_:r<s.next){x:ah}(hx:T x=false):
  ∃ k s1 s2,mapEntry prog 49 s (.m r) (.s x)=some (.tu [.b false,.i .i64 (k:Int)],s1)/\Kp [r] [] s s1/\entryStore s1 (.b true) (.m r) (gk (.i .i64 (k:Int)))=some s2/\Kp [r] [] s1 s2/\jH s2 r (fun y=>decide (y=x)||T y):=by
 obtain⟨es,k,h1,h2,h3,h4⟩:=h;have hl:Go.Ev.look es x=none:=by rw[h3];unfold jL;simp[hx]
 have hf:find (.s x) es 0=some none:=by
  rcases xw h2 x with ⟨g,-⟩|⟨i,v,-,g,-⟩
  ·exact g
  ·rw[hl]at g;cases g
 obtain⟨kk,m1,m2⟩:=gW.und;refine⟨k,s.put r (.mp (es++[(.s x,.b false,k)]) (k+1)),(s.put r (.mp (es++[(.s x,.b false,k)]) (k+1))).put r (.mp (es++[(.s x,.b true,k)]) (k+1)),?_,.put (by simp),?_,.put (by simp),_,_,uT _ _,CC h2,fun y=>?_,fun e he=>?_⟩
 ·unfold mapEntry;simp only[gW.fits x,m1,h1];show Ao prog s 4 r (.s x) (some (.mp es k))=_
  unfold Ao;simp only[hf,gW.zero];rfl
 ·show entryStore _ (.b true) (.m r) (some k)=_
  unfold entryStore;simp only[uT];show FO _ r (.b true) (es++[(.s x,.b false,k)]) (k+1) (tJ k (es++[(.s x,.b false,k)]) 0)=_
  rw[JO es k 0 _ _ h4,V3];show some (St.put _ r (.mp (mf (es++[(.s x,.b false,k)]) es.length (.b true)) (k+1)))=_
  rw[QC]
 ·rw[HK hl,h3];unfold jL;by_cases e:y=x
  ·simp[e]
  ·simp[e]
 ·rcases Q2.1 he with he|he
  ·have:=h4 e he;omega
  ·rw[Q4]at he;subst he;exact Nat.lt_succ_self _
@[simp] theorem afF{ty:TypeId}{m k:Operand}:bH (.mapEntry ty m k) P S t st=mapEntry P ty st (ai t m) (ai t k):=rfl
@[simp] theorem ads{ty:TypeId}{m s x:Operand}:bH (.entryStore ty m s x) P S t st=done (entryStore st (ai t x) (ai t m) (gk (ai t s))):=rfl
theorem YA:fu prog 60=true:=by kernel_rfl
theorem acU:bm prog 60=some [.mn,.mn,.sn,.i .i64 0]:=by kernel_rfl
theorem aaY:∃ fs,prog.underlying 60=some (.struct fs)/\gM prog fs 0=some (0,1)/\gM prog fs 1=some (1,1):=⟨_,underlying60,by kernel_rfl,by kernel_rfl⟩
theorem WH{x y:Operand}{q:Nat}(hx:ai t x=.m r)(hy:ai t y=.m q):bH (.build 60 #[(0,x),(1,y)]) prog S t st=some (.ag [.m r,.m q,.sn,.i .i64 0],st):=by
 obtain⟨fs,h1,h2,h3⟩:=aaY;show @Bool.rec (fun _=>aR) none (df prog 60 [(0,ai t x),(1,ai t y)] st) (fu prog 60)=_
 rw[YA,hx,hy];show df prog 60 _ st=_
 unfold df;rw[h1];simp only[acU,jg,fill,h2,h3];rfl
def nq(q:ae)(i:Nat):ah->Bool:=fun x=>decide (x∈q.names.take i)
theorem Pk{i:Nat}(h:i<q.names.length):nq q (i+1)=fun y=>decide (y=q.names[i])||nq q i y:=by funext y;unfold nq;rw[<-J9 h,Z5,decide_eq_true_iff,V4,decide_eq_true_iff,decide_eq_true_iff,Q2,Q4];exact Or.comm
theorem QV(q:ae):nq q 0=fun _=>false:=by funext x;simp[nq]
def SJ(o:Option (AV× St))(st:St)(q:ae):Prop:=∃ lr mn mu s' al,o=some (.p lr 0,s')/\s'.ce lr=some ([.m mn,.m mu,.sn,.i .i64 0],lr,al)/\jH s' mn (fun x=>decide (x∈q.names))/\jH s' mu (fun x=>decide (x∈q.names))/\st.next<=mn/\mn<mu/\mu<lr/\lr<s'.next/\Kp [] [] st s'
theorem Xp(_:cv.cells=some [cv]/\bS cv=true/\bg cv=true)(hq:q.Ty 1)(hl:q.len<=1000000)(hd:q.names.Nodup)(hN:2000000<=N):SJ ((Tw c N).call 21 [.ag [cv,q.slice 8]] st) st q:=by
 obtain⟨N,rfl⟩:∃ N',N=N'+1:=⟨N-1,by omega⟩;rw[dt rfl func21 rfl (Z3 rfl)];unfold aV;have c1:=cz (st:=st) [cv,q.slice 8];have k1:Kp [] [] st (st.aw [cv,q.slice 8]):=.aw _ _ _;have n1:(st.aw [cv,q.slice 8]).next=st.next+1:=rfl;obtain⟨s1,hs1⟩:∃ s1,st.aw [cv,q.slice 8]=s1:=⟨_,rfl⟩;obtain⟨r1,hr1⟩:∃ r,st.next=r:=⟨_,rfl⟩;rw[hs1]at k1 c1 n1;rw[hr1]at c1 n1;have k2:Kp [] [] s1 (s1.new (.mp [] 0)):=.new _ _ _;have E2:=jH.new s1;have n2:(s1.new (.mp [] 0)).next=s1.next+1:=rfl;obtain⟨s2,hs2⟩:∃ s2,s1.new (.mp [] 0)=s2:=⟨_,rfl⟩;obtain⟨mn,hmn⟩:∃ r,s1.next=r:=⟨_,rfl⟩;rw[hs2]at k2 E2 n2;rw[hmn]at E2 n2;have k3:Kp [] [] s2 (s2.new (.mp [] 0)):=.new _ _ _;have E3:=jH.new s2;have n3:(s2.new (.mp [] 0)).next=s2.next+1:=rfl;obtain⟨s3,hs3⟩:∃ s3,s2.new (.mp [] 0)=s3:=⟨_,rfl⟩;obtain⟨mu,hmu⟩:∃ r,s2.next=r:=⟨_,rfl⟩;rw[hs3]at k3 E3 n3;rw[hmu]at E3 n3;have k4:Kp [] [] s3 (s3.aw [.m mn,.m mu,.sn,.i .i64 0]):=.aw _ _ _;have c4:=cz (st:=s3) [.m mn,.m mu,.sn,.i .i64 0];have n4:(s3.aw [.m mn,.m mu,.sn,.i .i64 0]).next=s3.next+1:=rfl;obtain⟨s4,hs4⟩:∃ s4,s3.aw [.m mn,.m mu,.sn,.i .i64 0]=s4:=⟨_,rfl⟩;obtain⟨lr,hlr⟩:∃ r,s3.next=r:=⟨_,rfl⟩;rw[hs4]at k4 c4 n4;rw[hlr]at c4 n4;have K14:=(k2.trans k3).trans k4;have En4:=E2.keep (k3.trans k4) (by omega) (by simp);have Eu4:=E3.keep k4 (by omega) (by simp);have C1:=K14.ce c1 (by omega) (by omega) (by simp) (by simp);have b60:=fun(t:Tr AV) (h1:ai t (.tmp 6)=.m mn) (h2:ai t (.tmp 7)=.m mu)=>WH (S:=Tw c N) (st:=s3) h1 h2
 have r4:rd s4 r1 1 1=some [q.slice 8]:=by rw[au C1];rfl
 have lb:=fun s:St=>aY (st:=s) underlying23 (q.bK 8) (q.bJ 8)
 have zz:bm prog 37=some gL:=sy;simp[f21,hs1,hr1,hs2,hmn,hs3,hmu,b60,hs4,hlr,r4,lb,bw];generalize hLL:bf _ _ _ _=L;obtain⟨t1,s5,rfl,u3,u1,u2,u4⟩:=dy hLL 0 q.list.length
  (fun i t' s'=>ab t' 3=.p lr 0/\ab t' 11=q.slice 8/\ab t' 12=.i .i64 (q.len:Int)/\ab t' 13=.i .i64 (i:Int)/\jH s' mn (nq q i)/\jH s' mu (nq q i)/\Kp [mn,mu] [] s4 s')
  (fun t' s'=>ab t' 3=.p lr 0/\jH s' mn (nq q q.list.length)/\jH s' mu (nq q q.list.length)/\Kp [mn,mu] [] s4 s') (by rw[<-ae.aC];omega)
  ⟨by simp,by simp,by simp,by simp,by rw[QV];exact En4,by rw[QV];exact Eu4,.refl _ _ _⟩
  (by
   rintro i t' s' hi ⟨i3,i11,i12,i13,iE,iU,iK⟩;clear hLL;have hil:i<q.len:=by rw[ae.aC];exact hi
   have e5:(i:Int)<(q.len:Int):=by omega
   have e7:wr .i64 ((i:Int)+1)=((i+1:Nat):Int):=by rw[aZ (by omega) (by omega)];rfl
   obtain⟨a0,ix,ldx⟩:=(cH.pure s' [] 8 q).at fG kI hq.pre rfl hi;have ld:=ldx [] [] s' (.refl _ _ _) (by simp) (by simp);have hp1:=ir (ae.cU hq _ (Q6 hi)).1;have hTx:=(ae.cU hq _ (Q6 hi)).2;have hin:i<q.names.length:=by rw[eW];exact hil
   have e1:fD (q.list[i].1.headD .un)=q.names[i]:=by simp[ae.names,gn]
   rw[e1]at hp1;obtain⟨nm,hnm⟩:∃ nm,q.names[i]=nm:=⟨_,rfl⟩;rw[hnm]at hp1;rw[hp1]at ld;obtain⟨s6,p1,p2,p3,p4⟩:=cO (s:=s') (z:=gL) (cells:=[.s nm]++q.list[i].2.cells) (by simp[gL,Ex.aO]) (by rw[gX rfl (Ex.dH hTx.wf)]);have n6:=p3.next;have ni:=iK.next;have hnot:nq q i nm=false:=by
    unfold nq;rw[decide_eq_false_iff_not,<-hnm];intro hm;obtain⟨j,hj,hj2⟩:=List.getElem_of_mem hm;rw[List.getElem_take]at hj2;have hji:j<i:=by rw[List.length_take]at hj;omega
    exact List.pairwise_iff_getElem.1 hd j i (by omega) hin hji hj2
   obtain⟨ka,s7,s8,v1,v2,v3,v4,v5⟩:=(iE.keep p3 (by omega) (by simp)).add (by omega) hnot;have K68:=v2.trans v4;have n8:=K68.next;obtain⟨kb,s9,s10,w1,w2,w3,w4,w5⟩:=((iU.keep p3 (by omega) (by simp)).keep K68 (by omega) (by simp;omega)).add (by omega) hnot;have K8A:=w2.trans w4;have rl:∀ {s:St},Kp [mn,mu] [] s4 s->∀ o,rd s lr o 1=cut [.m mn,.m mu,.sn,.i .i64 0] o 1:=fun kk o=>au (kk.ce c4 (by omega) (by omega) (by simp;omega) (by simp))
   have K6:Kp [mn,mu] [] s4 s6:=iK.trans (p3.sub (by simp) (by simp));have K8:Kp [mn,mu] [] s4 s8:=K6.trans (K68.sub (by simp) (by simp));have KA:Kp [mn,mu] [] s4 s10:=K8.trans (K8A.sub (by simp) (by simp));have rl0:rd s6 lr 0 1=some [.m mn]:=by rw[rl K6];rfl
   have rl1:rd s6 lr 1 1=some [.m mu]:=by rw[rl K6];rfl
   have rn6:rd s6 s'.next 0 1=some [.s nm]:=by rw[au p2];rfl
   have rn8:rd s8 s'.next 0 1=some [.s nm]:=by rw[au (K68.ce p2 p4 p4 (by simp;omega) (by simp))];rfl
   have sto:=aI dn cV (s'.aw gL) s'.next 0 ([.s nm]++q.list[i].2.cells) (by simp[Ex.aO]);have hA:jH s10 mn (nq q (i+1)):=by rw[Pk hin,hnm];exact v5.keep K8A (by omega) (by simp;omega)
   have hB:jH s10 mu (nq q (i+1)):=by rw[Pk hin,hnm];exact w5
   simp at ld sto p1;simp[i11,i12,i13,e5,ix,ld,aJ,zz,sto,p1,br];rw[eJ (fl:=[(11,13),(11,15)])]
   ·simp[i3,i13,e7,rl0,rl1,rn6,v1,v3,w1,w3];exact⟨_,_,⟨rfl,rfl⟩,by simp[i3],by simp[i11],by simp[i12],by simp,hA,hB,KA⟩
   ·kernel_rfl
   ·intro R hR;simp[i3,rl0,rl1,rn6,v1,v3,w1,w3]at hR;subst hR;simp only[J5,J6,J8,Z7];have rn7:rd s7 s'.next 0 1=some [.s nm]:=by rw[au (v2.ce p2 p4 p4 (by simp;omega) (by simp))];rfl
    refine⟨bV rfl rfl rfl (s:=s7) ?_,bV rfl rfl rfl (s:=s8) ?_⟩
    ·simp[rn7]
    ·simp[rn8])
  (by rintro t' s' ⟨i3,i11,i12,i13,iE,iU,iK⟩;clear hLL;have hll:=ae.aC q;simp[i12,i13,hll];exact⟨_,_,⟨rfl,rfl⟩,by simp[i3],iE,iU,iK⟩)
 clear hLL;have hall:nq q q.list.length=fun x=>decide (x∈q.names):=by funext x;unfold nq;rw[<-ae.aC,<-eW,Z4]
 rw[hall]at u1 u2;have n5:=u4.next;refine⟨lr,mn,mu,s5,_,?_,u4.ce c4 (by omega) (by omega) (by simp;omega) (by simp),u1,u2,by omega,by omega,by omega,by omega,dz (k1.trans K14) u4 (by simp;omega) (by simp)⟩;simp[u3,aG,aF]
theorem abU{x:AV}(T:gO P ty e z)(h1:lenOf x=some 0)(h2:firstCells st z 0 x=some [])(h3:gk x=none):gS P st [ty,ty] [.sn,x]=some (.sn,st):=by
 have e0:(pJ P [ty,ty]&&bp P e&&bq [])=true:=by rw[T.plain,T.sl.inf];rfl
 have eb:gS P st [ty,ty] [.sn,x]=append P st [ty,ty] .sn x:=by
  show uY P st [ty,ty] .sn x (gk x)=_
  rw[h3];rfl
 rw[eb];unfold append;simp only[T.el,h1,T.sl.sz,h2,e0];simp
def uf(s:St)(lo:Nat)(v:AV)(L:List ah):Prop:=(L=[]/\v=.sn)\/(L≠[]/\∃ r f al,v=.sl r 0 L.length 1 none/\s.ce r=some (L.map .s,f,al)/\lo<=r/\lo<=f/\r<s.next/\f<s.next)
theorem uf.keep{L:List ah}{B:List Nat}(h:uf s lo v L)(k:Kp A B s s')(hA:∀ x,x∈A->x<lo)(hB:∀ x,x∈B->x<lo):uf s' lo v L:=by
 rcases h with h|⟨h0,r,f,al,h1,h2,h3,h4,h5,h6⟩
 ·exact .inl h
 ·exact .inr ⟨h0,r,f,al,h1,k.ce h2 h5 h6 (fun hh=>by have:=hA _ hh;omega) (fun hh=>by have:=hB _ hh;omega),h3,h4,V6 h5 k.next,V6 h6 k.next⟩
theorem uf.more{L M:List ah}(h:uf s lo v L)(hw:de w (M.map .s))(hl:L.length+M.length<=1000000)(hlo:lo<=s.next):∃ v' s' g,gS prog s [31,31] [v,w]=some (v',s')/\uf s' lo v' (L++M)/\Kp [] g s s'/\(∀ x,x∈g->lo<=x/\x<s.next):=by
 obtain⟨a1,a2,a3⟩:=EN (st:=s) hw;rw[Q0]at a1 a2;have hO:∃ g,aW s lo 1 v L.length (L.map .s) g:=by
  rcases h with ⟨rfl,rfl⟩|⟨h0,r,f,al,h1,h2,h3,h4,h5,h6⟩
  ·exact⟨none,.nil _ _ _⟩
  ·exact⟨some f,.inr (.inr ⟨r,f,al,rfl,h1,h2,by simp,by
    cases L with
    |nil=>exact absurd rfl h0
    |cons=>simp,h3,h4,h5,h6⟩)⟩
 obtain⟨g,hO⟩:=hO;obtain⟨v',g',s',w1,w2,w3,w4,w5,w6⟩:=hO.Cy fM a1 a2 a3 (uD M) (by simp) (by omega) hlo;refine⟨v',s',g.toList,w1,?_,w3,fun x hx=>hO.fJ x (by simpa using hx)⟩;by_cases hne:L++M=[]
 ·left;refine⟨hne,?_⟩;obtain⟨rfl,rfl⟩:=List.append_eq_nil_iff.1 hne;rcases h with ⟨-,rfl⟩|⟨h0,-⟩
  ·rw[abU fM a1 a2 a3]at w1;cases w1;rfl
  ·exact absurd rfl h0
 ·right;refine⟨hne,?_⟩;have hn:(L++M).length≠0:=fun hh=>hne (Z8 hh)
  rw[J4]at hn;rcases w2 with ⟨-,h,-⟩|⟨r,-,h,-⟩|⟨r,f,al,-,rfl,q1,q2,q3,q4,q5,q6,q7⟩
  ·omega
  ·omega
  ·exact⟨r,f,al,by rw[J4],by rw[V7];exact q1,q4,q5,q6,q7⟩
structure Sv(s0:St)(lo:Nat)(w:AV)(L:List ah):Prop where
 len:∀ s:St,Go.Ev.ft prog s [31] [w]=some (.i .i64 (L.length:Int),s)
 at_:∀ (i:Nat) (hi:i<L.length),∃ a,indexAddr prog 31 w (.i .i64 (i:Int))=some a/\∀ (A B:List Nat) (s:St),Kp A B s0 s->(∀ x∈A,x<lo)->(∀ x∈B,x<lo)->loadAt prog 9 s a=some (.s L[i])
def MM(o:Option (AV× St))(st:St)(q:ae):Prop:=∃ w s' L,o=some (w,s')/\Sv s' st.next w L/\(∀ x,x∈L↔x∈q.bC)/\L.length<=q.bC.length/\Kp [] [] st s'
noncomputable def nQ:Nat->Code
 |0=>f22.body.getD .skip
 |k+1=>aj (nQ k)
theorem VJ{r1:Nat}(hq:q.Ty 1)(hs:q.size<=1000000)(hl:q.bC.length<=1000000)(c1:s.ce r1=some ([cv,q.slice 8],r1,al))(_:r1<s.next)(hlo:lo=s.next)(h1:ab t 1=.p r1 0)(h3:ab t 3=.sn)(hN:q.size+3000000<=N):
  ∃ t' s',ao (aq (nQ 3)) ⟨prog,Tw c N,false,f22.ntmps,N⟩ t s=.nx t' s'/\uf s' lo (ab t' 3) q.bC/\Kp [] [] s s':=by
 have lb:=fun s:St=>aY (st:=s) underlying23 (q.bK 8) (q.bJ 8)
 have rb:rd s r1 1 1=some [q.slice 8]:=by rw[au c1];rfl
 have hbl:=q.bZ;have zz:bm prog 37=some gL:=sy;simp[nQ,aq,aj,f22,h1,rb,lb,bw];generalize hLL:bf _ _ _ _=L;obtain⟨t1,s5,rfl,u1,u2⟩:=dy hLL 0 q.list.length
  (fun i t' s'=>ab t' 10=q.slice 8/\ab t' 11=.i .i64 (q.len:Int)/\ab t' 12=.i .i64 (i:Int)/\Kp [] [] s s'/\∃ A,uf s' lo (ab t' 3) A/\A++(dm q i).bC=q.bC)
  (fun t' s'=>uf s' lo (ab t' 3) q.bC/\Kp [] [] s s') (by rw[<-ae.aC];omega)
  ⟨by simp,by simp,by simp,.refl _ _ _,[],.inl ⟨rfl,by simp[h3]⟩,by simp[dm]⟩
  (by
   rintro i t' s' hi ⟨i10,i11,i12,iK,A,iA,iE⟩;clear hLL;have hil:i<q.len:=by rw[ae.aC];exact hi
   have e5:(i:Int)<(q.len:Int):=by omega
   have e7:wr .i64 ((i:Int)+1)=((i+1:Nat):Int):=by rw[aZ (by omega) (by omega)];rfl
   obtain⟨a0,ix,ldx⟩:=(cH.pure s' [] 8 q).at fG kI hq.pre rfl hi;have ld:=ldx [] [] s' (.refl _ _ _) (by simp) (by simp);have hp1:=ir (ae.cU hq _ (Q6 hi)).1;have hTx:=(ae.cU hq _ (Q6 hi)).2;have hszx:=ae.dU (Q6 hi);obtain⟨nm,hnm⟩:∃ nm,fD (q.list[i].1.headD .un)=nm:=⟨_,rfl⟩;rw[hnm]at hp1;rw[hp1]at ld;rw[JA q hi]at iE;have hlen:=congrArg List.length iE;simp only[J4]at hlen;obtain⟨v,v1,v2⟩:=KG (c:=c) q.list[i].2 hTx (by omega) (by omega) N (by omega);obtain⟨s6,p1,p2,p3,p4⟩:=cO (s:=s') (z:=gL) (cells:=[.s nm]++q.list[i].2.cells) (by simp[gL,Ex.aO]) (by rw[gX rfl (Ex.dH hTx.wf)]);have n6:=p3.next;have ni:=iK.next;have v3:=v2 s6;have rx:rd s6 s'.next 1 7=some q.list[i].2.cells:=by rw[au p2,show cut ([.s nm]++q.list[i].2.cells) 1 7=cut q.list[i].2.cells 0 7 from rfl,cQ,<-q.list[i].2.aO,dD]
   obtain⟨w,s7,g,w1,w2,w3,w4⟩:=(iA.keep p3 (by simp) (by simp)).more v1 (by omega) (by omega);have sto:=aI dn cV (s'.aw gL) s'.next 0 ([.s nm]++q.list[i].2.cells) (by simp[Ex.aO]);have K:Kp [] [] s s7:=dz (iK.trans p3) w3 (by simp) (fun x hx=>by have:=w4 x hx;omega);simp at ld sto p1;simp[i10,i11,i12,e5,e7,ix,ld,aJ,zz,sto,p1,aH,rx,v3,w1];exact⟨_,_,⟨rfl,rfl⟩,by simp[i10],by simp[i11],by simp,K,_,by simpa using w2,by rw[List.append_assoc];exact iE⟩)
  (by
   rintro t' s' ⟨i10,i11,i12,iK,A,iA,iE⟩;clear hLL;have hll:=ae.aC q;have:(dm q q.list.length).bC=[]:=by obtain⟨f,hf⟩:=tK q;rw[hf];rfl
   rw[this,List.append_nil]at iE;simp[i11,i12,hll];exact⟨_,_,⟨rfl,rfl⟩,by rw[<-iE];simpa using iA,iK⟩)
 clear hLL;exact⟨t1,s5,by simp,u1,u2⟩
theorem abo(hcs:cv.cells=some [cv]/\bS cv=true/\bg cv=true)(hq:q.Ty 1)(hs:q.size<=1000000)(hl:q.bC.length<=1000000)(hC:oz c cv q 0)(hN:q.size+3000000<=N):MM ((Tw c (N+1)).call 22 [.ag [cv,q.slice 8]] st) st q:=by
 obtain⟨N,rfl⟩:∃ N',N=N'+1:=⟨N-1,by omega⟩;rw[dt rfl func22 rfl (Z3 rfl)];unfold aV;show MM (eE prog f22.results.toList (ao (nQ 0) ⟨prog,Tw c (N+1),false,f22.ntmps,N+1⟩ (tmpsOf [.ag [cv,q.slice 8]] 0 .lf) st)) _ _
 have c1:=cz (st:=st) [cv,q.slice 8];have k1:Kp [] [] st (st.aw [cv,q.slice 8]):=.aw _ _ _;have n1:(st.aw [cv,q.slice 8]).next=st.next+1:=rfl;obtain⟨s1,hs1⟩:∃ s1,st.aw [cv,q.slice 8]=s1:=⟨_,rfl⟩;obtain⟨r1,hr1⟩:∃ r,st.next=r:=⟨_,rfl⟩;rw[hs1]at k1 c1 n1;rw[hr1]at c1 n1;have ra:rd s1 r1 0 2=some [cv,q.slice 8]:=by rw[au c1];rfl
 have ck:=hC s1 (.ag [cv,q.slice 8]) (N+1) (by omega) (.pure (by simp[bg,aQ,hcs.2.2,ae.mg hq 8]));have a0:∃ t,ao (nQ 0) ⟨prog,Tw c (N+1),false,f22.ntmps,N+1⟩ (tmpsOf [.ag [cv,q.slice 8]] 0 .lf) st=ao (nQ 3) ⟨prog,Tw c (N+1),false,f22.ntmps,N+1⟩ t s1/\ab t 1=.p r1 0/\ab t 3=.sn:=by simp[-Mr,-oE,-lS,-Pf,nQ,aj,f22,hs1,hr1,lS lI An,eP,ra,mV func9 rfl,ck];exact⟨_,rfl,by simp,by simp⟩
 obtain⟨t0,a0,d1,d3⟩:=a0;rw[a0];obtain⟨t1,s2,a1,hZ,k2⟩:=VJ (c:=c) hq hs hl c1 (by omega) rfl d1 d3 (N:=N+1) (by omega);have n2:=k2.next;rw[dw (cd:=nQ 3) rfl a1,show aj (nQ 3)=nQ 4 from rfl];rcases hZ with ⟨h0,hv⟩|⟨h0,r,f,al,hv,hc,g1,g2,g3,g4⟩
 ·have a2:∃ t,ao (nQ 4) ⟨prog,Tw c (N+1),false,f22.ntmps,N+1⟩ t1 s2=.rt t s2/\ab t 2=.sn:=by
   simp[nQ,aj,f22,hv,abe,RW]
  obtain⟨t2,a2,z2⟩:=a2;rw[a2];refine⟨.sn,s2,[],?_,⟨fun s=>aY underlying31 rfl rfl,fun i hi=>absurd hi (by simp)⟩,by rw[h0];simp,by simp,k1.trans k2⟩;simp[f22,z2,aG,aF]
 ·obtain⟨L,hL⟩:∃ L,q.bC=L:=⟨_,rfl⟩;rw[hL]at hv hc h0 hl;have hL0:0<L.length:=Nat.pos_of_ne_zero fun hh=>h0 (Z8 hh)
  have hsl:(ek L).length=L.length:=xJ L;have rd2:rd s2 r 0 L.length=some (L.map .s):=by rw[au hc,cQ,<-Q0 (f:=AV.s),dD]
  have hw:=bP hc 0 ((ek L).map .s) (by rw[Q0,Q0,hsl];omega) (uD _);rw[gZ,jG (by rw[Q0,Q0,hsl])]at hw;have k3:Kp [r] [f] s2 (s2.ax r ((ek L).map .s) f):=.ax (by simp) (by simp);have c3:=cj r ((ek L).map .s) f (st:=s2);obtain⟨s3,hs3⟩:∃ s3,s2.ax r ((ek L).map .s) f=s3:=⟨_,rfl⟩;rw[hs3]at hw k3 c3;have rd3:rd s3 r 0 L.length=some ((ek L).map .s):=by rw[au c3,cQ,<-hsl,<-Q0 (f:=AV.s),dD]
  have hcl:=MF (ek L);have hol:(nh L.length (ek L)).length=L.length:=by simp[nh];omega
  have hw2:=bP c3 0 ((nh L.length (ek L)).map .s) (by rw[Q0,Q0,hol,hsl];omega) (uD _);rw[gZ,jG (by rw[Q0,Q0,hol,hsl])]at hw2;have k4:Kp [r] [f] s3 (s3.ax r ((nh L.length (ek L)).map .s) f):=.ax (by simp) (by simp);have c4:=cj r ((nh L.length (ek L)).map .s) f (st:=s3);obtain⟨s4,hs4⟩:∃ s4,s3.ax r ((nh L.length (ek L)).map .s) f=s4:=⟨_,rfl⟩;rw[hs4]at hw2 k4 c4;have n3:=k3.next;have n4:=k4.next;have so:=abt (c:=c) (n:=N) (m:=L.length) (z:=1) (q:=none) hL0 (by omega) rd2 hw;have co:=Wg (c:=c) (n:=N) (m:=L.length) (z:=1) (q:=none) hL0 (by omega) rd3 hw2;have a2:∃ t,ao (nQ 4) ⟨prog,Tw c (N+1),false,f22.ntmps,N+1⟩ t1 s2=.rt t s4/\ab t 2=.sl r 0 (lM (ek L)).length 1 none:=by simp[nQ,aj,f22,hv,so,co]
  obtain⟨t2,a2,z2⟩:=a2;rw[a2];have hmem:∀ x,x∈lM (ek L)↔x∈L:=fun x=>YR.trans (Du L).mem_iff
  refine⟨.sl r 0 (lM (ek L)).length 1 none,s4,lM (ek L),by simp[f22,z2,aG,aF],⟨fun s=>aY underlying31 rfl rfl,fun i hi=>⟨.p r i,?_,fun A B s kk hA hB=>?_⟩⟩,by rw[hL];exact hmem,by rw[hL];omega,dz (dz (k1.trans k2) k3 (by simp;omega) (by simp;omega)) k4 (by simp;omega) (by simp;omega)⟩
  ·have:=kQ underlying31 jT oO r 0 (lM (ek L)).length i none hi;rw[Nat.mul_one,V3]at this;exact this
  ·have hc5:=kk.ce c4 (by omega) (by omega) (fun hh=>by have:=hA _ hh; omega) (fun hh=>by have:=hB _ hh; omega);rw[oE jT nU,au hc5];have hi2:i<(nh L.length (ek L)).length:=by omega
   have hcL:∀ (k:Nat) (A:List ah),i<A.length->cut ((A++List.replicate k []).map AV.s) i 1=some [.s (A.getD i [])]:=by intro k A hA;rw[lJ _ _ _ (by rw[Q0,J4];omega),List.drop_eq_getElem_cons (by rw[Q0,J4];omega)];simp[List.getElem_append_left,hA]
   have:cut ((nh L.length (ek L)).map AV.s) i 1=some [.s (lM (ek L))[i]]:=by unfold nh;rw[hcL _ _ hi];simp[hi]
   rw[this];rfl
section
variable {X : List Nat}
theorem cH.FM(hX:∀ g,g∉X->n<=g)(h:cH s X v z l)(hT:l.Ty m)(hz:eD m+7=z):Fz n s v (l.slice z):=by
 rcases h with rfl|⟨h0,r,g,al,q,rfl,h2,h3,h4,h5,h6⟩
 ·exact .pure (ae.mg hT z)
 ·rw[ae.cZ (i:=0) (by omega)];exact .slice h2 (py hT.pre hz).symm (hX g h6) (.pure (ae.oF hT)) h0
theorem Bx.fzL(hX:∀ g,g∉X->n<=g){v r:List AV}(hr:fB n s r r'):∀ {x:Ex},x.Ty->Bx s X (.ag v) x->fB n s (v++r) (x.cells++r')
 |.mk k nm num ps b a l,hT,⟨bv,av,lv,h1,h2,h3,h4⟩=>by cases h1;exact .cons (.pure rfl) (.cons (.pure rfl) (.cons (.pure rfl) (.cons (.pure hT.2.1.pure) (.cons (h2.FM hX hT.2.2.1 rfl) (.cons (h3.FM hX hT.2.2.2.1 rfl) (.cons (h4.FM hX hT.2.2.2.2 rfl) hr))))))
theorem Bx.Tc{v r:List AV}(hr:gH X s r r'):∀ {x:Ex},x.Ty->Bx s X (.ag v) x->gH X s (v++r) (x.cells++r')
 |.mk k nm num ps b a l,hT,⟨bv,av,lv,h1,h2,h3,h4⟩=>by cases h1;exact .cons (.pure rfl) (.cons (.pure rfl) (.cons (.pure rfl) (.cons (.pure hT.2.1.pure) (.cons (h2.jP hT.2.2.1 rfl) (.cons (h3.jP hT.2.2.2.1 rfl) (.cons (h4.jP hT.2.2.2.2 rfl) hr))))))
theorem dX.fz(hX:∀ g,g∉X->n<=g):∀ {cs:List AV}{L:List (List AV× Ex)},(∀ p∈L,p.2.Ty)->dX s X cs L->fB n s cs (di L)
 |_,[],_,h=>by rw[show _=[] from h];exact .nil
 |_,p::L,hT,⟨nm,v,rest,h1,h2,h3,h4,h5,h6⟩=>by rw[h2,uF,h1];exact .cons (.pure rfl) (h5.fzL hX (dX.fz hX (fun q hq=>hT q (Q1 _ hq)) h6) (hT p (Q7 ..)))
theorem dX.jP:∀ {cs:List AV}{L:List (List AV× Ex)},(∀ p∈L,p.2.Ty)->dX s X cs L->gH X s cs (di L)
 |_,[],_,h=>by rw[show _=[] from h];exact .nil
 |_,p::L,hT,⟨nm,v,rest,h1,h2,h3,h4,h5,h6⟩=>by rw[h2,uF,h1];exact .cons (.pure rfl) (h5.Tc (dX.jP (fun q hq=>hT q (Q1 _ hq)) h6) (hT p (Q7 ..)))
theorem dX.app:∀ {cs ds:List AV}{L M:List (List AV× Ex)},dX s X cs L->dX s X ds M->dX s X (cs++ds) (L++M)
 |_,_,[],_,h,k=>by rw[show _=[] from h];grind
 |_,_,p::L,_,⟨nm,v,rest,h1,h2,h3,h4,h5,h6⟩,k=>⟨nm,v,_,h1,by grind,h3,h4,h5,dX.app h6 k⟩
theorem dX.pure:∀ {L:List (List AV× Ex)},(∀ p∈L,(∃ nm,p.1=[.s nm])/\p.2.Ty)->dX s X (di L) L
 |[],_=>rfl
 |p::L,h=>by obtain⟨⟨nm,h1⟩,h2⟩:=h p (Q7 ..);exact⟨nm,p.2.cells,di L,h1,by rw[uF,h1];rfl,p.2.aO,Ex.dH h2.wf,Bx.pure s X p.2,dX.pure fun q hq=>h q (Q1 _ hq)⟩
theorem dX.at:∀ {cs:List AV}{L:List (List AV× Ex)}{i:Nat}(_:dX s X cs L) (hi:i<L.length),∃ nm v,jW cs i=.s nm::v/\cs[8*i]? = some (.s nm)/\L[i].1=[.s nm]/\v.length=7/\bq v=true/\Bx s X (.ag v) L[i].2
 |_,[],i,h,hi=>by grind
 |cs,p::L,0,⟨nm,v,rest,h1,h2,h3,h4,h5,h6⟩,hi=>by grind[jW]
 |cs,p::L,i+1,⟨nm,v,rest,h1,h2,h3,h4,h5,h6⟩,hi=>by obtain⟨nm',v',g1,g2,g3⟩:=dX.at h6 (by grind:i<L.length);grind[jW,List.drop_drop,List.drop_left]
theorem dX.named(h:dX s X cs L):xq cs L.length=true:=by unfold xq;rw[List.all_eq_true];intro i hi;obtain⟨nm,v,-,g2,-⟩:=h.at (List.mem_range.1 hi);grind
theorem dX.pick{cs:List AV}{L:List (List AV× Ex)}(h:dX s X cs L)(d:List AV× Ex):∀ is:List Nat,(∀ i∈is,i<L.length)->dX s X (is.flatMap (jW cs)) (is.map fun i=>L.getD i d)
 |[],_=>rfl
 |i::is,hi=>by have hl:=hi i (Q7 ..);obtain⟨nm,v,g1,-,g3,g4,g5,g6⟩:=h.at hl;refine⟨nm,v,is.flatMap (jW cs),by grind,by grind,g4,g5,by grind,dX.pick h d is fun j hj=>hi j (Q1 _ hj)⟩
theorem dX.ord(h:dX s X cs L):∃ M,M.Perm L/\dX s X (ur cs L.length) M:=by
 refine⟨(wu cs L.length).map fun i=>L.getD i ([],pT),?_,h.pick _ _ fun i hi=>Qc hi⟩;have hp:=(QA cs L.length).map fun i=>L.getD i ([],pT)
 refine hp.trans (.of_eq ?_);refine List.ext_getElem (by simp) fun i h1 h2=>?_
 grind
end
section
variable {mu : Nat}
theorem Lf.So{new:List AV}(T:gO prog ty e z)(hL:Lf s lr mn mu lo TL U0 n outs W ((eK v++g.toList)++Z))(hO:aW s lo2 z v j cs g)(h1:bq new=true)(h2:new.length=z)(hj:j<1000000)(hlo:lo2<=s.next):
  ∃ v' g' s',gS prog (s.aw new) [ty,ty] [v,.sl s.next 0 1 z (some 1)]=some (v',s')/\aW s' lo2 z v' (j+1) (cs++new) g'/\Lf s' lr mn mu lo TL U0 n outs W ((eK v'++g'.toList)++Z)/\Kw (g.toList++W) (g'.toList++W) s s':=by
 obtain⟨v',g',s',w1,w2,w3,w4,-,r,m,w6,w7⟩:=hO.zT T h1 h2 (by omega) hlo;have kY:Kp g.toList g.toList s s':=w3.sub (by simp) (fun _ h=>h);have gin:∀ y∈g.toList,y∈(eK v++g.toList)++Z:=fun y hy=>Q8 _ (Q9 _ hy)
 have hr':=w2.rows;have oV:eK v'=[r]:=by rw[w6];rfl
 refine⟨v',g',s',w1,w2,?_,kY.sub (fun _ h=>Q8 _ h) (fun _ h=>Q8 _ h),fun y hy=>?_⟩
 ·rcases w4 with rfl|⟨x,rfl,hx⟩
  ·refine(hL.yh (X:=[r]) kY gin (fun y hy=>?_)).sub (fun y hy=>?_)
   ·rw[Q4.1 hy];exact⟨w7,(hr' r (by rw[oV];simp)).1⟩
   ·rw[oV]at hy;simp only[Q2,Q4]at hy|-;rcases hy with (h|h)|h
    ·exact .inl h
    ·exact .inr (.inl (.inr h))
    ·exact .inr (.inr h)
  ·refine(hL.yh (X:=[r,x]) kY gin (fun y hy=>?_)).sub (fun y hy=>?_)
   ·simp only[Q3,Z6,or_false]at hy;rcases hy with rfl|rfl
    ·exact⟨w7,(hr' y (by rw[oV];simp)).1⟩
    ·exact⟨hx,(hr' y (by simp)).1⟩
   ·rw[oV]at hy;simp only[Q2,Q3,Z6,or_false,V8]at hy|-;rcases hy with (h|h)|h
    ·exact .inl (.inl h)
    ·exact .inl (.inr h)
    ·exact .inr (.inr h)
 ·rcases Q2.1 hy with hy|hy
  ·rcases w4 with rfl|⟨x,rfl,hx⟩
   ·exact .inl (Q8 _ hy)
   ·have:y=x:=by simpa using hy
    exact .inr (by omega)
  ·exact .inl (Q9 _ hy)
end
def iu(d:List (List AV× Ex)):List (List AV× Ex):=d.map fun p=>(p.1,jZ p.2)
theorem Rw(x:Ex):(jZ x).size<=x.size:=by
 unfold jZ;split
 ·exact J1 _
 ·have:=x.size_pos;show 1+0+0+0<=_
  omega
structure Et(s0 s:St)(t:Tr AV)(lr mn mu lo:Nat)(U0:List ah)(q:ae)(r2 r7:Nat)(v:AV)(W0 Z0:List Nat)(i:Nat):Prop where
 t2:ab t 2=.p r2 0
 t4:ab t 4=.p lr 0
 t7:ab t 7=.p r7 0
 h:∃ dv gd n TL W outs d al,s.ce r7=some ([v,dv],r7,al)/\aW s s0.next 8 dv i (di (iu d)) gd/\np U0 (q.list.take i) d outs 0 n (nL (q.list.take i))/\Lf s lr mn mu lo TL U0 n outs W ((eK dv++gd.toList)++Z0)/\TL.length<=q.names.length+nL (q.list.take i)/\Kw (r7::W0) (r7::(gd.toList++W)) s0 s
noncomputable def dN:Nat->Code
 |0=>f7.body.getD .skip
 |k+1=>aj (dN k)
theorem RG{mu r1 r7:Nat}{W0 Z0 al7:List Nat}(hq:q.Ty 1)(hw:∀ p∈q.list,Wl p.2)(hlw:∀ p∈q.list,p.2.lw<=1000000)(hsz:q.size<=1000000)(c1:s.ce r1=some ([cv,q.slice 8],r1,al1))(c7:s.ce r7=some ([v,.sn],r7,al7))(h7:r7∈Z0)(_:bS v=true)(hL:Lf s lr mn mu lo q.names U0 0 [] W0 Z0)(t1:ab t 1=.p r1 0)(t2:ab t 2=.p r2 0)(t4:ab t 4=.p lr 0)(t7:ab t 7=.p r7 0)(b1:q.names.length+nL q.list+U0.length<1000000)(b3:bG (bW bX U0) 0+32*nL q.list+64<1000000)(hN:q.size+30000000000000000000<=N):
  ∃ t' s',ao (aq (dN 5)) ⟨prog,Tw c (N+2),false,f7.ntmps,N+2⟩ t s=.nx t' s'/\Et s s' t' lr mn mu lo U0 q r2 r7 v W0 Z0 q.list.length:=by
 have lb:=fun s:St=>aY (st:=s) underlying23 (q.bK 8) (q.bJ 8)
 have rb:rd s r1 1 1=some [q.slice 8]:=by rw[au c1];rfl
 have hbl:=q.bZ;have zz:bm prog 37=some gL:=sy;simp[dN,aq,aj,f7,t1,rb,lb,bw];generalize hLL:bf _ _ _ _=L;obtain⟨t1',s5,rfl,u1⟩:=dy hLL 2 q.list.length
  (fun i t' s'=>ab t' 34=q.slice 8/\ab t' 35=.i .i64 (q.len:Int)/\ab t' 36=.i .i64 (i:Int)/\Et s s' t' lr mn mu lo U0 q r2 r7 v W0 Z0 i)
  (fun t' s'=>Et s s' t' lr mn mu lo U0 q r2 r7 v W0 Z0 q.list.length) (by rw[<-ae.aC];omega)
  ⟨by simp,by simp,by simp,⟨by simp[t2],by simp[t4],by simp[t7],.sn,none,0,q.names,W0,[],[],al7,c7,.nil _ _ _,by simpa[nL]using np.nil U0 0,by simpa[eK]using hL,by simp,by simpa using Kw.refl _ _⟩⟩
  (by
   rintro i t' s' hi ⟨i34,i35,i36,i2,i4,i7,dv,gd,n,TL,W,outs,d,al,iC,iO,iW,iL,iT,iK⟩;clear hLL;have hil:i<q.len:=by rw[ae.aC];exact hi
   have e5:(i:Int)<(q.len:Int):=by omega
   have e7:wr .i64 ((i:Int)+1)=((i+1:Nat):Int):=by rw[aZ (by omega) (by omega)];rfl
   obtain⟨a0,ix,ldx⟩:=(cH.pure s' [] 8 q).at fG kI hq.pre rfl hi;have ld:=ldx [] [] s' (.refl _ _ _) (by simp) (by simp);have hmem:=Q6 hi;have hp1:=ir (ae.cU hq _ hmem).1;have hTx:=(ae.cU hq _ hmem).2;have hszx:=ae.dU hmem;obtain⟨nm,hnm⟩:∃ nm,fD (q.list[i].1.headD .un)=nm:=⟨_,rfl⟩;rw[hnm]at hp1;rw[hp1]at ld;have wx:=hw _ hmem;have lx:=hlw _ hmem;obtain⟨nt1,nt2⟩:=LG q.list hi;obtain⟨s6,p1,p2,p3,p4⟩:=cO (s:=s') (z:=gL) (cells:=[.s nm]++q.list[i].2.cells) (by simp[gL,Ex.aO]) (by rw[gX rfl (Ex.dH hTx.wf)]);have n6:=p3.next;have sto:=aI dn cV (s'.aw gL) s'.next 0 ([.s nm]++q.list[i].2.cells) (by simp[Ex.aO]);have L6:=iL.kp p3;have O6:=iO.put p3 (by simp) (by simp);have K6:Kw (r7::W0) (r7::(gd.toList++W)) s s6:=iK.trans (.of p3);have r7lt:=(iL.zw r7 (Q9 _ h7)).2.1;have C6:=p3.ce iC r7lt r7lt (by simp) (by simp);have wlen:=iW.len;have wpot:=iW.bG;obtain⟨x',new,TL',n',W',s7,q1,q2,q3,q4,q5⟩:=SS (c:=c) q.list[i].2 wx lx TL n outs W _ s6 (N+2) L6 (by omega) (by omega) (by omega) (by omega);have n7:=q3.1.next;have zn6:∀ y,y∈(eK dv++gd.toList)++Z0->y∉W:=fun y hy=>(L6.zw y hy).1
   have r7W:=zn6 r7 (Q9 _ h7);have C7:=q3.ce C6 (by omega) (by omega) r7W r7W;have O7:=O6.put q3.1 (fun y hy=>zn6 y (Q8 _ hy)) (fun y hy=>zn6 y (Q8 _ hy));have K7:Kw (r7::W0) (r7::(gd.toList++W')) s s7:=K6.trans (ko (IU q3) r7);have hx's:=sI _ q4.wl;have hx'l:=q4.lw;have cp:=ace (c:=c) (st:=s7) q4.wl (by omega) (N:=N) (by omega);have cT:=Eu q4.wl.1;have b7:=fun(t:Tr AV) (e1:ai t (.tmp 43)=.s nm) (e2:ai t (.tmp 48)=.ag (jZ x').cells)=>yD (S:=Tw c (N+2)) (st:=s7) (t:=t) (x:=.tmp 43) (y:=.tmp 48) e1 e2 (Ex.aO _)
   have hnl:(AV.s nm::(jZ x').cells).length=8:=by rw[V2,Ex.aO]
   have hns:bq (AV.s nm::(jZ x').cells)=true:=by rw[vB,Ex.dH cT.wf];rfl
   have bo:=fun(t:Tr AV) (h:ai t (.tmp 49)=.ag (AV.s nm::(jZ x').cells))=>gT (S:=Tw c (N+2)) (t:=t) (st:=s7) mJ (x:=.tmp 49) (cs:=AV.s nm::(jZ x').cells) (by rw[h];exact j9 _) hnl
   have s0n:s.next<=s'.next:=iK.1.next;obtain⟨v',g',s8,w1,w2,w3,w4⟩:=q2.So mJ O7 hns hnl (by omega) (by omega);have K8:Kw (r7::W0) (r7::(g'.toList++W')) s s8:=K7.trans (ko w4 r7);have zn7:∀ y,y∈(eK dv++gd.toList)++Z0->y∉W':=fun y hy=>(q2.zw y hy).1
   have r7g:r7∉gd.toList++W':=fun hh=>by
    rcases Q2.1 hh with hh|hh
    ·have h1:=(O7.rows r7 (Q9 _ hh)).2;have h2:=(hL.zw r7 h7).2.1;omega
    ·exact zn7 r7 (Q9 _ h7) hh
   have C8:=w4.ce C7 (by omega) (by omega) r7g r7g;have n8:=w4.1.next;have hw9:wt s8 r7 1 [v']=some (s8.ax r7 [v,v'] r7):=bP C8 1 [v'] (by simp) (by simp[w2.sc]);have k9:Kp [r7] [r7] s8 (s8.ax r7 [v,v'] r7):=.ax (by simp) (by simp);have C9:=cj r7 [v,v'] r7 (st:=s8);obtain⟨s9,hs9⟩:∃ s9,s8.ax r7 [v,v'] r7=s9:=⟨_,rfl⟩;rw[hs9]at hw9 k9 C9;have st9:=db nH pI s8 r7 1 v' w2.cells;have L9:=w3.put k9 (by simp;exact .inr (.inr h7));have zn8:r7∉eK v'++g'.toList:=fun hh=>by have h1:=(w2.rows r7 hh).2;have h2:=(hL.zw r7 h7).2.1;omega
   have O9:=w2.put k9 (fun y hy hh=>by rw[Q4.1 hh]at hy;exact zn8 hy) (fun y hy hh=>by rw[Q4.1 hh]at hy;exact zn8 hy);have K9:Kw (r7::W0) (r7::(g'.toList++W')) s s9:=K8.trans ⟨k9.sub (by simp) (by simp),fun _ h=>.inl h⟩;have r6:rd s6 r7 1 1=some [dv]:=by rw[au C6];rfl
   have r7':rd s7 r7 1 1=some [dv]:=by rw[au C7];rfl
   have x6:rd s6 s'.next 0 1=some [.s nm]:=by rw[au p2];rfl
   have x6c:rd s6 s'.next 1 7=some q.list[i].2.cells:=by rw[au p2,show cut ([.s nm]++q.list[i].2.cells) 1 7=cut q.list[i].2.cells 0 7 from rfl,cQ,<-q.list[i].2.aO,dD]
   have xnW:s'.next∉W:=fun hh=>by have:=iL.lt _ hh;omega
   have x7:rd s7 s'.next 0 1=some [.s nm]:=by rw[au (q3.ce p2 (by omega) (by omega) xnW xnW)];rfl
   have fin:∀ t'',ab t'' 2=.p r2 0->ab t'' 4=.p lr 0->ab t'' 7=.p r7 0->Et s s9 t'' lr mn mu lo U0 q r2 r7 v W0 Z0 (i+1):=fun t'' h1 h2 h3=>by
    refine⟨h1,h2,h3,v',g',n',TL',W',outs++new,d++[(q.list[i].1,x')],_,C9,?_,?_,L9,by omega,K9⟩
    ·have e:di (iu (d++[(q.list[i].1,x')]))=di (iu d)++(AV.s nm::(jZ x').cells):=by
      unfold iu;rw[V7,xU];simp[di,hp1]
     rw[e];exact O9
    ·rw[<-J9 hi,Jx];have:=iW.snoc (p:=q.list[i]) q4;simpa[nL]using this
   simp at ld sto p1;simp[i34,i35,i36,e5,ix,ld,aJ,zz,sto,p1,br];rw[eJ (fl:=[(1,8),(1,9),(3,8),(3,9)])]
   ·simp[i36,i4,i7,e7,aH,r6,x6,x6c,q1,cp,b7,bo,w1,st9,hw9];exact⟨_,_,⟨rfl,rfl⟩,by simp[i34],by simp[i35],by simp,fin _ (by simp[i2]) (by simp[i4]) (by simp[i7])⟩
   ·kernel_rfl
   ·intro R hR;simp[i4,i7,aH,r6,x6,x6c,q1,cp,b7,bo,w1,st9,hw9]at hR;subst hR;simp only[J5,J6,J8,Z7];refine⟨bV rfl rfl rfl (s:=s7) ?_,bV rfl rfl rfl (s:=s7) ?_,bV rfl rfl rfl (s:=s7) ?_,bV rfl rfl rfl (s:=s7) ?_⟩
    ·simp[r7']
    ·simp[r7']
    ·simp[x7]
    ·simp[x7])
  (by rintro t' s' ⟨i34,i35,i36,i2,i4,i7,iH⟩;clear hLL;have hll:=ae.aC q;simp[i35,i36,hll];exact⟨_,_,⟨rfl,rfl⟩,by simp[i2],by simp[i4],by simp[i7],iH⟩)
 clear hLL;exact⟨t1',s5,by simp,u1⟩
theorem _root_.Go.Ev.aW.Ss{k:Nat}{x:AV}{new:List AV}(T:gO P ty e z)(h:aW st lo z v n cs g)(h1:lenOf x=some k)(h2:firstCells st z k x=some new)(h3:gk x=none)(hs:bq new=true)(hl:new.length=k*z)(hn:n+k<=10000000)(hlo:lo<=st.next):
  ∃ v' g' st',gS P st [ty,ty] [v,x]=some (v',st')/\aW st' lo z v' (n+k) (cs++new) g'/\Kp [] g.toList st st'/\((v'=v/\g'=g/\st'=st)\/((g'=g\/g'=some st.next)/\∃ r m,v'=.sl r 0 m z none/\st.next<=r)):=by
 by_cases h0:k=0
 ·have e0:(pJ P [ty,ty]&&bp P e&&bq new)=true:=by rw[T.plain,T.sl.inf,hs];rfl
  have eb:gS P st [ty,ty] [v,x]=append P st [ty,ty] v x:=by
   show uY P st [ty,ty] v x (gk x)=_
   rw[h3];rfl
  rw[eb];subst h0;have hnew:new=[]:=Z8 (by omega);subst hnew;refine⟨v,g,st,?_,by simpa using h,.refl _ _ _,.inl ⟨rfl,rfl,rfl⟩⟩;unfold append;simp only[T.el,h1,T.sl.sz,h2,e0];rcases h with ⟨rfl,rfl,-⟩|⟨r,rfl,rfl,-⟩|⟨r,f,al,-,rfl,-⟩<;>simp
 ·obtain⟨v',g',s',w1,w2,w3,w4,-,w6⟩:=h.Cy T h1 h2 h3 hs hl hn hlo;exact⟨v',g',s',w1,w2,w3,.inr ⟨w4,w6.resolve_left h0⟩⟩
theorem _root_.Go.Ev.aW.arg(h:aW st lo z v n cs g):lenOf v=some n/\firstCells st z n v=some cs/\gk v=none/\cs.length=n*z:=by
 rcases h with ⟨rfl,rfl,rfl,-⟩|⟨r,rfl,rfl,rfl,-⟩|⟨r,f,al,-,rfl,h1,h2,h3,h4,h5,h6,h7⟩
 ·exact⟨rfl,rfl,rfl,by simp⟩
 ·exact⟨rfl,rfl,rfl,by simp⟩
 ·refine⟨rfl,?_,rfl,h2⟩;have:J3 n 0=false:=by rw[bu];simp;omega
  show @Bool.rec (fun _=>Option (List AV)) (rd st r 0 (n*z)) (some []) (J3 n 0)=_
  rw[this];show rd st r 0 (n*z)=_
  rw[au h1,cQ,<-h2,dD]
section
variable {mu : Nat}
theorem Lf.aai{v':AV}{g':Option Nat}(hL:Lf s lr mn mu lo TL U0 n outs W ((eK v++g.toList)++Z))(w2:aW s' lo2 z v' j cs g')(w3:Kp [] g.toList s s')(w:(v'=v/\g'=g/\s'=s)\/((g'=g\/g'=some s.next)/\∃ r m,v'=.sl r 0 m z none/\s.next<=r)):
  Lf s' lr mn mu lo TL U0 n outs W ((eK v'++g'.toList)++Z):=by
 rcases w with ⟨rfl,rfl,rfl⟩|⟨w4,r,m,w6,w7⟩
 ·exact hL
 have kY:Kp g.toList g.toList s s':=w3.sub (by simp) (fun _ h=>h);have gin:∀ y∈g.toList,y∈(eK v++g.toList)++Z:=fun y hy=>Q8 _ (Q9 _ hy)
 have hr':=w2.rows;have oV:eK v'=[r]:=by rw[w6];rfl
 rcases w4 with rfl|rfl
 ·refine(hL.yh (X:=[r]) kY gin (fun y hy=>?_)).sub (fun y hy=>?_)
  ·rw[Q4.1 hy];exact⟨w7,(hr' r (by rw[oV];simp)).1⟩
  ·rw[oV]at hy;simp only[Q2,Q4]at hy|-;rcases hy with (h|h)|h
   ·exact .inl h
   ·exact .inr (.inl (.inr h))
   ·exact .inr (.inr h)
 ·refine(hL.yh (X:=[r,s.next]) kY gin (fun y hy=>?_)).sub (fun y hy=>?_)
  ·simp only[Q3,Z6,or_false]at hy;rcases hy with rfl|rfl
   ·exact⟨w7,(hr' y (by rw[oV];simp)).1⟩
   ·exact⟨J1 _,(hr' s.next (by simp)).1⟩
  ·rw[oV]at hy;simp only[Q2,Q3,Z6,or_false,V8]at hy|-;rcases hy with (h|h)|h
   ·exact .inl (.inl h)
   ·exact .inl (.inr h)
   ·exact .inr (.inr h)
end
theorem aah(U0:List ah):nM U0 0=fun x=>decide (x∈U0):=by
 funext x;rw[Z5,LY,decide_eq_true_iff];constructor
 ·rintro(h|⟨j,h1,h2,-⟩)
  ·exact h
  ·omega
 ·exact .inl
theorem Ux{mu r1:Nat}(hcs:cv.cells=some [cv]∧bS cv=true∧bg cv=true)(hq:q.Ty 1)(hsz:q.size≤1000000)(hl:q.bC.length≤1000000)(hC:oz c cv q 0)(c1:s.ce r1=some ([cv,q.slice 8],r1,al1))(cl:s.ce lr=some ([.m mn,.m mu,.sn,.i .i64 0],lr,al))(hm:cS s mu (jL fun x=>decide (x ∈ q.names)))(hlt:r1 < mn∧mn < mu∧mu < lr∧lr < s.next)(t1:ab t 1 = .p r1 0)(t2:ab t 2 = .p r2 0)(t4:ab t 4 = .p lr 0)(hN:q.size+3000000≤N) :
  ∃ t' s',ao (aq (dN 3)) ⟨prog,Tw c (N+1),false,f7.ntmps,N+1⟩ t s=.nx t' s'/\(ab t' 1=.p r1 0/\ab t' 2=.p r2 0/\ab t' 4=.p lr 0)/\cS s' mu (jL (nM (q.names++q.bC) 0))/\Kp [mu] [] s s':=by
 obtain⟨w,s1,L,q1,q2,q3,q4,q5⟩:=abo (c:=c) (st:=s) hcs hq hsz hl hC hN;have n1:=q5.next;have ra:rd s r1 0 2=some [cv,q.slice 8]:=by rw[au c1];rfl
 have lb:=q2.len;simp[dN,aq,aj,f7,t1,eP,ra,q1,lb,bw];generalize hLL:bf _ _ _ _=Lo;obtain⟨t1',s5,rfl,u0,u1,u2⟩:=dy hLL 0 L.length
  (fun i t' s'=>ab t' 17=w/\ab t' 18=.i .i64 (L.length:Int)/\ab t' 19=.i .i64 (i:Int)/\(ab t' 1=.p r1 0/\ab t' 2=.p r2 0/\ab t' 4=.p lr 0)/\cS s' mu (jL fun x=>decide (x∈q.names\/x∈L.take i))/\Kp [mu] [] s1 s')
  (fun t' s'=>(ab t' 1=.p r1 0/\ab t' 2=.p r2 0/\ab t' 4=.p lr 0)/\cS s' mu (jL fun x=>decide (x∈q.names\/x∈L))/\Kp [mu] [] s1 s') (by omega)
  ⟨by simp,by simp,by simp,⟨by simp[t1],by simp[t2],by simp[t4]⟩,by simpa using hm.keep q5 (by omega) (by simp),.refl _ _ _⟩
  (by
   rintro i t' s' hi ⟨i17,i18,i19,⟨i1,i2,i4⟩,iM,iK⟩;clear hLL;have e5:(i:Int)<(L.length:Int):=by omega
   have e7:wr .i64 ((i:Int)+1)=((i+1:Nat):Int):=by rw[aZ (by omega) (by omega)];rfl
   obtain⟨a,ix,ldx⟩:=q2.at_ i hi;have ld:=ldx [mu] [] s' iK (by simp;omega) (by simp);have C1:=iK.ce (q5.ce cl (by omega) (by omega) (by simp) (by simp)) (by omega) (by omega) (by simp;omega) (by simp);have rl1:rd s' lr 1 1=some [.m mu]:=by rw[au C1];rfl
   obtain⟨s6,u1,u2,u3,u4⟩:=iM.set gW L[i] (.b true);have hmp:upd (jL fun x=>decide (x∈q.names\/x∈L.take i)) L[i] (.b true)=jL fun x=>decide (x∈q.names\/x∈L.take (i+1)):=by
    rw[GG];congr 1;funext x;rw[<-J9 hi,Z5,V4,decide_eq_true_iff,decide_eq_true_iff,decide_eq_true_iff,Q2,Q4];constructor
    ·rintro(h|h|h)
     ·exact .inr (.inr h)
     ·exact .inl h
     ·exact .inr (.inl h)
    ·rintro(h|h|h)
     ·exact .inr (.inl h)
     ·exact .inr (.inr h)
     ·exact .inl h
   rw[hmp]at u2;simp[i17,i18,i19,i4,e5,e7,ix,ld,rl1,u1];exact⟨_,_,⟨rfl,rfl⟩,by simp[i17],by simp[i18],by simp,⟨by simp[i1],by simp[i2],by simp[i4]⟩,by simpa using u2,iK.trans (u3.sub (by simp) (by simp))⟩)
  (by rintro t' s' ⟨i17,i18,i19,⟨i1,i2,i4⟩,iM,iK⟩;clear hLL;rw[Z4]at iM;simp[i18,i19];exact⟨_,_,⟨rfl,rfl⟩,⟨by simp[i1],by simp[i2],by simp[i4]⟩,by simpa using iM,iK⟩)
 clear hLL;refine⟨t1',s5,by simp,u0,?_,(q5.sub (by simp) (by simp)).trans u2⟩;have e:(fun x=>decide (x∈q.names\/x∈L))=nM (q.names++q.bC) 0:=by rw[aah];funext x;rw[Z5,decide_eq_true_iff,decide_eq_true_iff,Q2,q3]
 rw[<-e];exact u1
