/- A part of the proof. -/
import Derived.Test.YtnmofhngblebiaaGreatDoorS15
set_option maxRecDepth 100000
open Option renaming some->So,none->No
open List renaming getElem_map->Q0,length_map->Q1,getElem_mem->Q2,count_append->Q6,take_append_getElem->Q7,getElem?_eq_getElem->Q8,count_pos_iff->Q9,getElem_of_mem->J3,take_length->J5,take_of_length_le->J8,length_append->J9,append_nil->Z0,flatMap_cons->Z3,count_cons->Z5,length_cons->Z6,flatMap_append->Z7
open Nat renaming lt_of_lt_of_le->Q3,le_refl->Q4,le_of_ble_eq_true->Q5,zero_add->J1,zero_le->J4,lt_succ_self->J6
open Bool renaming and_eq_true->Z4
open Go.Proofs.Tryz
noncomputable section
open Go.Ev
namespace Go.Proofs.YtnmofhngblebiaaGreatDoor
variable {N N7 g i r x:Nat}{S:Self}{al:List Nat}{b q:aa}{c:Option Self}{cv:AV}{ds:List bG}{f:FuncId}{k:bS}{l:List ae}{s s' st:St}{t:Tr AV}
set_option maxHeartbeats 8000000
structure kH(st s:St)(r1 r2 gr kr mr:Nat)(cv bv cv':AV)(Gf Kf:aK):Prop where
 c1:s.ce r1=So ([cv,bv],r1,[r1])
 c2:s.ce r2=So ([.sn,.sn,.sn,.sn,.i .i64 0],r2,[r2])
 cm:s.ce mr=So ([cv',.sn,.sn,.sn,.i .i64 0,.m gr,.m kr],mr,[mr])
 hG:bZ s gr (fQ Gf)
 hK:bZ s kr (fQ Kf)
 ow:mY s (mr+1) 4 cv cv'
 lt:st.next<=r1/\r1<r2/\r2<gr/\gr<kr/\kr<mr/\mr<s.next
 kp:Kp [] [] st s
def KT(C:dT)(s0:St)(b:aa)(s:St)(i:Nat):Prop:=∃gv,zB C s0 b s gv i
section
variable {r1 r2 gr kr mr:Nat}{bv cv':AV}{Gf Kf Gf' Kf':aK}
theorem kH.new(h:kH st s r1 r2 gr kr mr cv bv cv' Gf Kf)(k:Kp [] [] s s'):kH st s' r1 r2 gr kr mr cv bv cv' Gf Kf:=by have lt:=h.lt;exact⟨k.ce h.c1 (by omega) (by omega) (by simp) (by simp),k.ce h.c2 (by omega) (by omega) (by simp) (by simp),k.ce h.cm (by omega) (by omega) (by simp) (by simp),h.hG.keep k (by omega) (by simp),h.hK.keep k (by omega) (by simp),h.ow.keep k (by simp) (by simp),⟨lt.1,lt.2.1,lt.2.2.1,lt.2.2.2.1,lt.2.2.2.2.1,Q3 lt.2.2.2.2.2 k.next⟩,h.kp.trans k⟩
theorem kH.row(h:kH st s r1 r2 gr kr mr cv bv cv' Gf Kf)(hx:x=gr\/x=kr)(k:Kp [x] [] s s')(hn:s'.next=s.next)(hG:bZ s' gr (fQ Gf'))(hK:bZ s' kr (fQ Kf')):kH st s' r1 r2 gr kr mr cv bv cv' Gf' Kf':=by have lt:=h.lt;exact⟨k.ce h.c1 (by omega) (by omega) (by grind) (by simp),k.ce h.c2 (by omega) (by omega) (by grind) (by simp),k.ce h.cm (by omega) (by omega) (by grind) (by simp),hG,hK,h.ow.keep k (by grind) (by simp),by grind,ey h.kp k (by grind) (by simp)⟩
theorem kH.aca(h:kH st s r1 r2 gr kr mr cv bv cv' Gf (aZ (λ_=>No) l 0))(x:ae)(hl:l.length=i):∃s',mapUpdate prog 66 s (.m kr) (.s x) (iN i)=So s'/\kH st s' r1 r2 gr kr mr cv bv cv' Gf (aZ (λ_=>No) (l++[x]) 0):=by subst hl;have lt:=h.lt;have⟨s',u1,u2,u3,u4⟩:=h.hK.set nR x (iN l.length);rw[Qk]at u2;exact⟨s',u1,h.row (.inr rfl) u3 u4 (h.hG.keep u3 (by omega) (by grind)) u2⟩
theorem kH.BJ(h:kH st s r1 r2 gr kr mr cv bv cv' (aZ (λ_=>No) l 0) Kf)(x:ae)(hl:l.length=i):∃s',mapUpdate prog 66 s (.m gr) (.s x) (iN i)=So s'/\kH st s' r1 r2 gr kr mr cv bv cv' (aZ (λ_=>No) (l++[x]) 0) Kf:=by subst hl;have lt:=h.lt;have⟨s',u1,u2,u3,u4⟩:=h.hG.set nR x (iN l.length);rw[Qk]at u2;exact⟨s',u1,h.row (.inl rfl) u3 u4 u2 (h.hK.keep u3 (by omega) (by grind))⟩
def TL(st:St)(cv:AV)(ds:List bG)(b:aa)(o:Option (AV×St)):Prop:=∃cv' ov bo gv s' L mi cs lo Fi go gb,o=So (.tu [.ag [cv',ov,bo,gv,iN (ax (aZ (λ_=>No) b.names 0) [109,97,105,110])],.i .i64 0],s') /\
 jf (FF (aZ (λ_=>No) b.names 0)) (ax (aZ (λ_=>No) b.names 0)) (ax (aZ (λ_=>No) (ds.map (·.n)) 0)) strF b ⟨[],[]⟩=(L,mi)/\(∃lo',st.next<=lo'/\mY s' lo' 4 cv cv')/\
 bD s' lo 8 ov mi.ops.length (mi.ops.flatMap bC.cells) go/\bD s' lo 4 bo mi.bos.length (mi.bos.flatMap dS.cells) gb/\hZ s' lo 4 gv L.length cs Fi/\jW s' lo Fi cs L/\st.next<=lo/\Kp [] [] st s'
theorem Zr(hcv:fq cv ds)(hdl:ds.length<=1000000)(bT:b.Ty 1)(hz:b.size<=1000000)(hok:∀p∈b.list,eQ p.2)(hP:∀st,(Tw c N).call 19 [.ag [cv,b.slice 8]] st=So (.b true,st))(hN:30000000000000000000<=N):
  TL st cv ds b (aJ c N f8 (f8.body.getD .skip) [.ag [cv,b.slice 8]] st):=by
 unfold aJ;obtain⟨bv,hbv⟩:∃v,b.slice 8=v:=⟨_,rfl⟩;rw[hbv]at hP|-;have k1:=Kp.aj (st:=st) [] [] [cv,bv];have c1:=bq (st:=st) [cv,bv];have n1:(st.aj [cv,bv]).next=st.next+1:=rfl;obtain⟨s1,hs1⟩:∃t,st.aj [cv,bv]=t:=⟨_,rfl⟩;rw[hs1]at k1 c1 n1;have k2:=Kp.aj (st:=s1) [] [] [.sn,.sn,.sn,.sn,.i .i64 0];have c2:=bq (st:=s1) [.sn,.sn,.sn,.sn,.i .i64 0];have n2:(s1.aj [.sn,.sn,.sn,.sn,.i .i64 0]).next=st.next+2:=by show s1.next+1=_;omega
 obtain⟨s2,hs2⟩:∃t,s1.aj [.sn,.sn,.sn,.sn,.i .i64 0]=t:=⟨_,rfl⟩;rw[hs2]at k2 c2 n2;have k3:=Kp.new (st:=s2) [] [] (.mp [] 0);have m3:=bZ.new s2;have n3:(s2.new (.mp [] 0)).next=st.next+3:=by show s2.next+1=_;omega
 obtain⟨s3,hs3⟩:∃t,s2.new (.mp [] 0)=t:=⟨_,rfl⟩;rw[hs3]at k3 m3 n3;have k4:=Kp.new (st:=s3) [] [] (.mp [] 0);have m4:=bZ.new s3;have n4:(s3.new (.mp [] 0)).next=st.next+4:=by show s3.next+1=_;omega
 obtain⟨s4,hs4⟩:∃t,s3.new (.mp [] 0)=t:=⟨_,rfl⟩;rw[hs4]at k4 m4 n4;have k5:=Kp.aj (st:=s4) [] [] [.sn,.sn,.sn,.sn,.i .i64 0,.m s2.next,.m s3.next];have c5:=bq (st:=s4) [.sn,.sn,.sn,.sn,.i .i64 0,.m s2.next,.m s3.next];have n5:(s4.aj [.sn,.sn,.sn,.sn,.i .i64 0,.m s2.next,.m s3.next]).next=st.next+5:=by show s4.next+1=_;omega
 obtain⟨s5,hs5⟩:∃t,s4.aj [.sn,.sn,.sn,.sn,.i .i64 0,.m s2.next,.m s3.next]=t:=⟨_,rfl⟩;rw[hs5]at k5 c5 n5;have ld1:loadAt prog 25 s2 (.p st.next 0)=So (.ag [cv,bv]):=by rw[cu nO zQ,gC,ai (k2.ce c1 (by omega) (by omega) (by simp) (by simp))];rfl
 have c15:=k5.ce (k4.ce (k3.ce (k2.ce c1 (by omega) (by omega) (by simp) (by simp)) (by omega) (by omega) (by simp) (by simp)) (by omega) (by omega) (by simp) (by simp)) (by omega) (by omega) (by simp) (by simp);have r0:rd s5 st.next 0 1=So [cv]:=by rw[ai c15];rfl
 have⟨cv',s6,q1,q2,q3⟩:=Mw (c:=c) (st:=s5) hcv hdl (N:=N) (by omega);obtain⟨r1,hr1⟩:∃r,st.next=r:=⟨_,rfl⟩;obtain⟨r2,hr2⟩:∃r,s1.next=r:=⟨_,rfl⟩;obtain⟨gr,hgr⟩:∃r,s2.next=r:=⟨_,rfl⟩;obtain⟨kr,hkr⟩:∃r,s3.next=r:=⟨_,rfl⟩;obtain⟨mr,hmr⟩:∃r,s4.next=r:=⟨_,rfl⟩;have nN:fQ (λ_=>No)=λ_=>none:=by funext x;rfl
 have n6:=q3.next;have cm6:=q3.ce c5 (by omega) (by omega) (by simp) (by simp);have c16:=q3.ce c15 (by omega) (by omega) (by simp) (by simp);have c26:=q3.ce (k5.ce (k4.ce (k3.ce c2 (by omega) (by omega) (by simp) (by simp)) (by omega) (by omega) (by simp) (by simp)) (by omega) (by omega) (by simp) (by simp)) (by omega) (by omega) (by simp) (by simp);have mG6:=((m3.keep k4 (by omega) (by simp)).keep k5 (by omega) (by simp)).keep q3 (by omega) (by simp);have mK6:=(m4.keep k5 (by omega) (by simp)).keep q3 (by omega) (by simp);have cvc:cv'.cells=So [cv']/\bR cv'=true:=by
  rcases q2 with ⟨-,rfl⟩|⟨cs,n,g,-,-,h,-⟩
  ·exact⟨rfl,rfl⟩
  ·exact⟨h.cells,h.sc⟩
 rw[hr1]at c16 r0 ld1;rw[hr2]at c26;rw[hgr]at cm6 mG6;rw[hkr]at cm6 mK6;rw[hmr]at cm6;rw[hgr,hkr]at hs5;have w7:=c9 cm6 0 [cv'] (by simp) (by simp[cvc.2]);have o7:aW [.sn,.sn,.sn,.sn,.i .i64 0,.m gr,.m kr] 0 [cv']=[cv',.sn,.sn,.sn,.i .i64 0,.m gr,.m kr]:=rfl;rw[o7]at w7;have k7:Kp [mr] [mr] s6 (s6.aG mr [cv',.sn,.sn,.sn,.i .i64 0,.m gr,.m kr] mr):=.aG (by simp) (by simp);have c7:=dA mr [cv',.sn,.sn,.sn,.i .i64 0,.m gr,.m kr] mr (st:=s6);obtain⟨s7,hs7⟩:∃t,s6.aG mr [cv',.sn,.sn,.sn,.i .i64 0,.m gr,.m kr] mr=t:=⟨_,rfl⟩;rw[hs7]at w7 k7 c7;have n7:=k7.next;have K6:Kp [] [] st s6:=((((k1.trans k2).trans k3).trans k4).trans k5).trans q3;have al7:s7.ce mr=So ([cv',.sn,.sn,.sn,.i .i64 0,.m gr,.m kr],mr,[mr]):=c7;have H7:kH st s7 r1 r2 gr kr mr cv bv cv' (λ_=>No) (aZ (λ_=>No) ((ds.map (·.n)).take 0) 0):=
  ⟨k7.ce c16 (by omega) (by omega) (by simp;omega) (by simp;omega),k7.ce c26 (by omega) (by omega) (by simp;omega) (by simp;omega),al7,by rw[nN];exact mG6.keep k7 (by omega) (by simp;omega),by
   have e:fQ (aZ (λ_=>No) ((ds.map (·.n)).take 0) 0)=λ_=>none:=by funext x;rfl
   rw[e];exact mK6.keep k7 (by omega) (by simp;omega),by
   have e:s5.next=mr+1:=by omega
   rw[e]at q2;exact q2.keep k7 (by simp) (by simp),⟨by omega,by omega,by omega,by omega,by omega,by omega⟩,ey K6 k7 (by simp;omega) (by simp;omega)⟩
 have st7:=bN Yl ac2 s6 mr 0 cv' cvc.1;have rc7:rd s7 r1 0 1=So [cv]:=by rw[ai H7.c1];rfl
 have ln:=λst:St=>wC (st:=st) hcv
 simp[f8,hs1,aB,S9,hs2,hr1,hr2,hgr,hkr,hmr,ld1,hP,hs3,hs4,UY,hs5,r0,q1,st7,w7,rc7,ln,ba];generalize hL:aQ _ _ _ _=L;obtain⟨t8,s8,rfl,z1,z2,z4,H8⟩:=cD hL 0 ds.length
  (λi t s=>ab t 1=.p r1 0/\ab t 2=.p r2 0/\ab t 4=.p mr 0/\ab t 27=cv/\ab t 28=.i .i64 (ds.length:Int)/\ab t 29=.i .i64 (i:Int)/\kH st s r1 r2 gr kr mr cv bv cv' (λ_=>No) (aZ (λ_=>No) ((ds.map (·.n)).take i) 0))
  (λt s=>ab t 1=.p r1 0/\ab t 2=.p r2 0/\ab t 4=.p mr 0/\kH st s r1 r2 gr kr mr cv bv cv' (λ_=>No) (aZ (λ_=>No) (ds.map (·.n)) 0)) (by omega)
  ⟨by simp,by simp,by simp,by simp,by simp,by simp,H7⟩
  (by
   rintro i t s hi ⟨i1,i2,i4,i27,i28,i29,iH⟩;have e3:(i:Int)<(ds.length:Int):=by omega
   have e4:wr .i64 ((i:Int)+1)=((i+1:Nat):Int):=by rw[aP (by omega) (by omega)];rfl
   have⟨r,ix⟩:=qU hcv hi;have ldx:=ya (st:=s) ds[i] r;obtain⟨d,hd⟩:∃d,ds[i]=d:=⟨_,rfl⟩;rw[hd]at ix ldx;have⟨s',y1,y2,y3,y4⟩:=bJ (s:=s) (z:=fU) (cells:=d.cells) rfl (yW d);have sto3:=aC dD dB (s.aj fU) s.next 0 d.cells rfl;have rn:rd s' s.next 0 1=So [.s d.n]:=by rw[ai y2];rfl
   have iH':=iH.new y3;have r6:rd s' mr 6 1=So [.m kr]:=by rw[ai iH'.cm];rfl
   have⟨s'',u1,u2⟩:=iH'.aca d.n (i:=i) (by simp;omega);have et:(ds.map (·.n)).take (i+1)=(ds.map (·.n)).take i++[d.n]:=by rw[<-hd,<-Q7 (by simpa using hi),Q0]
   rw[<-et]at u2;simp only[dJ]at u1;simp[i27,i28,i29,e3,ix,ldx,aB,ek,sto3,y1,aY];rw[bP (by kernel_rfl)];simp[i4,i29,e4,r6,rn,u1];exact⟨_,_,⟨rfl,rfl⟩,by simp[i1],by simp[i2],by simp[i4],by simp[i27],by simp[i28],by simp,u2⟩)
  (by rintro t s ⟨i1,i2,i4,i27,i28,i29,iH⟩;rw[J8 (by simp)]at iH;simp[i28,i29];exact⟨_,_,⟨rfl,rfl⟩,by simp[i1],by simp[i2],by simp[i4],iH⟩)
 clear hL;have blz:=aa.cq b;have ble:=aa.aF b;have bnl:b.names.length=b.len:=fg b;have hm:=I1 (z:=8) bT rfl;have lnb:=λst:St=>hm.cP (st:=st) xm
 rw[Q1]at lnb;rw[hbv]at hm lnb;have rb8:rd s8 r1 1 1=So [bv]:=by rw[ai H8.c1];rfl
 obtain⟨Kf,hKf⟩:∃f,aZ (λ_=>No) (ds.map (·.n)) 0=f:=⟨_,rfl⟩;rw[hKf]at H8;simp[z1,rb8,lnb,ba];generalize hL:aQ _ _ _ _=L;obtain⟨t9,s9,rfl,y1,y2,y4,H9⟩:=cD hL 2 b.list.length
  (λi t s=>ab t 1=.p r1 0/\ab t 2=.p r2 0/\ab t 4=.p mr 0/\ab t 43=bv/\ab t 44=.i .i64 (b.list.length:Int)/\ab t 45=.i .i64 (i:Int)/\kH st s r1 r2 gr kr mr cv bv cv' (aZ (λ_=>No) (b.names.take i) 0) Kf)
  (λt s=>ab t 1=.p r1 0/\ab t 2=.p r2 0/\ab t 4=.p mr 0/\kH st s r1 r2 gr kr mr cv bv cv' (aZ (λ_=>No) b.names 0) Kf) (by omega)
  ⟨by simp[z1],by simp[z2],by simp[z4],by simp,by simp,by simp,H8⟩
  (by
   rintro i t s hi ⟨i1,i2,i4,i43,i44,i45,iH⟩;have e3:(i:Int)<(b.list.length:Int):=by omega
   have e4:wr .i64 ((i:Int)+1)=((i+1:Nat):Int):=by rw[aP (by omega) (by omega)];rfl
   have⟨r,ixx⟩:=hm.at xm (k:=i) (by simpa using hi);rw[Q0]at ixx;have hty:=aa.dC bT _ (Q2 hi);have hp1:=gW hty.1;obtain⟨xi,hxi⟩:∃y,b.list[i].1++b.list[i].2.cells=y:=⟨_,rfl⟩;have hxl:xi.length=8:=by rw[<-hxi,J9,hty.1.len,Ex.bp];rfl
   have hsc:bH xi=true:=by rw[<-hxi];exact jk hty.1.sc (Ex.eU hty.2.wf)
   have hc0:cut xi 0 1=So [.s (eD b.list[i])]:=by rw[<-hxi,hp1];rfl
   have ldx:=ei dc np cK (st:=s) (r:=r) hxl;rw[hxi]at ixx;have⟨s',y1,y2,y3,y4⟩:=bJ (s:=s) (z:=oe) (cells:=xi) (by rw[hxl];rfl) hsc;have sto3:=aC dc cK (s.aj oe) s.next 0 xi hxl;have rn:rd s' s.next 0 1=So [.s (eD b.list[i])]:=by rw[ai y2,hc0]
   have iH':=iH.new y3;have r6:rd s' mr 5 1=So [.m gr]:=by rw[ai iH'.cm];rfl
   have⟨s'',u1,u2⟩:=iH'.BJ (eD b.list[i]) (i:=i) (by rw[List.length_take];omega);have e5:b.names[i]'(by rw[bnl];omega)=eD b.list[i]:=by simp[aa.names]
   have et:b.names.take (i+1)=b.names.take i++[eD b.list[i]]:=by rw[<-e5,Q7]
   rw[<-et]at u2;simp only[dJ]at u1;simp[i43,i44,i45,e3,ixx,ldx,aB,qp,sto3,y1,aY];rw[bP (by kernel_rfl)];simp[i4,i45,e4,r6,rn,u1];exact⟨_,_,⟨rfl,rfl⟩,by simp[i1],by simp[i2],by simp[i4],by simp[i43],by simp[i44],by simp,u2⟩)
  (by rintro t s ⟨i1,i2,i4,i43,i44,i45,iH⟩;rw[J8 (by omega)]at iH;simp[i44,i45];exact⟨_,_,⟨rfl,rfl⟩,by simp[i1],by simp[i2],by simp[i4],iH⟩)
 clear hL;obtain⟨Gf,hGf⟩:∃f,aZ (λ_=>No) b.names 0=f:=⟨_,rfl⟩;rw[hGf]at H9;obtain⟨C,hC⟩:∃C:dT,(⟨s9.next,mr,gr,kr,cv',.sn,Gf,Kf⟩:dT)=C:=⟨_,rfl⟩;have lt9:=H9.lt;have M9:dU C s9 ⟨[],[]⟩ []:=by subst hC;exact⟨⟨.sn,.sn,No,No,[mr],H9.cm,.nil _ _ _,.nil _ _ _,rfl,λx h=>by cases h⟩,H9.hG,H9.hK,⟨⟨show mr<s9.next by omega,show gr<s9.next by omega,show kr<s9.next by omega⟩,Q4 _⟩,show gr≠mr by omega,show kr≠mr by omega⟩
 have Clo:C.lo=s9.next:=by subst hC;rfl
 have Cmr:C.mr=mr:=by subst hC;rfl
 have Cgv:({C with gv:=.sn}:dT)=C:=by subst hC;rfl
 have G9:zB C s9 b s9 .sn 0:=⟨[],[],⟨[],[]⟩,[],by rw[Cgv];exact M9,.nil _ _ _ _,rfl,rfl,by rw[aa.mI];rfl,by rw[aa.mI];simp,by rw[aa.mI];simp,.refl _ _ _⟩;have hBA:∀p∈b.list,pk c p.2:=λp hp=>UM p.2 (hok p hp) (by have:=aa.dX hp;omega)
 have rb9:rd s9 r1 1 1=So [bv]:=by rw[ai H9.c1];rfl
 simp[y1,rb9,lnb,ba];generalize hL:aQ _ _ _ _=L;obtain⟨t10,s10,rfl,x1,x2,x4,gv,G10⟩:=cD hL 4 b.list.length
  (λi t s=>ab t 1=.p r1 0/\ab t 2=.p r2 0/\ab t 4=.p mr 0/\ab t 59=bv/\ab t 60=.i .i64 (b.list.length:Int)/\ab t 61=.i .i64 (i:Int)/\KT C s9 b s i)
  (λt s=>ab t 1=.p r1 0/\ab t 2=.p r2 0/\ab t 4=.p mr 0/\KT C s9 b s b.list.length) (by omega)
  ⟨by simp[y1],by simp[y2],by simp[y4],by simp,by simp,by simp,.sn,G9⟩
  (by
   rintro i t s hi ⟨i1,i2,i4,i59,i60,i61,gv,iG⟩;have e3:(i:Int)<(b.list.length:Int):=by omega
   have e4:wr .i64 ((i:Int)+1)=((i+1:Nat):Int):=by rw[aP (by omega) (by omega)];rfl
   have⟨r,ixx⟩:=hm.at xm (k:=i) (by simpa using hi);rw[Q0]at ixx;have hty:=aa.dC bT _ (Q2 hi);have hp1:=gW hty.1;obtain⟨xi,hxi⟩:∃y,b.list[i].1++b.list[i].2.cells=y:=⟨_,rfl⟩;have hxl:xi.length=8:=by rw[<-hxi,J9,hty.1.len,Ex.bp];rfl
   have hsc:bH xi=true:=by rw[<-hxi];exact jk hty.1.sc (Ex.eU hty.2.wf)
   have ldx:=ei dc np cK (st:=s) (r:=r) hxl;rw[hxi]at ixx;have⟨s',w1,w2,w3,w4⟩:=bJ (s:=s) (z:=oe) (cells:=xi) (by rw[hxl];rfl) hsc;have sto3:=aC dc cK (s.aj oe) s.next 0 xi hxl;have ld3:loadAt prog 49 s' (.p s.next 0)=So (.ag xi):=by rw[cu dc np,cK,ai w2,eV,<-hxl,gY];rfl
   have⟨cells,sa,gv',sb,sc,p1,p2,p3,p4,p5,p6,p7,p8⟩:=iG.step (c:=c) (N:=N) Clo hok hBA hz hi (eD b.list[i]) rfl w3 (by omega);have hxi':[.s (eD b.list[i])]++b.list[i].2.cells=xi:=by rw[<-hxi,hp1];rfl
   rw[hxi']at p1;rw[Cmr]at p1 p3 p4 p7;have sto6:=bN Yo ac5 sb mr 3 gv' p6;have bo:=λ(t:Tr AV) (h:ah t (.tmp 73)=.ag cells)=>ef (S:=Tw c N) (t:=t) (st:=sa) NV (x:=.tmp 73) (cs:=cells) (by rw[h];exact gh _) p2
   simp[i59,i60,i61,e3,ixx,ldx,aB,qp,sto3,w1,aY];rw[ft (fl:=[(5,9)])]
   rotate_left
   ·kernel_rfl
   ·intro R hR;simp[i4,p3,ld3,p1,bo,p5,sto6,p7]at hR;subst hR;simp only[List.all_cons,List.all_nil,Bool.and_true];exact cZ rfl rfl rfl (s:=sa) (by simp[p4])
   simp[i4,i61,e4,p3,ld3,p1,bo,p5,sto6,p7];exact⟨_,_,⟨rfl,rfl⟩,by simp[i1],by simp[i2],by simp[i4],by simp[i59],by simp[i60],by simp,gv',p8⟩)
  (by rintro t s ⟨i1,i2,i4,i59,i60,i61,iG⟩;simp[i60,i61];exact⟨_,_,⟨rfl,rfl⟩,by simp[i1],by simp[i2],by simp[i4],iG⟩)
 clear hL;have⟨L,cs,mi,Fi,g1,g2,g3,g4,g5,g6,g7,g8⟩:=G10;have⟨f,hf⟩:=aa.De b;rw[hf]at g5 g6 g7;simp only[AW,jf,Z0]at g5;simp only[aa.size]at g6 g7;have⟨ov,bo,go,gb,al,a1,a2,a3,a4,a5⟩:=g1.row;simp only[Cmr]at a1;have Ccv:C.cv=cv':=by subst hC;rfl
 have Cgr:C.gr=gr:=by subst hC;rfl
 have Ckr:C.kr=kr:=by subst hC;rfl
 have CG:C.Gf=Gf:=by subst hC;rfl
 simp only[Ccv,Cgr,Ckr]at a1;have lk:=g1.hG.get nR [109,97,105,110];simp only[Cgr,CG]at lk;rw[vA]at lk;have nr:∀y,y<s9.next->y≠mr->y∉[C.mr]++[]:=λy _ hy hh=>by rw[Cmr]at hh;simp at hh;exact hy hh
 have c210:=g8.ce H9.c2 (by omega) (by omega) (nr _ (by omega) (by omega)) (nr _ (by omega) (by omega));have r510:rd s10 mr 5 1=So [.m gr]:=by rw[ai a1];rfl
 obtain⟨mn,hmn⟩:∃k,(Gf [109,97,105,110]).getD 0=k:=⟨_,rfl⟩;rw[hmn]at lk;have w11:=c9 a1 4 [iN mn] (by simp) (by simp[iN]);have o11:aW [cv',ov,bo,gv,.i .i64 0,.m gr,.m kr] 4 [iN mn]=[cv',ov,bo,gv,iN mn,.m gr,.m kr]:=rfl;rw[o11]at w11;have k11:Kp [mr] [mr] s10 (s10.aG mr [cv',ov,bo,gv,iN mn,.m gr,.m kr] mr):=.aG (by simp) (by simp);have c11:=dA mr [cv',ov,bo,gv,iN mn,.m gr,.m kr] mr (st:=s10);obtain⟨s11,hs11⟩:∃t,s10.aG mr [cv',ov,bo,gv,iN mn,.m gr,.m kr] mr=t:=⟨_,rfl⟩;rw[hs11]at w11 k11 c11;have n10:=g8.next;have c211:=k11.ce c210 (by omega) (by omega) (by simp;omega) (by simp;omega);have lo11:=bg (P:=prog) (st:=s11) underlying31 a2.len.1 a2.len.2;have r111:rd s11 mr 1 1=So [ov]:=by rw[ai c11];rfl
 have ld11:loadAt prog 35 s11 (.p mr 0)=So (.ag [cv',ov,bo,gv,iN mn]):=by rw[cu tm wg,tY,ai c11];rfl
 have w12:=c9 c211 0 [cv',ov,bo,gv,iN mn] (by simp) (by simp[cvc.2,a2.sc,a3.sc,g2.sc,iN]);rw[pY,nU (by simp)]at w12;have c12:=dA r2 [cv',ov,bo,gv,iN mn] r2 (st:=s11);obtain⟨s12,hs12⟩:∃t,s11.aG r2 [cv',ov,bo,gv,iN mn] r2=t:=⟨_,rfl⟩;rw[hs12]at w12 c12;have t11:=bN dW eY s10 mr 4 (iN mn) rfl;have t12:=aC tm tY s11 r2 0 [cv',ov,bo,gv,iN mn] rfl;have ld12:loadAt prog 35 s12 (.p r2 0)=So (.ag [cv',ov,bo,gv,iN mn]):=by rw[cu tm wg,tY,ai c12];rfl
 have hle:¬(1048576:Int)<(mi.ops.length:Int):=by omega
 have z3:∀t:Tr AV,ab t 3=ab t 3:=λ_=>rfl
 simp only[dJ]at lk w11 t11 t12 w12 ld11 ld12;have k12:Kp [r2] [r2] s11 s12:=by rw[<-hs12];exact .aG (by simp) (by simp)
 have eM:ax (aZ (λ_=>No) b.names 0) [109,97,105,110]=mn:=by rw[hGf];exact hmn
 have CK:C.Kf=Kf:=by subst hC;rfl
 rw[CG,CK,<-hGf,<-hKf]at g5;have kvS:Kp [] [] st s12:=by
  have a:Kp [mr] [mr] s9 s10:=by have:=g8.1;rw[Cmr]at this;simpa using this
  exact ey (ey (ey H9.kp a (by simp;omega) (by simp;omega)) k11 (by simp;omega) (by simp;omega)) k12 (by simp;omega) (by simp;omega)
 have hgf:jW s12 C.lo Fi cs L:=(g3.mono λr l b1 b2 b3 b4 b5=>⟨k11.ce b1 b4 b4 (by simp;omega) (by simp;omega),Q3 b4 k11.next,b5⟩).mono λr l b1 b2 b3 b4 b5=>⟨k12.ce b1 b4 b4 (by simp;omega) (by simp;omega),Q3 b4 k12.next,b5⟩
 have gx:hZ s12 C.lo 4 gv L.length cs Fi:=by rw[g4];exact(g2.keep k11 (λy hy=>.inl (by simp at hy;omega)) (λy hy=>.inl (by simp at hy;omega))).keep k12 (λy hy=>.inl (by simp at hy;omega)) (λy hy=>.inl (by simp at hy;omega))
 have cvS:mY s12 (mr+1) 4 cv cv':=by
  have h9:=H9.ow;have a:Kp [mr] [mr] s9 s10:=by have:=g8.1;rw[Cmr]at this;simpa using this
  exact((h9.keep a (by simp) (by simp)).keep k11 (by simp) (by simp)).keep k12 (by simp;omega) (by simp;omega)
 refine⟨cv',ov,bo,gv,s12,L,mi,cs,C.lo,Fi,go,gb,?_,g5,⟨mr+1,by omega,cvS⟩,(a2.keep k11 (by simp;omega) (by simp;omega)).keep k12 (by simp;omega) (by simp;omega),(a3.keep k11 (by simp;omega) (by simp;omega)).keep k12 (by simp;omega) (by simp;omega),gx,hgf,by omega,kvS⟩;rw[eM];simp[x2,x4,r510,lk,t11,w11,r111,lo11,hle,ld11,t12,w12,bf,yT,aO,ld12,dJ]
end
theorem Zq(hcv:fq cv ds)(hdl:ds.length<=1000000)(bT:b.Ty 1)(hz:b.size<=1000000)(hok:∀p∈b.list,eQ p.2)(hP:∀N,30000000000000000000<=N->∀st,(Tw c N).call 19 [.ag [cv,b.slice 8]] st=So (.b true,st))(hN:30000000000000000001<=N):
  ∃(k:bS) (s':St),k.OK/\(k.cv=cv/\k.ds=ds)/\k.mn=ax (aZ (λ_=>No) b.names 0) [109,97,105,110]/\jf (FF (aZ (λ_=>No) b.names 0)) (ax (aZ (λ_=>No) b.names 0)) (ax (aZ (λ_=>No) (ds.map (·.n)) 0)) strF b ⟨[],[]⟩=(k.gl,k.m) /\
   (Tw c N).call 8 [.ag [cv,b.slice 8]] st=So (.tu [.ag k.cells,.i .i64 0],s')/\Kp [] [] st s':=by
 cases N
 ·omega
 rename_i N;obtain⟨cv',ov,bo,gv,s',L,mi,cs,lo,Fi,go,gb,e1,e2,⟨lo',l1,e3⟩,e4,e5,⟨gg,e6,-,-⟩,e7,l2,e8⟩:=Zr (c:=c) (st:=st) hcv hdl bT hz hok (hP N (by omega)) (N:=N) (by omega);have⟨ov',f1,g1⟩:=e4.fz l2 (by decide) (fV.pure (mj _ bC.pure _));have⟨bo',f2,g2⟩:=e5.fz l2 (by decide) (fV.pure (mj _ dS.pure _));have⟨gv',f3,g3⟩:=e6.fz l2 (by decide) (e7.fz λy hy=>Nat.ble_eq_true_of_le (by omega));have g3x:Grown gv' 4 L.length (L.flatMap fW.cells):=g3;refine⟨⟨cv,ov',bo',gv',_,ds,mi,L⟩,s'.shut st.next,⟨hcv,g1.ms (f:=bC.cells) (λ_=>rfl),g2.ms (f:=dS.cells) (λ_=>rfl),g3x.ms (f:=fW.cells) (λ_=>rfl)⟩,⟨rfl,rfl⟩,rfl,e2,wq rfl rfl rfl rfl rfl (by decide) func8 rfl (Q5 rfl) e1 (.tu (.cons (.ag (.cons (e3.fz l1 (by decide)) (.cons f1 (.cons f2 (.cons f3 (.cons (.pure rfl) .nil)))))) (.cons (.pure rfl) .nil))),e8.shut (Q4 _)⟩
end Go.Proofs.YtnmofhngblebiaaGreatDoor
namespace Go.Ev
variable {N N7 g i r x:Nat}{S:Self}{al:List Nat}{b q:aa}{c:Option Self}{cv:AV}{f:FuncId}{l:List ae}{s s' st:St}{t:Tr AV}
section
variable {F:Ex->List ae}{G K:ae->Nat}{strF:ae->Int}
theorem Pu:∀(l:aa) (m:Ms),(jf F G K strF l m).1.map (·.nm)=l.names
 |.nil _,_=>by rfl
 |.cons p x l,m=>by unfold jf;simp only[List.map_cons];rw[Pu l];rfl
theorem Pv:∀(l:aa) (m:Ms),∀g∈(jf F G K strF l m).1,g.k=1\/g.k=2->g.rs=[]
 |.nil _,_,g,hg,_=>by unfold jf at hg;grind
 |.cons p x l,m,g,hg,hk=>by
  rcases List.mem_cons.1 hg with rfl|hg
  ·grind
  ·exact Pv l _ g hg hk
theorem Pt:∀(l:aa),(∀p∈l.list,pE strF p.2)->∀m:Ms,(jf F G K strF l m).2.ops.length<=m.ops.length+l.size/\(jf F G K strF l m).2.bos.length<=m.bos.length+2*l.size
 |.nil _,_,m=>by unfold jf;simp
 |.cons p x l,h,m=>by have hw:=h (p,x) (List.mem_cons_self ..);have gw:=FP (F:=F) (G:=G) (K:=K) (S:=λ_=>No) (x:=x) (m:=m) (lam:=gN F G K strF x) (ex:=cU F G K strF x) (λS n=>Ee _ hw S n m) (λS n=>mU _ hw S n m);unfold jf;simp only[aa.size];have ih:=Pt l (λp hp=>h p (List.mem_cons_of_mem _ hp)) (valOf F G K (λ_=>No) x (gN F G K strF x) (cU F G K strF x) m).2;omega
mutual
theorem LJ:∀x:Ex,pE strF x->Ce x
 |.mk k _ _ ps b a l,h=>⟨h.1.1,CD b h.2.1,CD a h.2.2.1,LI l h.2.2.2⟩
theorem CD:∀l:aa,ou strF l->pj l
 |.nil _,_=>trivial
 |.cons p x l,h=>⟨LJ x h.1,CD l h.2⟩
theorem LI:∀l:aa,sS strF l->pj l
 |.nil _,_=>trivial
 |.cons p x l,h=>⟨LJ x h.1.2,LI l h.2⟩
end
end
theorem ML{α:Type}{f g:α->List Nat}(h:∀b,(f b).Perm (g b))(j:Nat):∀L:List α,(L.flatMap f).count j=(L.flatMap g).count j
 |[]=>rfl
 |b::L=>by rw[Z3,Z3,Q6,Q6,(h b).count_eq,ML h j L]
end Go.Ev
namespace Go.Proofs.YtnmofhngblebiaaGreatDoor
variable {N N7 g i r x:Nat}{S:Self}{al:List Nat}{b q:aa}{c:Option Self}{cv:AV}{ds:List bG}{f:FuncId}{k:bS}{l:List ae}{s s' st:St}{t:Tr AV}
theorem EB(hv:fq cv ds)(hl:ds.length<=1000000)(hN:10000000000000000010<=N)(h:rD N cv ds b):(∀s v,ir ds s=So v->jr v<=32)/\(ds.map (·.n)).Nodup:=by have⟨fb,h1,h2⟩:=MH (c:=No) hv hl hN;have h3:=h1 ay;rw[h.1]at h3;cases h3;have⟨k1,k2⟩:=h2 rfl;refine⟨λs v hs=>?_,k2⟩;obtain⟨d,q1,-,rfl⟩:=Hk hs;exact k1 d q1
abbrev GD(q:aa):aK:=aZ (λ_=>No) q.names 0
theorem ZZ(hv:fq cv ds)(hl:ds.length<=1000000)(hN:10000000000000000010<=N)(h:rD N cv ds q)(hT:q.Ty 1)(hd:q.depth<=4096):∀p∈q.list,eQ p.2:=λp hp=>by obtain⟨hC,-⟩:=EB hv hl hN h;obtain⟨-,-,-,h4,-⟩:=h;have:=aa.tc hp;exact⟨(aa.dC hT p hp).2,(B9 hC q _ h4).list p hp,(Dv q _ h4).list p hp,by omega⟩
theorem XY(hv:fq cv k.ds)(hl:k.ds.length<=1000000)(hN:10000000000000000010<=N)(h:rD N cv k.ds q)(hz:q.size<=1000000)(hnb:∀p∈q.list,eH p.2<=65536)(hk:k.OK)(hmn:k.mn=ax (GD q) [109,97,105,110])
  (hmk:jf (FF (GD q)) (ax (GD q)) (KD k.ds) strF q ⟨[],[]⟩=(k.gl,k.m)):k.Good/\k.gl.map (·.nm)=q.names/\∃g,k.gl[k.mn]? = So g/\g.nm=[109,97,105,110]:=by
 obtain⟨hC,hn⟩:=EB hv hl hN h;obtain⟨-,-,-,h4,h5⟩:=h;have hlen:=q.cq;have hw:=B9 hC q _ h4;have nm:=Pu (F:=FF (GD q)) (G:=ax (GD q)) (K:=KD k.ds) (strF:=strF) q ⟨[],[]⟩;have rs:=Pv (F:=FF (GD q)) (G:=ax (GD q)) (K:=KD k.ds) (strF:=strF) q ⟨[],[]⟩;obtain⟨w1,w2⟩:=Pt (F:=FF (GD q)) (G:=ax (GD q)) (K:=KD k.ds) q hw.list ⟨[],[]⟩;have ex:=Pr (F:=FF (GD q)) (G:=ax (GD q)) (K:=KD k.ds) (strF:=strF) q (CD q hw) ⟨[],[]⟩;rw[hmk]at nm rs w1 w2 ex;simp only[List.length_nil,J1]at w1 w2;have gll:k.gl.length=q.len:=by
  have:=congrArg List.length nm
  rwa [Q1,fg]at this
 obtain⟨i,hi,m1,m2⟩:=Cw (S:=λ_=>No) (n:=0) h5;rw[J1]at m1;have hq0:0<q.len:=by grind
 have hG:∀s,ax (GD q) s<k.gl.length:=λs=>by
  rw[gll];have h1:=(ia.nil 0).add (l:=q.names);rw[J1]at h1;unfold ax;cases hs:GD q s with
  |none=>grind
  |some j=>have:=h1 s j hs;grind
 have hP:pw (GD q) [q.names] []:=λs hs=>by
  right;rw[lZ]at hs;rcases hs with hs|hs
  ·obtain⟨j,-,h1,-⟩:=Cw (S:=λ_=>No) (n:=0) hs;unfold yv;rw[show GD q s=_ from h1];rfl
  ·simp[hasB]at hs
 have hcx:∀p∈q.list,oj (FF (GD q)) (KD k.ds) (jo k.ds) (jS k.ds) strF arF p.2 []/\eH p.2<=65536:=λp hp=>by obtain⟨j,hj,rfl⟩:=J3 hp;have:=aa.dX hp;exact⟨Hq hn _ [q.names] [] (IS.1 h4 j hj) (by omega) hP,hnb _ hp⟩
 obtain⟨f1,f2,f3⟩:=Ps (arC:=jo k.ds) (tyC:=jS k.ds) (arF:=arF) hG q hcx ⟨[],[]⟩;rw[hmk]at f1 f2 f3;simp only at f1 f2 f3;have bo:∀b∈k.m.bos,sH k.gl.length k.m.ops b:=λb hb=>by obtain⟨j,hj,rfl⟩:=J3 hb;exact f1.bo j _ (J4 _) (Q8 hj)
 have em:k.mn=i:=by rw[hmn];unfold ax;rw[show GD q [109,97,105,110]=_ from m1];rfl
 have hi':i<k.gl.length:=by rw[gll,<-fg];exact hi
 refine⟨⟨⟨hk,hl,by omega,by omega,by omega⟩,λo ho=>?_,ex,bo,λg hg=>?_,by rw[em];exact hi'⟩,nm,k.gl[i],by rw[em];exact Q8 hi',?_⟩
 ·obtain⟨j,hj,rfl⟩:=J3 ho;obtain⟨k1,k2⟩:=f1.op j _ (J4 _) (Q8 hj);refine⟨k1,k2,?_⟩;have hc:=ex.all j;rw[if_pos hj]at hc;obtain⟨b,hb,hjb⟩:=List.mem_flatMap.1 (Q9.1 (by rw[hc];exact Nat.one_pos));obtain⟨o,q1,q2⟩:=(bo b hb).ts.QO hjb;rw[Q8 hj]at q1;cases q1;exact q2.mono (bo b hb).hi
 ·obtain⟨p1,p2,p3⟩:=f3 g hg;exact⟨p1,p2,p3,rs g hg⟩
 ·have:(k.gl.map (·.nm))[i]'(by simpa using hi')=q.names[i]:=by simp only[nm]
  rw[Q0]at this;rw[this,m2]
theorem SH(h:k.Good)(j:Nat):(k.m.bos.flatMap λb=>lM (fy (dI k.m.ops) b.op)).count j=if j<k.m.ops.length then 1 else 0:=by rw[ML (f:=λb:dS=>lM (fy (dI k.m.ops) b.op)) (g:=λb=>fy (dI k.m.ops) b.op) (λb=>BO _)];exact h.ex.all j
structure Made(N:Nat)(cv:AV)(ds:List bG)(b:aa):Prop where
 wt:b.len+b.wt<=66*b.size
 dK:dK b.names 0<=b.len
 ok:rD N cv ds (fG b)
 names:(fG b).names=b.names
 ej:ie strF (fG b)=true
 once:(b.names++(fG b).ee).Nodup
theorem made(hv:fq cv ds)(hl:ds.length<=1000000)(hN:10000000000000000010<=N)(h:rD N cv ds b)(hs:b.size<=14000):Made N cv ds b:=by
 have hC:=(EB hv hl hN h).1;have⟨h1,h2,h3,h4,h5⟩:=h;have hw:=EA _ hC b _ h4;have hbl:=b.cq;have hpot:Go.Proofs.YtnmofhngblebiaaGreatDoor.dK b.names 0<=b.len:=by have:=A6 b.names (n:=0);rw[fg]at this;unfold Go.Proofs.YtnmofhngblebiaaGreatDoor.dK;omega
 have hn:(fG b).names=b.names:=by unfold fG;rw[ET _ b jG b.names 0 (by rw[fg];exact Q4 _),<-fg,J5]
 have hk:cS (ir ds) (fG b) [b.names]=true:=by unfold fG;exact Jj b.names _ b jG b.names 0 [b.names] [b.names] h4 (λs hs=>hs) (λs y hs=>by cases hs) (by omega)
 obtain⟨-,hI⟩:=ES b.names b jG b.names 0;have hI':dY b.names 0 (cy b.names b jG b.names 0).2 (fG b).ee:=hI;refine⟨hw,hpot,⟨h1,by rw[hn];exact h2,by rw[hn];exact h3,by rw[hn];exact hk,by rw[hn];exact h5⟩,hn,Ji b.names (ir ds) b jG b.names 0 _ h4,?_⟩;rw[List.nodup_append];refine⟨?_,hI'.1,λx hx y hy=>?_⟩
 ·unfold ez at h2;simp only[Z4,decide_eq_true_eq]at h2;exact h2.2
 ·rintro rfl;obtain⟨m,-,-,-,h6⟩:=hI'.2 _ hy;exact h6 hx
theorem aaY(b:aa):(fG b).size<=4*b.size:=Jk b.names b jG b.names 0
theorem aaZ(h:b.Ty 1):(fG b).Ty 1:=Bs b.names b jG b.names 0 h
theorem OU:∀(L M:List ae),(∀s,L.count s<=M.count s)->L.length<=M.length
 |[],M,_=>J4 _
 |a::L,M,h=>by
  have ha:a∈M:=Q9.1 (by have:=h a;rw[List.count_cons_self]at this;omega);have hp:=List.perm_cons_erase ha;have:=OU L (M.erase a) λs=>by have h1:=h s;rw[hp.count_eq,Z5,Z5]at h1;omega
  rw[hp.length_eq,Z6,Z6];omega
theorem Ys{T:List ae}{k:Nat}{L:List ae}(h:dY T 0 k L):L.length<=k:=by
 have:=OU L ((List.range k).map λj=>dt (j+1)) λs=>by
  have h1:=(List.nodup_iff_count.1 h.1) s;by_cases hs:s∈L
  ·obtain⟨m,m1,m2,m3,-⟩:=h.2 s hs;have:0<((List.range k).map λj=>dt (j+1)).count s:=Q9.2 (List.mem_map.2 ⟨m-1,List.mem_range.2 (by omega),by rw[m3,show m-1+1=m by omega]⟩);omega
  ·rw[List.count_eq_zero.2 hs];omega
 simpa using this
def Tv(o:Option (AV×St))(st:St)(b:aa):Prop:=∃(m:Nat) (s':St),o=So (.i .i64 (m:Int),s')/\Kp [] [] st s'/\(m<=2000->m=b.size)
def KQ(v:AV)(b:aa)(i:Nat):Prop:=∃m:Nat,v=.i .i64 (m:Int)/\m<=2001/\(m<=2000->m=dM b.list i)
theorem WC(_:cv.cells=So [cv]/\bR cv=true/\aE cv=true)(hb:b.Ty 1)(hN:b.size+10<=N):
  Tv ((Tw c N).call 15 [.ag [cv,b.slice 8],.i .i64 2000] st) st b:=by
 cases N
 ·omega
 rename_i N;rw[dV rfl func15 rfl (Q5 rfl)];unfold aJ;have hce:=bq (st:=st) [cv,b.slice 8];have hp:st.next<(st.aj [cv,b.slice 8]).next:=J6 _;have k0:Kp [] [] st (st.aj [cv,b.slice 8]):=.aj _ _ _;obtain⟨s0,hs0⟩:∃s0,st.aj [cv,b.slice 8]=s0:=⟨_,rfl⟩;rw[hs0]at k0 hp hce;have at1:∀{s:St},Kp [] [] s0 s->rd s st.next 1 1=So [b.slice 8]:=λkk=>by rw[ai (kk.ce hce hp hp (by simp) (by simp))];rfl
 have vl:=λst:St=>bg (st:=st) underlying23 (b.bU 8) (b.bV 8)
 have hbl:=b.cq;simp[f15,hs0,ba];generalize hL:aQ _ _ _ _=Lo;obtain⟨t1,s1,rfl,kK,m,q5,q1,q2⟩:=AS hL 0 b.list.length
  (λi t s=>ab t 1=.i .i64 2000/\ab t 2=.p st.next 0/\ab t 6=.i .i64 (i:Int)/\Kp [] [] s0 s/\KQ (ab t 5) b i)
  (λt s=>Kp [] [] s0 s/\KQ (ab t 5) b b.list.length)
  (by rw[<-aa.aF];omega)
  ⟨by simp,by simp,by simp,.refl _ _ _,0,by simp,by omega,λ_=>by rw[mv]⟩
  (by
   rintro i t s hi ⟨i1,i2,i6,iK,m,i5,iM,iC⟩;have hx:=at1 iK;have hil:i<b.len:=by rw[aa.aF];exact hi
   have e5:(i:Int)<(b.len:Int):=by omega
   by_cases hm':m<=2000
   ·left;have e6:(m:Int)<=2000:=by omega
    have e7:wr .i64 ((i:Int)+1)=((i+1:Nat):Int):=by have:=qh b.list i (by omega);have:=iC hm';rw[aP (by omega) (by omega)];rfl
    have⟨r,r1,r2⟩:=eK hb.pre (show fH 1+7=8 from rfl) hi;have ix:=dP (P:=prog) underlying23 dc cK b.flat b.len i hil;rw[<-aa.dR hil,r1]at ix;have hmem:=Q2 hi;have hsz':=aa.dX hmem;have⟨m',s',g1,g2,g3,g4,g5⟩:=VV (c:=c) _ (aa.dC hb _ hmem).2.wf m 2000 s N (by omega) (by omega) (by omega);have g1':(Tw c N).call 41 [.ag b.list[i].2.cells,.i .i64 (m:Int),.i .i64 2000] s=So (.i .i64 (m':Int),s'):=g1;have r2':b.list[i].1.length=1:=r2;have hd:(b.list[i].1++(b.list[i].2.cells++r)).drop 1=b.list[i].2.cells++r:=by rw[List.drop_append,r2'];simp[r2',List.drop_eq_nil_of_le]
    simp[i1,i2,i5,i6,hx,vl,e5,e6,ix,hd,aX,pc,g1',e7];refine⟨_,_,⟨rfl,rfl⟩,by simp[i1],by simp[i2],by simp,iK.trans g2,m',by simp,by omega,λh=>?_⟩;rw[gX hi,g5 h,iC hm']
   ·right;have e6:¬(m:Int)<=2000:=by omega
    simp[i1,i2,i5,i6,hx,vl,e5,e6];exact⟨_,_,⟨rfl,rfl⟩,iK,m,by simp[i5],iM,λh=>absurd h hm'⟩)
  (by rintro t s ⟨i1,i2,i6,iK,m,i5,iM,iC⟩;have hx:=at1 iK;simp[i2,i6,hx,vl,aa.aF];exact⟨_,_,⟨rfl,rfl⟩,iK,m,by simp[i5],iM,iC⟩)
 clear hL;refine⟨m,s1,?_,k0.trans kK,λh=>?_⟩
 ·simp[q5]
 ·rw[q2 h,mq]
def C7(N:Nat):Option Self:=So (Tw No (N+1))
theorem Vj(N:Nat):∀S,C7 N=So S->bK prog S:=λS h=>by cases h;exact Sq (λS h=>by cases h) _
theorem Hd(hv:fq cv ds)(hl:ds.length<=1000000)(hb:b.Ty 1)(hs:b.size<=1000000)(hN:2*b.size+10000000000000000100<=N):
  ∃e:Int,qu (C7 N) cv b e/\(lF b=false->e=3)/\(lF b=true->(e=0↔rD N cv ds b)):=by
 have⟨e,h1,h2,h3⟩:=Vv hv hl hb hs hN;refine⟨e,λst x M hM hx=>?_,h2,h3⟩;obtain⟨M,rfl⟩:∃M',M=M'+1:=⟨M-1,by omega⟩;have hp:aA [AV.ag [cv,b.slice 8]]=true:=by simp[aA,aE,hv.pure,aa.tQ hb 8]
 have h4:(Tw No (N+1)).call 16 [.ag [cv,b.slice 8]] ay=So (.i .i64 e,ay):=
  eS (X:=[]) rfl rfl (.inl rfl) (.pure hp) func16 rfl (Q5 rfl) rfl h1
 show(eT (λf=>f==16) (Tw No (N+1)) _).call 16 [x] st=_
 exact CQ rfl (.cons hx .nil) h4 rfl
def TT(o:Option (AV×St))(st:St)(ds:List bG)(b:aa):Prop:=∃(r:Bool) (s':St),o=So (.b r,s')/\Kp [] [] st s'/\(r=true->b.size<=2000/\ds.length<=2000)
theorem acv(hv:fq cv ds)(hb:b.Ty 1)(hN:b.size+10<=N):TT ((Tw c (N+1)).call 6 [.ag [cv,b.slice 8]] st) st ds b:=by
 have hcs:cv.cells=So [cv]/\bR cv=true/\aE cv=true:=⟨by rcases hv.1 with ⟨rfl,-⟩|rfl<;>simp,by rcases hv.1 with ⟨rfl,-⟩|rfl<;>rfl,hv.pure⟩;rw[dV rfl func6 rfl (Q5 rfl)];unfold aJ;have c1:=bq (st:=st) [cv,b.slice 8];have k1:Kp [] [] st (st.aj [cv,b.slice 8]):=.aj _ _ _;have n1:(st.aj [cv,b.slice 8]).next=st.next+1:=rfl;obtain⟨s1,hs1⟩:∃s1,st.aj [cv,b.slice 8]=s1:=⟨_,rfl⟩;obtain⟨r1,hr1⟩:∃r,st.next=r:=⟨_,rfl⟩;rw[hs1]at k1 c1 n1;rw[hr1]at c1 n1;have⟨m,s2,x1,x2,x3⟩:=WC (c:=c) (st:=s1) hcs hb hN;have c2:=x2.ce c1 (by omega) (by omega) (by simp) (by simp);have ra:rd s1 r1 0 2=So [cv,b.slice 8]:=by rw[ai c1];rfl
 have r0:rd s2 r1 0 1=So [cv]:=by rw[ai c2];rfl
 have r1':rd s2 r1 1 1=So [b.slice 8]:=by rw[ai c2];rfl
 have ln:=λst:St=>wC (st:=st) hv
 have lb:=λst:St=>bg (st:=st) underlying23 (b.bU 8) (b.bV 8)
 by_cases hm:m<=2000
 ·have e1:(m:Int)<=2000:=by omega
  by_cases hd:ds.length<=2000
  ·have e2:(ds.length:Int)<=2000:=by omega
   refine⟨decide ((b.len:Int)<=2000),s2,?_,k1.trans x2,λ_=>⟨by rw[<-x3 hm];exact hm,hd⟩⟩;simp[f6,hs1,hr1,gC,ra,x1,e1,r0,r1',ln,lb,e2]
  ·have e2:¬(ds.length:Int)<=2000:=by omega
   refine⟨false,s2,?_,k1.trans x2,λh=>by cases h⟩;simp[f6,hs1,hr1,gC,ra,x1,e1,r0,ln,e2]
 ·have e1:¬(m:Int)<=2000:=by omega
  refine⟨false,s2,?_,k1.trans x2,λh=>by cases h⟩;simp[f6,hs1,hr1,gC,ra,x1,e1]
theorem aee{g:FuncId}{xs:List AV}(h:Nat.beq f g=false):(xI g S).call f xs st=S.call f xs st:=by
 show @Bool.rec (λ_=>aD) (S.call f xs st) _ (Nat.beq f g)=_
 rw[h]
theorem aeg(g:FuncId):(xI g S).call g [] st=So (.b true,st):=by
 show @Bool.rec (λ_=>aD) _ (So (.b true,st)) (Nat.beq g g)=_
 rw[Nat.beq_refl]
noncomputable def dq:Nat->Code
 |0=>f4.body.getD .skip
 |k+1=>aw (dq k)
structure Cu(s:St)(r:Nat)(x y:AV):Prop where
 all:rd s r 0 2=So [x,y]
 c0:rd s r 0 1=So [x]
 c1:rd s r 1 1=So [y]
theorem Ko{x y:AV}(h:s.ce r=So ([x,y],g,al)):Cu s r x y :=
 ⟨by rw[ai h];rfl,by rw[ai h];rfl,by rw[ai h];rfl⟩
def vZ(o:Out):Prop:=∃t s,o=.rt t s/\ab t 2=.b true
noncomputable abbrev LT(N7 N : Nat) : Self := xI 5 (Tw (C7 N7) N)
noncomputable abbrev gM(N7 N : Nat) : Ctx := ⟨prog,LT N7 N,false,f4.ntmps,N⟩
structure Cg(s:St)(r:Nat)(k:bS):Prop where
 all:loadAt prog 35 s (.p r 0)=So (.ag k.cells)
 c1:rd s r 1 1=So [k.ov]
 c2:rd s r 2 1=So [k.bo]
 c3:rd s r 3 1=So [k.gv]
 c4:rd s r 4 1=So [.i .i64 (k.mn:Int)]
theorem GZ(h:s.ce r=So (k.cells,g,al)):Cg s r k :=
 ⟨by rw[cu tm wg,tY,ai h];rfl,by rw[ai h];rfl,by rw[ai h];rfl,by rw[ai h];rfl,by rw[ai h];rfl⟩
section
variable {r3 r5:Nat}
theorem A7(h:Nat.beq f 5=false)(xs:List AV)(st:St):(LT N7 N).call f xs st=(Tw (C7 N7) N).call f xs st:=aee h
theorem YP(hG:k.Good)(hK:qu (C7 N7) k.cv oP 0)(hlen:k.gl.length=q.len)(hm:∃g,k.gl[k.mn]? = So g/\g.nm=[109,97,105,110])(h3:ab t 3=.p r3 0)(h5:ab t 5=.p r5 0)(h4:ab t 4=.i .i64 0)(c3:Cu s r3 cv (q.slice 8))(c5:Cg s r5 k)(hN:8000000<=N):
  ∃t',ao (au (dq 6)) (gM N7 N) t s=.nx t' s/\ab t' 3=.p r3 0/\ab t' 5=.p r5 0:=by
 have lq:=λst:St=>bg (st:=st) underlying23 (q.bU 8) (q.bV 8)
 have ln:=λst:St=>hG.sm.ok.g.cP (st:=st) xp
 rw[Q1]at ln;have qc:=λst:St=>(A7 (N7:=N7) (N:=N) (f:=11) rfl [.ag k.cells] st).trans (Mv (st:=st) hG hK (N:=N) (by omega))
 have⟨g,g1,g2⟩:=hm;have⟨hg,g3⟩:=List.getElem?_eq_some_iff.1 g1;have⟨r,ix⟩:=hG.sm.ok.g.at (P:=prog) xp (k:=k.mn) (by simpa using hg);rw[Q0,g3]at ix;have gn:oneOf (takeN 1 (g.cells++r))=So (.s [109,97,105,110]):=by rw[<-g2];rfl
 have e1:¬(k.mn:Int)<0:=by omega
 have e2:¬k.gl.length<=k.mn:=by omega
 have e2':¬(k.gl.length:Int)<=(k.mn:Int):=by omega
 rw[hlen]at ln e2 e2';simp[dq,au,aw,f4,h3,h4,h5,c5.all,qc,c5.c3,c5.c4,ln,c3.c1,lq,e1,e2',ix,gn,ik]
theorem YQ(hG:k.Good)(hq:q.Ty 1)(hql:q.len<=1000000)(hnm:k.gl.map (·.nm)=q.names)(h3:ab t 3=.p r3 0)(h5:ab t 5=.p r5 0)(c3:Cu s r3 cv (q.slice 8))(c5:Cg s r5 k)(hN:8000000<=N):
  ∃t',ao (au (dq 7)) (gM N7 N) t s=.nx t' s/\ab t' 5=.p r5 0:=by
 have lq:=λst:St=>bg (st:=st) underlying23 (q.bU 8) (q.bV 8)
 have hlen:k.gl.length=q.list.length:=by
  have:=congrArg List.length hnm
  rwa [Q1,fg,aa.aF]at this
 have eq:=aa.aF q;simp[dq,au,aw,f4,ba];generalize hL:aQ _ _ _ _=L;obtain⟨t1,s1,rfl,rfl,z5⟩:=AS hL 0 q.list.length
  (λi t' s'=>s'=s/\ab t' 3=.p r3 0/\ab t' 5=.p r5 0/\ab t' 6=.i .i64 (i:Int))
  (λt' s'=>s'=s/\ab t' 5=.p r5 0) (by omega)
  ⟨rfl,by simp[h3],by simp[h5],by simp⟩
  (by
   rintro i t' s' hi ⟨rfl,i3,i5,i6⟩;left;have hil:i<q.len:=by omega
   have e3:(i:Int)<(q.len:Int):=by omega
   have e4:wr .i64 ((i:Int)+1)=((i+1:Nat):Int):=by rw[aP (by omega) (by omega)];rfl
   have⟨y1,y2,y3⟩:=eK hq.pre (show fH 1+7=8 from rfl) hi;have iy:=dP (P:=prog) underlying23 dc cK q.flat q.len i hil;rw[<-aa.dR hil,y2]at iy;have hp:=gW (aa.dC hq _ (Q2 hi)).1;have hi':i<k.gl.length:=by omega
   have en:k.gl[i].nm=fo (q.list[i].1.headD .un):=by
    have:(k.gl.map (·.nm))[i]'(by simpa using hi')=q.names[i]'(by rw[fg];exact hil):=by simp only[hnm]
    rw[Q0]at this;rw[this];simp[aa.names,eD]
   rw[hp]at iy;have⟨r,ix⟩:=hG.sm.ok.g.at (P:=prog) xp (k:=i) (by simpa using hi');rw[Q0]at ix;have gn:oneOf (takeN 1 (k.gl[i].cells++r))=So (.s (fo (q.list[i].1.headD .un))):=by rw[<-en];rfl
   simp[i3,i6,e3,c3.c1,lq,aY];rw[bP (by kernel_rfl)];simp[i3,i5,i6,e4,c5.c3,ix,gn,c3.c1,iy,ik];exact⟨_,_,⟨rfl,rfl⟩,rfl,by simp[i3],by simp[i5],by simp⟩)
  (by rintro t' s' ⟨rfl,i3,i5,i6⟩;simp[i3,i6,c3.c1,lq,eq];exact⟨_,_,⟨rfl,rfl⟩,rfl,by simp[i5]⟩)
 clear hL;exact⟨t1,by simp,z5⟩
theorem YR(hG:k.Good)(h5:ab t 5=.p r5 0)(c5:Cg s r5 k):∃t',ao (au (dq 8)) (gM N7 N) t s=.nx t' (s.aj ((List.range k.m.ops.length).map λ_=>iN 0))/\ab t' 5=.p r5 0/\ab t' 7=.sl s.next 0 k.m.ops.length 1 (So k.m.ops.length):=by
 have ln:=λst:St=>hG.sm.ok.o.cP (st:=st) xn
 rw[Q1]at ln;have mk:=λ(t:Tr AV) (h:ah t (.tmp 91)=.i .i64 (k.m.ops.length:Int))=>PC (S:=LT N7 N) (t:=t) (st:=s) (x:=.tmp 91) (y:=.tmp 91) h h hG.sm.o
 simp[dq,au,aw,f4,h5,c5.c1,ln,mk]
end
structure mB(s:St)(k:bS)(r fr:Nat)(L:List Nat):Prop where
 cd:∃al,s.ce r=So (k.cells,r,al)
 cf:qy s fr k.m.ops.length λx=>L.count x
 lt:r<s.next/\fr<s.next/\r≠fr
def jT(k:bS)(b:dS):List Nat:=lM (fy (dI k.m.ops) b.op)
section
variable {r5 fr:Nat}{L:List Nat}
theorem mB.new(h:mB s k r5 fr L)(K:Kp [] [] s s'):mB s' k r5 fr L:=by have⟨⟨al,h1⟩,⟨al',h2⟩,h3,h4,h5⟩:=h;exact⟨⟨al,K.ce h1 h3 h3 (by simp) (by simp)⟩,⟨al',K.ce h2 h4 h4 (by simp) (by simp)⟩,Q3 h3 K.next,Q3 h4 K.next,h5⟩
theorem mB.inc(h:mB s k r5 fr L){x:Nat}(hx:x<k.m.ops.length):∃s',wt s fr x [.i .i64 ((L.count x:Int)+1)]=So s'/\mB s' k r5 fr (L++[x]):=by have⟨⟨al,h1⟩,h2,h3,h4,h5⟩:=h;obtain⟨s',q1,q2,-,q3,q4⟩:=h2.inc hx;exact⟨s',q1,⟨al,q4 _ _ _ h5 h1⟩,q2,by rw[q3];exact h3,by rw[q3];exact h4,h5⟩
theorem YS(hG:k.Good)(hK:qu (C7 N7) k.cv oP 0)(h5:ab t 5=.p r5 0)(h7:ab t 7=.sl fr 0 k.m.ops.length 1 (So k.m.ops.length))(hI:mB s k r5 fr [])(hN:9000000<=N):
  ∃t' s',ao (au (dq 9)) (gM N7 N) t s=.nx t' s'/\ab t' 7=.sl fr 0 k.m.ops.length 1 (So k.m.ops.length)/\mB s' k r5 fr (k.m.bos.flatMap (jT k)):=by
 have hol:=hG.sm.o;have hbl:=hG.sm.b;have ln:=λst:St=>hG.sm.ok.b.cP (st:=st) rW
 rw[Q1]at ln;have lnf:=λst:St=>bg (P:=prog) (st:=st) (v:=.sl fr 0 k.m.ops.length 1 (So k.m.ops.length)) underlying50 rfl rfl
 have hone:∀x,(k.m.bos.flatMap (jT k)).count x=if x<k.m.ops.length then 1 else 0:=SH hG
 simp[dq,au,aw,f4,ba];generalize hL:aQ _ _ _ _=L;obtain⟨t1,s1,rfl,z7,H1⟩:=cD hL 2 k.m.bos.length
  (λi t s=>ab t 5=.p r5 0/\ab t 7=.sl fr 0 k.m.ops.length 1 (So k.m.ops.length)/\ab t 8=.i .i64 (i:Int)/\mB s k r5 fr ((k.m.bos.take i).flatMap (jT k)))
  (λt s=>ab t 7=.sl fr 0 k.m.ops.length 1 (So k.m.ops.length)/\mB s k r5 fr (k.m.bos.flatMap (jT k))) (by omega)
  ⟨by simp[h5],by simp[h7],by simp,hI⟩
  (by
   rintro i t s hi ⟨i5,i7,i8,iI⟩;have e3:(i:Int)<(k.m.bos.length:Int):=by omega
   have e4:wr .i64 ((i:Int)+1)=((i+1:Nat):Int):=by rw[aP (by omega) (by omega)];rfl
   have⟨al,c5⟩:=iI.cd;have w5:=GZ c5;have⟨s',u1,u2⟩:=adS (c:=C7 N7) (st:=s) hG hK hi (N:=N) (by omega);have u1':=(A7 (N7:=N7) (N:=N) (f:=12) rfl [.ag k.cells,.i .i64 (i:Int)] s).trans u1;have et:(k.m.bos.take (i+1)).flatMap (jT k)=(k.m.bos.take i).flatMap (jT k)++jT k k.m.bos[i]:=by rw[<-Q7 hi,Z7];simp
   have hct:∀x,((k.m.bos.take (i+1)).flatMap (jT k)).count x<=(if x<k.m.ops.length then 1 else 0):=λx=>by have:=hone x;rw[<-List.take_append_drop (i+1) k.m.bos,Z7,Q6]at this;omega
   rw[et]at hct;have hrl:(jT k k.m.bos[i]).length<=1000000:=by unfold jT;rw[(BO _).length_eq];exact Nat.le_trans (hG.ex.HN (Q2 hi)) hol
   have eR:lM (fy (dI k.m.ops) k.m.bos[i].op)=jT k k.m.bos[i]:=rfl;rw[eR]at u1';generalize jT k k.m.bos[i]=R at*;simp[i5,i8,e3,w5.c2,ln,w5.all,u1',ba];generalize hL:aQ _ _ _ _=L;obtain⟨t5,s5,rfl,z5,z7,z8,H5⟩:=cD hL 4 R.length
    (λj t s=>ab t 5=.p r5 0/\ab t 7=.sl fr 0 k.m.ops.length 1 (So k.m.ops.length)/\ab t 8=.i .i64 (i:Int)/\ab t 9=fu R/\ab t 11=.i .i64 (j:Int)/\mB s k r5 fr ((k.m.bos.take i).flatMap (jT k)++R.take j))
    (λt s=>ab t 5=.p r5 0/\ab t 7=.sl fr 0 k.m.ops.length 1 (So k.m.ops.length)/\ab t 8=.i .i64 (i:Int)/\mB s k r5 fr ((k.m.bos.take i).flatMap (jT k)++R)) (by omega)
    ⟨by simp[i5],by simp[i7],by simp[i8],by simp,by simp,by rw[List.take_zero,Z0];exact iI.new u2⟩
    (by
     rintro j t s hj ⟨j5,j7,j8,j9,j11,jI⟩;have e3:(j:Int)<(R.length:Int):=by omega
     have e4:wr .i64 ((j:Int)+1)=((j+1:Nat):Int):=by rw[aP (by omega) (by omega)];rfl
     have⟨ad,ix,ld⟩:=DT R hj;have et:R.take (j+1)=R.take j++[R[j]]:=(Q7 hj).symm;have hxm:=Q2 hj;generalize R[j]=x at*;have hc:=hct x;rw[Q6]at hc;have hxl:x<k.m.ops.length:=by
      rcases Nat.lt_or_ge x k.m.ops.length with h|h
      ·exact h
      ·rw[if_neg (by omega)]at hc;have:=Q9.2 hxm;omega
     have hcx:((k.m.bos.take i).flatMap (jT k)++R.take j).count x<=1:=by have h2:(R.take j).count x<=R.count x:=(List.take_sublist j R).count_le x;rw[if_pos hxl]at hc;rw[Q6];omega
     have rn:=jI.cf.num hxl;have⟨s',w1,w2⟩:=jI.inc hxl;rw[List.append_assoc,<-et]at w2;generalize ((k.m.bos.take i).flatMap (jT k)++R.take j).count x=cx at*;have ixf:=AF k.m.ops.length fr hxl;have e5:¬k.m.ops.length<=x:=by omega
     have e6:¬(k.m.ops.length:Int)<=(x:Int):=by omega
     have e7:¬(x:Int)<0:=by omega
     have e8:wr .i64 ((cx:Int)+1)=(cx:Int)+1:=aP (by omega) (by omega);have sto:=bN dW eY s fr x (.i .i64 ((cx:Int)+1)) rfl;simp[j7,j9,j11,oM,e3,e4,ix,ld,lnf,e6,e7,ixf,rn,e8,sto,w1];exact⟨_,_,⟨rfl,rfl⟩,by simp[j5],by simp[j7],by simp[j8],by simp[j9],by simp,w2⟩)
    (by rintro t s ⟨j5,j7,j8,j9,j11,jI⟩;rw[J5]at jI;simp[j9,j11,oM];exact⟨_,_,⟨rfl,rfl⟩,by simp[j5],by simp[j7],by simp[j8],jI⟩)
   clear hL;rw[<-et]at H5;simp[z8,e4];exact⟨_,_,⟨rfl,rfl⟩,by simp[z5],by simp[z7],by simp,H5⟩)
  (by rintro t s ⟨i5,i7,i8,iI⟩;rw[J5]at iI;have⟨al,c5⟩:=iI.cd;have w5:=GZ c5;simp[i5,i8,w5.c2,ln];exact⟨_,_,⟨rfl,rfl⟩,by simp[i7],iI⟩)
 clear hL;exact⟨t1,s1,by simp,z7,H1⟩
theorem YO(hG:k.Good)(h7:ab t 7=.sl fr 0 k.m.ops.length 1 (So k.m.ops.length))(hI:mB s k r5 fr (k.m.bos.flatMap (jT k)))(hN:9000000<=N):∃t',ao (au (dq 10)) (gM N7 N) t s=.nx t' s:=by
 have hol:=hG.sm.o;have lnf:=λst:St=>bg (P:=prog) (st:=st) (v:=.sl fr 0 k.m.ops.length 1 (So k.m.ops.length)) underlying50 rfl rfl
 have hone:∀x,(k.m.bos.flatMap (jT k)).count x=if x<k.m.ops.length then 1 else 0:=SH hG
 have hcf:=hI.cf;clear hI;generalize k.m.bos.flatMap (jT k)=L at*;simp[dq,au,aw,f4,ba];generalize hL:aQ _ _ _ _=L';obtain⟨t1,s1,rfl,rfl⟩:=cD hL 6 k.m.ops.length
  (λi t u=>ab t 7=.sl fr 0 k.m.ops.length 1 (So k.m.ops.length)/\ab t 12=.i .i64 (i:Int)/\u=s)
  (λt u=>u=s) (by omega)
  ⟨by simp[h7],by simp,rfl⟩
  (by
   rintro i t u hi ⟨i7,i12,rfl⟩;have e3:(i:Int)<(k.m.ops.length:Int):=by omega
   have e4:wr .i64 ((i:Int)+1)=((i+1:Nat):Int):=by rw[aP (by omega) (by omega)];rfl
   have rn:=hcf.num hi;have h1:=hone i;rw[if_pos hi]at h1;rw[h1]at rn;have rn:rd u fr i 1=So [.i .i64 1]:=rn;have ixf:=AF k.m.ops.length fr hi;simp[i7,i12,lnf,e3,e4,ixf,rn];exact⟨_,_,⟨rfl,rfl⟩,by simp[i7],by simp,rfl⟩)
  (by rintro t u ⟨i7,i12,rfl⟩;simp[i7,i12,lnf])
 clear hL;exact⟨t1,by simp⟩
end
set_option maxHeartbeats 8000000
theorem Eg{v:AV}{z:Nat}{els:List (List AV)}(h:gA v z els):bR v=true:=by rcases h.1 with ⟨rfl,-⟩|rfl<;>rfl
theorem bS.OK.sc(h:k.OK):bH k.cells=true:=by have hc:gA k.cv 4 (k.ds.map bG.cells):=h.c;simp[bS.cells,Eg hc,Eg h.o,Eg h.b,Eg h.g,iN]
theorem Zn(C:ae->Option AV):cS C oP [oP.names]=true:=by simp[oP,cS,dQ,cQ,dL,aL,aa.len,fF]
theorem Zo(hv:fq cv ds)(hl:ds.length<=1000000)(hN:10000000000010000000<=N7)(h:rD N7 cv ds q):qu (C7 N7) cv oP 0:=by
 have hT:oP.Ty 1:=by refine⟨⟨_,rfl⟩,⟨⟨by decide,by decide⟩,⟨[],.inl ⟨rfl,rfl⟩,by simp⟩,trivial,trivial,trivial⟩,trivial⟩
 obtain⟨e,h1,-,h2⟩:=Hd hv hl hT (by decide) (N:=N7) (by have:oP.size=1:=rfl;rw[this];omega);have hf:lF oP=true:=by decide
 have:e=0:=(h2 hf).2 ⟨h.1,by decide,λj hj _=>by simp[oP,aa.names,aa.list]at hj,Zn _,by decide⟩;rw[this]at h1;exact h1
theorem YU(hv:fq cv ds)(hb:b.Ty 1)(hN7:10000000000010000000<=N7)(hN:b.size+40000000000000000000<=N)(hT:pD st)(h0:0<st.next):
  vZ (ao (dq 0) (gM N7 N) (tmpsOf [.ag [cv,b.slice 8]] 0 .lf) st):=by
 have hcs:cv.cells=So [cv]/\bR cv=true/\aE cv=true:=⟨by rcases hv.1 with ⟨rfl,-⟩|rfl<;>simp,by rcases hv.1 with ⟨rfl,-⟩|rfl<;>rfl,hv.pure⟩;have st_:∀(i:Nat) (t:Tr AV) (s:St) (t':Tr AV) (s':St),ao (dq i) (gM N7 N) t s=bW (ao (au (dq i)) (gM N7 N) t s) (ao (dq (i+1)) (gM N7 N))->ao (au (dq i)) (gM N7 N) t s=.nx t' s'->ao (dq i) (gM N7 N) t s=ao (dq (i+1)) (gM N7 N) t' s':=λi t s t' s' h1 h2=>by rw[h1,h2,dN]
 have sr_:∀(i:Nat) (t:Tr AV) (s:St),ao (dq i) (gM N7 N) t s=bW (ao (au (dq i)) (gM N7 N) t s) (ao (dq (i+1)) (gM N7 N))->vZ (ao (au (dq i)) (gM N7 N) t s)->vZ (ao (dq i) (gM N7 N) t s):=λi t s h1 ⟨t',s',h2,h3⟩=>by rw[h1,h2];exact⟨t',s',rfl,h3⟩
 have hbl:=b.cq;have c0:=bq (st:=st) [cv,b.slice 8];have l0:st.next<(st.aj [cv,b.slice 8]).next:=J6 _;have k0:Kp [] [] st (st.aj [cv,b.slice 8]):=.aj _ _ _;obtain⟨s1,hs1⟩:∃s,st.aj [cv,b.slice 8]=s:=⟨_,rfl⟩;obtain⟨r1,hr1⟩:∃r,st.next=r:=⟨_,rfl⟩;rw[hs1]at c0 l0 k0;have tabK:∀{s:St},Kp [] [] s1 s->pD s:=λkk=>by have⟨ty,ht⟩:=hT;exact⟨ty,by rw[(k0.trans kk).get 0 h0 (by simp)];exact ht⟩
 have two1:∀{s:St},Kp [] [] s1 s->Cu s r1 cv (b.slice 8):=λkk=>by rw[<-hr1];exact Ko (kk.ce c0 l0 l0 (by simp) (by simp))
 have a0:∃t,ao (au (dq 0)) (gM N7 N) (tmpsOf [.ag [cv,b.slice 8]] 0 .lf) st=.nx t s1/\ab t 1=.p r1 0:=by simp[dq,au,f4,hs1,hr1]
 have⟨t0,a0,b1⟩:=a0;rw[st_ 0 _ _ _ _ rfl a0];have lv:=λst:St=>aeg (S:=Tw (C7 N7) N) (st:=st) 5
 have a1:∃t,ao (au (dq 1)) (gM N7 N) t0 s1=.nx t s1/\ab t 1=.p r1 0:=by simp[dq,au,aw,f4,lv,b1]
 have⟨t1,a1,b1⟩:=a1;rw[st_ 1 _ _ _ _ rfl a1];obtain⟨M0,hM0⟩:∃M0,N=M0+1:=⟨N-1,by omega⟩;have⟨r,s2,x1,x2,x3⟩:=acv (c:=C7 N7) (st:=s1) hv hb (N:=M0) (by omega);rw[<-hM0]at x1;have x1':=(A7 (N7:=N7) (N:=N) (f:=6) rfl [.ag [cv,b.slice 8]] s1).trans x1;have w1:=two1 (.refl _ _ _);have w2:=two1 x2;by_cases hr:r=true
 case neg=>
  have hr:r=false:=by simpa using hr
  subst hr;refine sr_ 2 _ _ rfl ?_;unfold vZ;simp[dq,au,aw,f4,b1,gC,w1.all,x1']
 subst hr;have⟨hsz,hd⟩:=x3 rfl;have a2:∃t,ao (au (dq 2)) (gM N7 N) t1 s1=.nx t s2/\ab t 1=.p r1 0:=by simp[dq,au,aw,f4,b1,gC,w1.all,x1']
 have⟨t2,a2,b1⟩:=a2;rw[st_ 2 _ _ _ _ rfl a2];obtain⟨q,hq⟩:∃q,fG b=q:=⟨_,rfl⟩;have tq:q.Ty 1:=by rw[<-hq];exact aaZ hb
 have sq0:q.size<=4*b.size:=by rw[<-hq];exact aaY b
 have⟨g1,C1,C1f,C1t⟩:=Hd hv (by omega) hb (by omega) (N:=N7) (by omega);have⟨g2,C2,C2f,C2t⟩:=Hd hv (by omega) tq (by omega) (N:=N7) (by omega);have okb:g1=0->rD N7 cv ds b:=λh=>by
  have hf:lF b=true:=by
   cases hf:lF b with
   |true=>rfl
   |false=>have:=C1f hf;omega
  exact(C1t hf).1 h
 have Mb:g1=0->Made N7 cv ds b:=λh=>made hv (by omega) (by omega) (okb h) (by omega)
 have⟨s3,y1,y2⟩:=abg (c:=C7 N7) (st:=s2) (e2:=g2) hv (by omega) hb (by omega) (tabK x2) (by have:=x2.next;omega) C1 (λh=>by rw[hq];exact C2) (λh=>by have:=(Mb h).wt;have:=(Mb h).dK;omega) (N:=N) (by omega);have y1':=(A7 (N7:=N7) (N:=N) (f:=7) rfl [.ag [cv,b.slice 8]] s2).trans y1;rw[hq]at y1';have K3:=x2.trans y2;have zz:bt prog 25=So [.sn,.sn]:=xK;by_cases hg1:g1=0
 case neg=>
  rw[if_pos hg1,if_pos hg1]at y1';have⟨s4,u1,u2,u3,u4⟩:=bJ (s:=s3) (z:=[.sn,.sn]) (cells:=[.sn,.sn]) rfl rfl;have a3:∃t,ao (au (dq 3)) (gM N7 N) t2 s2=.nx t s4/\ab t 4=.i .i64 g1:=by simp[dq,au,aw,f4,b1,gC,w2.all,y1',aB,zz,aC nO gC,u1]
  have⟨t3,a3,b4⟩:=a3;rw[st_ 3 _ _ _ _ rfl a3];refine sr_ 4 _ _ rfl ?_;unfold vZ;simp[dq,au,aw,f4,b4,hg1]
 have m1:¬(g1≠0):=λh=>h hg1
 rw[if_neg m1,if_neg m1]at y1';by_cases hg2:g2=0
 case neg=>
  rw[if_pos hg2]at y1';have⟨s4,u1,u2,u3,u4⟩:=bJ (s:=s3) (z:=[.sn,.sn]) (cells:=[.sn,.sn]) rfl rfl;have a3:∃t,ao (au (dq 3)) (gM N7 N) t2 s2=.nx t s4/\ab t 4=.i .i64 g2:=by simp[dq,au,aw,f4,b1,gC,w2.all,y1',aB,zz,aC nO gC,u1]
  have⟨t3,a3,b4⟩:=a3;rw[st_ 3 _ _ _ _ rfl a3];refine sr_ 4 _ _ rfl ?_;unfold vZ;simp[dq,au,aw,f4,b4,hg2]
 have m2:¬(g2≠0):=λh=>h hg2
 rw[if_neg m2,hg2]at y1';have⟨s4,u1,u2,u3,u4⟩:=bJ (s:=s3) (z:=[.sn,.sn]) (cells:=[cv,q.slice 8]) rfl (by simp[hcs.2.1,aa.RP]);obtain⟨r3,hr3⟩:∃r,s3.next=r:=⟨_,rfl⟩;rw[hr3]at u1 u2 u4;have K4:=K3.trans u3;have v4:=Ko u2;have a3:∃t,ao (au (dq 3)) (gM N7 N) t2 s2=.nx t s4/\ab t 4=.i .i64 0/\ab t 3=.p r3 0:=by simp[dq,au,aw,f4,b1,gC,w2.all,y1',aB,zz,hr3,aC nO gC,u1]
 have⟨t3,a3,b4,b3⟩:=a3;rw[st_ 3 _ _ _ _ rfl a3];have a4:∃t,ao (au (dq 4)) (gM N7 N) t3 s4=.nx t s4/\ab t 3=.p r3 0:=by simp[dq,au,aw,f4,b3,b4]
 have⟨t4,a4,b3⟩:=a4;rw[st_ 4 _ _ _ _ rfl a4];have hfq:lF q=true:=by
  cases hf:lF q with
  |true=>rfl
  |false=>have:=C2f hf;omega
 have hdq:q.depth<=4096:=by unfold lF at hfq;simp only[Z4,decide_eq_true_eq]at hfq;exact hfq.1
 rw[hg2]at C2;have M:=Mb hg1;have Mok:=M.ok;have Mnm:=M.names;have Mnr:=M.ej;have Mon:=M.once;have Mpt:=M.dK;have Mwt:=M.wt;have hOb:=okb hg1;have hC:=(EB hv (by omega) (by omega) hOb).1;rw[hq]at Mok Mnm Mnr Mon;rw[<-Mnm]at Mon;have hql:=q.cq;have qb:q.ee.length<=1000000:=by obtain⟨-,hI⟩:=ES b.names b jG b.names 0;have hI':dY b.names 0 (cy b.names b jG b.names 0).2 (fG b).ee:=hI;rw[hq]at hI';have h1:=Ys hI';have h2:=Br b.names b jG b.names 0;have h3:=oO b.names (cy b.names b jG b.names 0).2;omega
 have hnb:∀p∈q.list,eH p.2<=65536:=λp hp=>by
  have:=Qw (T:=b.names) hC b [b.names] hOb.2.2.2.1 jG b.names 0 p (by
   show p∈(fG b).list
   rw[hq];exact hp)
  omega
 have hox:=ZZ hv (by omega) (by omega) Mok tq hdq;obtain⟨k,s5,k1,⟨rfl,rfl⟩,k3,k4,z1,z2⟩:=Zq (c:=C7 N7) (st:=s4) hv (by omega) tq (by omega) hox (λN hN st=>abj hcs tq (by omega) C2 Mnr Mon qb (by omega) (.inr (by decide))) (N:=N) (by omega);have z1':=(A7 (N7:=N7) (N:=N) (f:=8) rfl [.ag [k.cv,q.slice 8]] s4).trans z1;have⟨hG,hnm,hmn⟩:=XY hv (by omega) (by omega) Mok (by omega) hnb k1 k3 k4;have hK:=Zo hv (by omega) (by omega) hOb;have n4:=K4.next;have⟨s6,p1,p2,p3,p4⟩:=bJ (s:=s5) (z:=[.sn,.sn,.sn,.sn,.i .i64 0]) (cells:=k.cells) rfl k1.sc;obtain⟨r5,hr5⟩:∃r,s5.next=r:=⟨_,rfl⟩;rw[hr5]at p1 p2 p4;have v6:=Ko ((z2.trans p3).ce u2 u4 u4 (by simp) (by simp));have c6:=GZ p2;have sto:=aC tm tY (s5.aj [.sn,.sn,.sn,.sn,.i .i64 0]) r5 0 k.cells rfl;have a5:∃t,ao (au (dq 5)) (gM N7 N) t4 s4=.nx t s6/\ab t 3=.p r3 0/\ab t 5=.p r5 0/\ab t 4=.i .i64 0:=by simp[dq,au,aw,f4,b3,gC,v4.all,z1',aB,S9,hr5,sto,p1]
 have⟨t5,a5,b3,b5,b4⟩:=a5;rw[st_ 5 _ _ _ _ rfl a5];have hlen:k.gl.length=q.len:=by
  have:=congrArg List.length hnm
  rwa [Q1,fg]at this
 have⟨t6,a6,b3,b5⟩:=YP hG hK hlen hmn b3 b5 b4 v6 c6 (N:=N) (by omega);rw[st_ 6 _ _ _ _ rfl a6];have⟨t7,a7,b5⟩:=YQ hG tq (by omega) hnm b3 b5 v6 c6 (N7:=N7) (N:=N) (by omega);rw[st_ 7 _ _ _ _ rfl a7];have⟨t8,a8,b5,b7⟩:=YR hG b5 c6 (N7:=N7) (N:=N);rw[st_ 8 _ _ _ _ rfl a8];have k8:=Kp.aj (st:=s6) [] [] ((List.range k.m.ops.length).map λ_=>iN 0);have c8:=bq (st:=s6) ((List.range k.m.ops.length).map λ_=>iN 0);have n8:s6.next<(s6.aj ((List.range k.m.ops.length).map λ_=>iN 0)).next:=J6 _;have I8:mB (s6.aj ((List.range k.m.ops.length).map λ_=>iN 0)) k r5 s6.next []:=⟨⟨_,k8.ce p2 p4 p4 (by simp) (by simp)⟩,⟨_,by simpa using c8⟩,by omega,n8,by omega⟩;have⟨t9,s9,a9,b7,I9⟩:=YS hG hK b5 b7 I8 (N:=N) (by omega);rw[st_ 9 _ _ _ _ rfl a9];have⟨t10,a10⟩:=YO hG b7 I9 (N7:=N7) (N:=N) (by omega);rw[st_ 10 _ _ _ _ rfl a10];unfold vZ;simp[dq,aw,f4]
theorem YT(hv:fq cv ds)(hb:b.Ty 1)(hT:pD st)(h0:0<st.next):
  ∃st',ib prog (LT 10000000000010000000 (b.size+40000000000000000000)) (b.size+40000000000000000000) 4 [.ag [cv,b.slice 8]] st=So (.b true,st'):=by
 have⟨t,s,h1,h2⟩:=YU (st:=st) hv hb (N7:=10000000000010000000) (N:=b.size+40000000000000000000) (Q4 _) (Q4 _) hT h0;refine⟨s,?_⟩;rw[mG func4 rfl (Q5 rfl)];show fN prog f4.results.toList (ao (dq 0) _ _ _)=_
 rw[h1];simp[f4,h2]
