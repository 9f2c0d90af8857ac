/- A part of the proof. -/
import Derived.Test.YtjpheibfljmbjaaGreatDoorS20
set_option maxRecDepth 100000
set_option maxHeartbeats 4000000
open Nat renaming le_refl->Q0, lt_of_lt_of_le->Q3, le_trans->Q6, le_of_ble_eq_true->J6, ble->Z3, le_of_eq->Z7, add_mul->Z9, one_mul->V0, mul_one->V8, le_succ->V9
open List renaming mem_append->Q1, length_append->Q2, mem_cons->Q4, append_assoc->Q7, nil_append->Q8, mem_append_right->Q9, take_length->J1, getElem_mem->J3, getD->J4, mem_singleton->J5, take_append_getElem->J8, mem_cons_of_mem->Z4, eq_nil_of_length_eq_zero->Z5, drop_zero->Z6, map_append->Z8, count_append->V1, map_cons->V2, sum_cons->V3, mem_append_left->V4, contains_iff_mem->V6, mem_flatMap->V7
open Bool renaming and_eq_true->J9
open Go.Proofs.Tryz
noncomputable section
open Go.Ev
namespace Go.Proofs.YtjpheibfljmbjaaGreatDoor
variable {E x y : Ex}{N N0 i k lo lr m mn n rE rN z : Nat}{T : ah->Bool}{TL U0 gs : List ah}{W W' Y Z : List Nat}{a b s st : St}{bv fv nv v w : AV}{c : Option Self}{cells : List AV}{d new new' outs : List (List AV× Ex)}{l : ae}{q : Nat->Bool}{t : Tr AV}
structure mH(s:St)(W:List Nat)(rE rN rF:Nat)(cells:List AV)(E:Ex)(nv fv:AV)(gs fr:List ah):Prop where
 e:bA s W rE cells
 bx:Bx s W (.ag cells) E
 nn:bA s W rN [nv]
 gg:eV s W nv gs
 ff:bA s W rF [fv]
 fs:eV s W fv fr
section
variable {X : List Nat}{rF : Nat}{fr : List ah}
theorem mH.kw(h:mH a W rE rN rF cells E nv fv gs fr)(k:Kw W W' a b):mH b W' rE rN rF cells E nv fv gs fr:=⟨h.e.kw k,h.bx.kw k,h.nn.kw k,h.gg.kw k,h.ff.kw k,h.fs.kw k⟩
theorem mH.sub(h:mH a W rE rN rF cells E nv fv gs fr)(hs:∀ x,x∈X->x∈W):mH a X rE rN rF cells E nv fv gs fr:=⟨h.e.sub hs,h.bx.sub hs,h.nn.sub hs,h.gg.sub hs,h.ff.sub hs,h.fs.sub hs⟩
theorem bA.ext{r:Nat}{l:List AV}(h:bA a Y r l)(k:Kp [] [] a b)(hX:∀ x,x∈X->a.next<=x):bA b (X++Y) r l:=by
 obtain⟨g,al,e1,e2,e3,e5,e6⟩:=h;refine⟨g,al,k.ce e1 e2 e3 (by simp) (by simp),Q3 e2 k.next,Q3 e3 k.next,fun hh=>?_,fun hh=>?_⟩
 ·rcases Q1.1 hh with hh|hh
  ·have:=hX _ hh;omega
  ·exact e5 hh
 ·rcases Q1.1 hh with hh|hh
  ·have:=hX _ hh;omega
  ·exact e6 hh
theorem eV.ext{l:List ah}(h:eV a Y w l)(k:Kp [] [] a b)(hX:∀ x,x∈X->a.next<=x):eV b (X++Y) w l:=by
 rcases h with h|⟨r,f,al,q,rest,h1,h2,h3,h4,h5,h6⟩
 ·exact .inl h
 ·refine .inr ⟨r,f,al,q,rest,h1,k.ce h2 h3 h4 (by simp) (by simp),Q3 h3 k.next,Q3 h4 k.next,fun hh=>?_,fun hh=>?_⟩
  ·rcases Q1.1 hh with hh|hh
   ·have:=hX _ hh;omega
   ·exact h5 hh
  ·rcases Q1.1 hh with hh|hh
   ·have:=hX _ hh;omega
   ·exact h6 hh
theorem mH.ext(h:mH a W rE rN rF cells E nv fv gs fr)(k:Kp [] [] a b)(hX:∀ x,x∈X->a.next<=x):mH b (X++W) rE rN rF cells E nv fv gs fr :=
 ⟨h.e.ext k hX,h.bx.ext k (by simp) (by simp) hX,h.nn.ext k hX,h.gg.ext k hX,h.ff.ext k hX,h.fs.ext k hX⟩
theorem MB(hE:E.Ty)(hEs:E.size<=1000000)(h7:cells.length=7)(hgl:gs.length=(aN E).names.length)(hl:fr.length<=1000):Cw c 85 [.p rE 0,.p rN 0,.p rF 0] 4000003 (fun s=>mH s [] rE rN rF cells E nv fv gs fr) (gN (aN E).names gs fr):=
 ⟨fun s s' h k=>h.kw (.of k),fun M hM s x n0 v hJ hx hv=>by obtain⟨N,rfl⟩:∃ N,M=N+3:=⟨M-3,by omega⟩;rw[mV func85 rfl];exact SY hE hEs h7 hJ.e hJ.bx hJ.nn hJ.gg hgl hJ.ff hJ.fs hl hx hv (by omega)⟩
theorem Ts{rT mt:Nat}{to:ah->Option ah}:Cw c 90 [.p rT 0] 2000000 (fun s=>bA s [] rT [.m mt]/\cS s mt (fun y=>(to y).map .s)/\mt<s.next) (pN to):=
 ⟨fun s s' h k=>⟨h.1.keep k (by simp) (by simp),h.2.1.keep k h.2.2 (by simp),Q3 h.2.2 k.next⟩,fun M hM s x n0 v hJ hx hv=>by obtain⟨N,rfl⟩:∃ N,M=N+1:=⟨M-1,by omega⟩;rw[mV func90 rfl];exact Tm hJ.1 hJ.2.1 hJ.2.2 hx hv⟩
end
theorem Kd:∀ (x:Ex),∀ y∈cP x,∀ z∈cP y,z∈cP x:=by
 refine Ex.ind fun k nm num ps b a l hb ha hl=>?_
 intro y hy z hz;simp only[cP,Q4,Q1,AE]at hy;have key:∀ q:ae,(∀ p∈q.list,∀ y∈cP p.2,∀ z∈cP y,z∈cP p.2)->y∈(q.list.map fun p=>cP p.2).flatten->∃ p∈q.list,z∈cP p.2:=by intro q ih h;obtain⟨l',h1,h2⟩:=List.mem_flatten.1 h;obtain⟨p,h3,rfl⟩:=List.mem_map.1 h1;exact⟨p,h3,ih p h3 y h2 z hz⟩
 rcases hy with rfl|hy|hy|hy
 ·exact hz
 ·obtain⟨p,h1,h2⟩:=key b hb hy;exact ph (.inl h1) z h2
 ·obtain⟨p,h1,h2⟩:=key a ha hy;exact ph (.inr (.inl h1)) z h2
 ·obtain⟨p,h1,h2⟩:=key l hl hy;exact ph (.inr (.inr h1)) z h2
theorem IM(h:xk c N T E):∀ y∈cP (letE E),fh (aN E).names y=true->(kD y).len+(fZ c N T E).length<=33:=by
 intro y hy hc;have h1:=h.ok;rw[List.any_eq_false]at h1;have h2:=h1 y (List.mem_filter.2 ⟨hy,hc⟩);unfold fh at hc;unfold wO at h2;cases hh:hQ y with
 |none=>rw[hh]at hc;cases hc
 |some s =>rw[hh]at h2;simp only[Bool.or_eq_true,decide_eq_true_eq,not_or]at h2;omega
def eG(x:Ex):Ex:=match kD x with
 |.cons _ y _=>y
 |.nil _=>x
theorem zd(h:Wl x)(hk:x.kind=5\/x.kind=7):∃ p t,kD x=.cons p (eG x) t/\p=[]/\Wl (eG x)/\(eG x).lw<x.lw/\t.len=0/\∀ y∈cP (eG x),y∈cP x:=by
 obtain⟨k,nm,num,ps,b,a,l⟩:=x;obtain⟨hh,-,ha,-⟩:=Wl.fN.1 h;have hk:k=5\/k=7:=hk;have h1:=hh.hd.a1 (by omega);cases a with
 |nil f=>simp[ae.len]at h1
 |cons p y t =>refine⟨p,t,rfl,hh.pa (p,y) (by simp[ae.list]),ha (p,y) (by simp[ae.list]),?_,by simpa[ae.len]using h1,ph (p:=(p,y)) (.inr (.inl (by simp[ae.list])))⟩;simp only[eG,kD,Ex.lw,ae.lw];rw[if_neg (by omega)];omega
theorem DI(h:Wl E):∀ p∈(aN E).list,eO 1 p.1/\Wl p.2/\p.2.lw<=E.lw/\(∀ y∈cP p.2,y∈cP (letE E)):=by obtain⟨k,nm,num,ps,b,a,l⟩:=E;obtain⟨hh,wb,-⟩:=Wl.fN.1 h;intro p hp;refine⟨hh.pb p hp,wb p hp,?_,ph (.inl hp)⟩;have h1:=Ay hp;simp only[Ex.lw,qa];simp only[aN]at h1;omega
theorem acJ:bm prog 85=some [.mn]:=by kernel_rfl
def ve(U0:List ah)(names gs fr:List ah)(n:Nat)(x:Ex):Ex:=qW (oQ U0 n fr.length) (ba (gD x)) (fF (pN (rJ U0 n fr fr.length)) (fF (gN names gs fr) (eG x)))
def Xi(o:Out)(t:Tr AV)(s:St)(lr mn mu lo:Nat)(TL U0:List ah)(n:Nat)(outs:List (List AV× Ex))(W Z:List Nat):Prop:=∃ t' s' W',o=.nx t' s'/\(ab t' 0=ab t 0/\ab t' 3=ab t 3/\ab t' 4=ab t 4/\ab t' 5=ab t 5/\ab t' 6=ab t 6/\ab t' 7=ab t 7/\ab t' 31=ab t 31/\ab t' 32=ab t 32/\ab t' 33=ab t 33)/\Lf s' lr mn mu lo TL U0 n outs W' Z/\Kw W W' s s'
theorem acs(hE:Wl E)(hEl:E.lw<=1000000)(hfit:xk c N0 T E)(h7:cells.length=7)(hgl:gs.length=(aN E).names.length){mu:Nat}{rF:Nat}(C:mH s W rE rN rF cells E nv fv gs (fZ c N0 T E))(hL:Lf s lr mn mu lo TL U0 n outs W Z)(ho:outs.length<=1000000)(hB:cH s W bv 8 (aN E))(hi:i<(aN E).list.length)(hfr:(fZ c N0 T E).length<=32)(hp:bG (bW bX U0) n+32<1000000)
  (t0:ab t 0=.p lr 0) (t5:ab t 5=.p rF 0) (t6:ab t 6=.p rN 0) (t7:ab t 7=.f (.func 85) [] [.p rE 0,.p rN 0,.p rF 0]) (t31:ab t 31=bv) (t33:ab t 33=.i .i64 (i:Int)) (hN:10000000<=N):
  Xi (ao (eU 0) ⟨prog,Tw c (N+2),false,f54.ntmps,N+2⟩ t s) t s lr mn mu lo TL U0 (du U0 n (fZ c N0 T E).length) (outs++[([.s (gs.getD i [])],ve U0 (aN E).names gs (fZ c N0 T E) n (aN E).list[i].2)]) W Z:=by
 have hETy:=hE.1;have hEsz:E.size<=1000000:=Q6 (sI E hE) hEl;obtain⟨fr,hfre⟩:∃ fr,fZ c N0 T E=fr:=⟨_,rfl⟩;have hroom:=IM hfit;rw[hfre]at hroom C hfr|-;have hm:=J3 hi;obtain⟨hpr,hwx,hxl,hxn⟩:=DI hE _ hm;have hk5:(aN E).list[i].2.kind=5:=hfit.lam _ hm;obtain⟨p,tl,ha,hp0,hwb,hlw,htl,hnb⟩:=zd hwx (.inl hk5);subst hp0;have hil:i<(aN E).len:=by rw[ae.aC];exact hi
 have hgi:i<gs.length:=by rw[hgl,eW];exact hil
 obtain⟨x,hx⟩:∃ x,(aN E).list[i].2=x:=⟨_,rfl⟩;have hpre:eD 1+7=8:=rfl;obtain⟨a0,ix,ldx⟩:=hB.at fG kI (fun p hp=>(DI hE p hp).1.len) rfl hi;have ldi:=ldx [] [] s (.refl _ _ _) (by simp) (by simp);have w6:((aN E).list[i].1++(aN E).list[i].2.cells).length=8:=by rw[Q2,hpr.len,Ex.aO];rfl
 obtain⟨s1,w1,w2,w4,w5⟩:=cO (z:=jr) w6 (gX hpr.sc (Ex.dH hwx.1.wf));obtain⟨r9,hr9⟩:∃ r,s.next=r:=⟨_,rfl⟩;rw[hr9]at w1 w2 w5;have sto9:=aI dn cV (s.aw jr) r9 0 _ w6;rw[hx]at hwx hxl hxn hk5 ha hwb hlw hnb ldi w1 w2 w6 sto9|-;obtain⟨c9,hc9⟩:∃ c9,(aN E).list[i].1++x.cells=c9:=⟨_,rfl⟩;rw[hc9]at w1 w2 w6 sto9 ldi;have h9a:cut c9 6 1=some [(ae.cons [] (eG x) tl).slice 7]:=by obtain⟨s0,hs0⟩:=hpr;rw[<-hc9,hs0,<-ha];cases x;simp[Ex.cells,kD]
 have h9p:cut c9 4 1=some [gD x]:=by obtain⟨s0,hs0⟩:=hpr;rw[<-hc9,hs0];cases x;simp[Ex.cells,gD]
 have hps:jY (gD x):=by
  cases x with
  |mk k1 n1 m1 p1 b1 a1 l1=>exact(Wl.fN.1 hwx).1.nms
 have hpl1:1<=(ba (gD x)).length:=by
  cases x with
  |mk k1 n1 m1 p1 b1 a1 l1=>exact(Wl.fN.1 hwx).1.p1 hk5
 have hpl32:(ba (gD x)).length<=32:=by
  cases x with
  |mk k1 n1 m1 p1 b1 a1 l1=>exact(Wl.fN.1 hwx).1.hd.p32
 have z37:bm prog 37=some jr:=qj;have a0':∃ t',ao (aq (eU 0)) ⟨prog,Tw c (N+2),false,f54.ntmps,N+2⟩ t s=.nx t' s1/\(ab t' 0=ab t 0/\ab t' 3=ab t 3/\ab t' 4=ab t 4/\ab t' 5=ab t 5/\ab t' 6=ab t 6/\ab t' 7=ab t 7/\ab t' 31=ab t 31/\ab t' 32=ab t 32/\ab t' 33=ab t 33)/\ab t' 8=.i .i64 (i:Int)/\ab t' 9=.p r9 0:=by simp[eU,mv,jq,dh,aq,aj,f54,t31,t33,ix,ldi,aJ,z37,hr9,sto9,w1]
 obtain⟨ta,a0',ea,ea8,ea9⟩:=a0';rw[dw rfl a0',show aj (eU 0)=eU 1 from rfl];have n1:=w4.next;have hWl:=hL.lt;have m0:=cS.new s1;have k2:Kp [] [] s1 (s1.new (.mp [] 0)):=.new _ _ _;obtain⟨mt,hmt⟩:∃ r,s1.next=r:=⟨_,rfl⟩;obtain⟨s2,hs2⟩:∃ s2,s1.new (.mp [] 0)=s2:=⟨_,rfl⟩;have n2:s2.next=mt+1:=by rw[<-hs2,<-hmt];rfl
 rw[hs2]at m0 k2;rw[hmt]at m0;obtain⟨s3,u1,u2,u3,u4⟩:=cO (z:=[.mn]) (cells:=[.m mt]) rfl rfl;have sto10:=db VG VV (s2.aw [.mn]) s2.next 0 (.m mt) (by simp);rw[n2]at u1 u2 u4 sto10;have K3:=(w4.trans k2).trans u3;have a1:∃ t',ao (aq (eU 1)) ⟨prog,Tw c (N+2),false,f54.ntmps,N+2⟩ ta s1=.nx t' s3/\(ab t' 0=ab ta 0/\ab t' 3=ab ta 3/\ab t' 4=ab ta 4/\ab t' 5=ab ta 5/\ab t' 6=ab ta 6/\ab t' 7=ab ta 7/\ab t' 31=ab ta 31/\ab t' 32=ab ta 32/\ab t' 33=ab ta 33)/\ab t' 8=ab ta 8/\ab t' 9=ab ta 9/\ab t' 10=.p (mt+1) 0:=by simp[eU,mv,jq,dh,aq,aj,f54,hmt,hs2,aJ,acJ,n2,sto10,u1]
 obtain⟨tb,a1,eb,eb8,eb9,eb10⟩:=a1;rw[dw (cd:=eU 1) rfl a1,show aj (eU 1)=eU 2 from rfl];have a2:∃ t',ao (aq (eU 2)) ⟨prog,Tw c (N+2),false,f54.ntmps,N+2⟩ tb s3=.nx t' s3/\(ab t' 0=ab tb 0/\ab t' 3=ab tb 3/\ab t' 4=ab tb 4/\ab t' 5=ab tb 5/\ab t' 6=ab tb 6/\ab t' 7=ab tb 7/\ab t' 31=ab tb 31/\ab t' 32=ab tb 32/\ab t' 33=ab tb 33)/\ab t' 8=ab tb 8/\ab t' 9=ab tb 9/\ab t' 10=ab tb 10/\ab t' 11=.sn:=by simp[eU,mv,jq,dh,aq,aj,f54]
 obtain⟨tc,a2,ec,ec8,ec9,ec10,ec11⟩:=a2;rw[dw (cd:=eU 2) rfl a2,show aj (eU 2)=eU 3 from rfl];have L3:Lf s3 lr mn mu lo TL U0 n outs W (mt::Z):=hL.ext (X:=[mt]) K3 (by simp;omega);have C3:mH s3 (mt::W) rE rN rF cells E nv fv gs fr:=C.ext (X:=[mt]) K3 (by simp;omega);have nW:∀ y,s.next<=y->y∉W:=fun y hy hh=>by have:=hWl y hh;omega
 have h10:bA s3 (mt::W) (mt+1) [.m mt]:=⟨_,_,u2,u4,u4,by simp;exact nW _ (by omega),by simp;exact nW _ (by omega)⟩;have h9:bA s3 (mt::W) r9 c9:=⟨_,_,u3.ce (k2.ce w2 w5 w5 (by simp) (by simp)) (by omega) (by omega) (by simp) (by simp),by have:=u3.next;omega,by have:=u3.next;omega,by simp only[Q4,not_or];exact⟨by omega,nW _ (by omega)⟩,by simp only[Q4,not_or];exact⟨by omega,nW _ (by omega)⟩⟩;obtain⟨td,s4,a3,ed,⟨g,fO,fL,fK,fA⟩,fm,fml,flo⟩:=SO (c:=c) L3 C3.ff C3.fs h10 (m0.keep u3 (by omega) (by simp)) (by omega) (by rw[ec.1,eb.1,ea.1];exact t0) (by rw[ec.2.2.2.1,eb.2.2.2.1,ea.2.2.2.1];exact t5) (by rw[ec10];exact eb10) ec11 (by omega) (by omega) (N:=N+2) (by omega);rw[dw (cd:=eU 3) rfl a3,show aj (eU 3)=eU 4 from rfl];have C4:mH s4 [] rE rN rF cells E nv fv gs fr:=(C3.kw fK).sub (by simp);have h94:bA s4 [] r9 c9:=(h9.kw fK).sub (by simp);have n4:=fK.1.next;have hroom':∀ y∈cP (eG x),∀ z∈cP y,fh (aN E).names z=true->(kD z).len+fr.length<=33:=fun y hy z hz hc=>hroom z (hxn z (hnb z (Kd _ y hy z hz))) hc
 have sm1:=yt (gs:=gs) (eG x) hwb (hroom' _ (by cases eG x;simp[cP]));have l1:=sm1.lw;have z1:=sI _ hwb;have z2:=sI _ sm1.wl;obtain⟨s5,v5,k5⟩:=Jq (c:=c) (by omega) (MB hETy hEsz h7 hgl (by omega)) (eG x) hwb (by omega) (fun y hy hw=>yt y hw (hroom' y hy)) s4 (N+2) C4 (by omega);obtain⟨y1,hy1⟩:∃ y,fF (gN (aN E).names gs fr) (eG x)=y:=⟨_,rfl⟩;rw[hy1]at sm1 l1 z2 v5;obtain⟨s6,v6,k6⟩:=Jq (c:=c) (by omega) (Ts (to:=rJ U0 n fr fr.length)) y1 sm1.wl (by omega) (fun y hy hw=>Ii y hw) s5 (N+2) ⟨(fA.sub (by simp)).keep k5 (by simp) (by simp),fm.keep k5 fml (by simp),Q3 fml k5.next⟩ (by omega);have sm2:=Ii (to:=rJ U0 n fr fr.length) y1 sm1.wl;obtain⟨y2,hy2⟩:∃ y,fF (pN (rJ U0 n fr fr.length)) y1=y:=⟨_,rfl⟩;rw[hy2]at sm2 v6;obtain⟨s7,p1,p2,p3,p4⟩:=cO (s:=s6) (z:=eM) (cells:=y2.cells) (by rw[Ex.aO];rfl) (Ex.dH sm2.wl.1.wf);obtain⟨r14,hr14⟩:∃ r,s6.next=r:=⟨_,rfl⟩;rw[hr14]at p1 p2 p4;have sto14:=aI cI aH (s6.aw eM) r14 0 y2.cells (Ex.aO _);have K7:=(k5.trans k6).trans p3;have q9:rd s4 r9 6 1=some [(ae.cons [] (eG x) tl).slice 7]:=by rw[h94.rd,h9a]
 have ixb:=dV (P:=prog) underlying32 cI aH (ae.cons [] (eG x) tl).flat (tl.len+1) 0 (by omega);have hfl:(ae.cons [] (eG x) tl).flat=(eG x).cells++tl.flat:=by simp[ae.flat]
 have hsl:(ae.cons [] (eG x) tl).slice 7=.rs ((eG x).cells++tl.flat) (tl.len+1) 7:=by rw[ae.cZ (i:=0) (by simp[ae.len]),hfl];rfl
 rw[hfl]at ixb;rw[hsl]at q9;simp at ixb;have z35:bm prog 35=some eM:=qH;have e7:ab td 7=.f (.func 85) [] [.p rE 0,.p rN 0,.p rF 0]:=by rw[ed.2.2.2.2.2.1,ec.2.2.2.2.2.1,eb.2.2.2.2.2.1,ea.2.2.2.2.2.1];exact t7
 have e9:ab td 9=.p r9 0:=by rw[ed.2.2.2.2.2.2.2.2.2.2.1,ec9,eb9,ea9]
 have e10:ab td 10=.p (mt+1) 0:=by rw[ed.2.2.2.2.2.2.2.2.2.2.2,ec10,eb10]
 have a4:∃ t',ao (aq (eU 4)) ⟨prog,Tw c (N+2),false,f54.ntmps,N+2⟩ td s4=.nx t' s7/\(ab t' 0=ab td 0/\ab t' 3=ab td 3/\ab t' 4=ab td 4/\ab t' 5=ab td 5/\ab t' 6=ab td 6/\ab t' 7=ab td 7/\ab t' 31=ab td 31/\ab t' 32=ab td 32/\ab t' 33=ab td 33)/\ab t' 8=ab td 8/\ab t' 9=ab td 9/\ab t' 11=ab td 11/\ab t' 14=.p r14 0:=by simp[eU,mv,jq,dh,aq,aj,f54,e7,e9,e10,q9,ixb,aH,oS,v5,v6,aJ,z35,hr14,sto14,p1]
 obtain⟨te,a4,ee,ee8,ee9,ee11,ee14⟩:=a4;rw[dw (cd:=eU 4) rfl a4,show aj (eU 4)=eU 5 from rfl];have C7:=C4.kw (.of K7);have L7:Lf s7 lr mn mu lo TL U0 (du U0 n fr.length) outs W Z:=(fL.kp K7).sub (fun y hy=>Q9 _ (Z4 _ hy));obtain⟨ow,how⟩:∃ ow,ab td 11=ow:=⟨_,rfl⟩;rw[how]at fO ee11;have O7:=fO.put K7 (by simp) (by simp);have hol:=OI U0 n fr.length;obtain⟨tf,s8,W',r1,r2,r3,r4⟩:=aaC (c:=c) (N:=N) (t:=te) (i:=i) (c9:=c9) (body:=y2) (pl:=ba (gD x)) (own:=oQ U0 n fr.length) (psv:=gD x) (by rw[ee.1,ed.1,ec.1,eb.1,ea.1];exact t0) (by rw[ee.2.2.2.2.1,ed.2.2.2.2.1,ec.2.2.2.2.1,eb.2.2.2.2.1,ea.2.2.2.2.1];exact t6) (by rw[ee8,ed.2.2.2.2.2.2.2.2.2.1,ec8,eb8];exact ea8) (by rw[ee9];exact e9) ee11 ee14 L7 ho C7.nn C7.gg hgi (h94.keep K7 (by simp) (by simp)) h9p hps.sl.1 hpl1 (by omega) (by rw[hol];exact O7) ⟨_,_,p2,p4,p4,by simp,by simp⟩ sm2.wl.1 (by omega);have r1':ao (eU 5) ⟨prog,Tw c (N+2),false,f54.ntmps,N+2⟩ te s7=.nx tf s8:=r1;have hgd:gs.getD i []=gs[i]:=by simp[J4,hgi]
 rw[hgd];have hlb:ve U0 (aN E).names gs fr n x=qW (oQ U0 n fr.length) (ba (gD x)) y2:=by unfold ve;rw[hy1,hy2]
 rw[hlb];refine⟨tf,s8,W',r1',?_,r3,?_⟩
 ·obtain⟨A1,A2,A3,A4,A5,A6,A7,A8,A9⟩:=r2;obtain⟨B1,B2,B3,B4,B5,B6,B7,B8,B9⟩:=ee;obtain⟨D1,D2,D3,D4,D5,D6,D7,D8,D9,-⟩:=ed;obtain⟨E1,E2,E3,E4,E5,E6,E7,E8,E9⟩:=ec;obtain⟨F1,F2,F3,F4,F5,F6,F7,F8,F9⟩:=eb;obtain⟨G1,G2,G3,G4,G5,G6,G7,G8,G9⟩:=ea;exact⟨by rw[A1,B1,D1,E1,F1,G1],by rw[A2,B2,D2,E2,F2,G2],by rw[A3,B3,D3,E3,F3,G3],by rw[A4,B4,D4,E4,F4,G4],by rw[A5,B5,D5,E5,F5,G5],by rw[A6,B6,D6,E6,F6,G6],by rw[A7,B7,D7,E7,F7,G7],by rw[A8,B8,D8,E8,F8,G8],by rw[A9,B9,D9,E9,F9,G9]⟩
 ·have hmtW:∀ y,y∈mt::W->y∈W\/s.next<=y:=fun y hy=>by
   rcases Q4.1 hy with rfl|hy
   ·exact .inr (by omega)
   ·exact .inl hy
  have kk:Kp W W s s4:=ig (K3.sub (by simp) (by simp)) fK.1 hmtW hmtW;have k7:Kw W W s s7:=⟨kk.trans (K7.sub (by simp) (by simp)),fun _ h=>.inl h⟩;exact k7.trans r4
def lj(TL U0:List ah):Nat->List ah
 |0=>[]
 |k+1=>lj TL U0 k++[dI (kW (TL++lj TL U0 k) U0)]
theorem Bn(TL U0:List ah):∀ k,(lj TL U0 k).length=k
 |0=>rfl
 |k+1=>by simp[lj,Bn TL U0 k]
theorem QH(TL U0:List ah):∀ k,∀ x∈lj TL U0 k,∃ m,x=dI m/\x∉U0
 |0=>by simp[lj]
 |k+1=>by
  intro x hx;simp only[lj,Q1,J5]at hx;rcases hx with hx|rfl
  ·exact QH TL U0 k x hx
  ·exact⟨_,rfl,(NN _ _).2⟩
structure DD(s0 s:St)(lr mn mu lo lo2 n:Nat)(TL U0:List ah)(outs:List (List AV× Ex))(W Z:List Nat)(rN i:Nat):Prop where
 h:∃ nv g al,s.ce rN=some ([nv],rN,al)/\aW s lo2 1 nv i ((lj TL U0 i).map .s) g/\Lf s lr mn mu lo (TL++lj TL U0 i) U0 n outs W (g.toList++rN::Z)/\Kw (rN::W) (rN::(g.toList++W)) s0 s
 l:rN<s.next
 lo:lo2<=s.next
theorem Vd{mu:Nat}{al0:List Nat}(hL:Lf s lr mn mu lo TL U0 n outs W (rN::Z))(cN:s.ce rN=some ([.sn],rN,al0))(hNl:rN<s.next)(hE:bA s (rN::W) rE cells)(h4:cut cells 4 1=some [bv])(hb1:lenOf bv=some m)(hb2:lH bv=false)(hm:TL.length+m+U0.length<1000000)(t0:ab t 0=.p lr 0)(t3:ab t 3=.p rE 0)(t6:ab t 6=.p rN 0)(hN:4000000<=N):
  ∃ t' s',ao (aq (dh 3)) ⟨prog,Tw c N,false,f54.ntmps,N⟩ t s=.nx t' s'/\(ab t' 0=ab t 0/\ab t' 3=ab t 3/\ab t' 4=ab t 4/\ab t' 5=ab t 5/\ab t' 6=ab t 6)/\DD s s' lr mn mu lo s.next n TL U0 outs W Z rN m:=by
 obtain⟨x4,hx4⟩:∃ x,ab t 4=x:=⟨_,rfl⟩;obtain⟨x5,hx5⟩:∃ x,ab t 5=x:=⟨_,rfl⟩;have rb:rd s rE 4 1=some [bv]:=by rw[hE.rd,h4]
 have lb:=fun s:St=>aY (st:=s) underlying23 hb1 hb2
 rw[t0,t3,t6,hx4,hx5];simp[dh,aq,aj,f54,t3,rb,lb,bw];generalize hLL:bf _ _ _ _=L;obtain⟨t1,s1,rfl,u,uI⟩:=dy hLL 0 m
  (fun i t' s'=>(ab t' 0=.p lr 0/\ab t' 3=.p rE 0/\ab t' 4=x4/\ab t' 5=x5/\ab t' 6=.p rN 0)/\ab t' 20=.i .i64 (m:Int)/\ab t' 21=.i .i64 (i:Int)/\DD s s' lr mn mu lo s.next n TL U0 outs W Z rN i)
  (fun t' s'=>(ab t' 0=.p lr 0/\ab t' 3=.p rE 0/\ab t' 4=x4/\ab t' 5=x5/\ab t' 6=.p rN 0)/\DD s s' lr mn mu lo s.next n TL U0 outs W Z rN m) (by omega)
  ⟨by simp[t0,t3,t6,hx4,hx5],by simp,by simp,⟨.sn,none,_,cN,by simpa[lj]using aW.nil s s.next 1,by simpa[lj]using hL,by simpa using Kw.refl _ _⟩,hNl,Q0 _⟩
  (by
   rintro i t' s' hi ⟨⟨i0,i3,i4,i5,i6⟩,il,ii,⟨nv,g,al,iN,iO,iL,iK⟩,iNl,ilo⟩;clear hLL;have e5:(i:Int)<(m:Int):=by omega
   have e7:wr .i64 ((i:Int)+1)=((i+1:Nat):Int):=by rw[aZ (by omega) (by omega)];rfl
   have hgl:=Bn TL U0 i;obtain⟨s2,q1,q2,q3⟩:=iL.Sy (c:=c) (by rw[Q2];omega) (N:=N) (by omega);obtain⟨nm,hnm⟩:∃ nm,dI (kW (TL++lj TL U0 i) U0)=nm:=⟨_,rfl⟩;rw[hnm]at q1 q2;have hgs:lj TL U0 (i+1)=lj TL U0 i++[nm]:=by rw[<-hnm];rfl
   have hlo2:∀ y∈eK nv++g.toList,s.next<=y:=fun y hy=>(iO.rows y hy).2
   have O2:=iO.put q3.1 (fun y hy hh=>by have:=hlo2 y hy;have:=hL.lt y hh;omega) (fun y hy hh=>by have:=hlo2 y hy;have:=hL.lt y hh;omega);have rNW:rN∉W:=(iL.zw rN (by simp)).1;have n2:=q3.1.next;have N2:=q3.ce iN iNl iNl rNW rNW;obtain⟨v',g',s4,w1,w2,w3,w4⟩:=q2.QO O2 nm (by omega) (by omega);have rNg:rN∉g.toList++W:=fun hh=>by
    rcases Q1.1 hh with hh|hh
    ·have:=hlo2 rN (Q9 _ hh);omega
    ·exact rNW hh
   have N4:=w4.ce N2 (by omega) (by omega) rNg rNg;have n4:=w4.1.next;have hw:=bP N4 0 [v'] (by simp) (by rw[vB,w2.sc];rfl);rw[gZ,show over [nv] [v']=[v'] from rfl]at hw;have k5:Kp [rN] [rN] s4 (s4.ax rN [v'] rN):=.ax (by simp) (by simp);have N5:=cj rN [v'] rN (st:=s4);obtain⟨s5,hs5⟩:∃ s5,s4.ax rN [v'] rN=s5:=⟨_,rfl⟩;rw[hs5]at hw k5 N5;have sto:=db qS vX s4 rN 0 v' w2.cells;have L5:=w3.put k5 (by simp);have O5:=w2.put k5 (fun y hy hh=>by have:=(w2.rows y hy).2;simp at hh;omega) (fun y hy hh=>by have:=(w2.rows y hy).2;simp at hh;omega);have K5:Kw (rN::(g'.toList++W)) (rN::(g'.toList++W)) s4 s5:=⟨k5.sub (by simp) (by simp),fun _ h=>.inl h⟩;have r1:rd s' rN 0 1=some [nv]:=by rw[au iN];rfl
   have r2:rd s2 rN 0 1=some [nv]:=by rw[au N2];rfl
   have bo:=fun(t:Tr AV) (h:ai t (.tmp 25)=.s nm)=>gT (S:=Tw c N) (st:=s2) fM (cs:=[.s nm]) (by rw[h];simp) rfl
   have fin:DD s s5 lr mn mu lo s.next n TL U0 outs W Z rN (i+1):=by
    refine⟨⟨v',g',[rN],N5,?_,?_,((iK.trans (ko (IU q3) rN)).trans (ko w4 rN)).trans K5⟩,by have:=k5.next;omega,by have:=k5.next;omega⟩
    ·rw[hgs,Z8];exact O5
    ·rw[hgs,<-Q7];exact L5
   simp[il,ii,e5,br];rw[eJ (fl:=[(0,3)])]
   ·simp[i0,i6,ii,e7,r1,q1,bo,w1,sto,hw];exact⟨_,_,⟨rfl,rfl⟩,⟨by simp[i0],by simp[i3],by simp[i4],by simp[i5],by simp[i6]⟩,by simp[il],by simp,fin⟩
   ·kernel_rfl
   ·intro R hR;simp[i0,i6,r1,q1,bo,w1,sto,hw]at hR;subst hR;simp only[List.all_cons,List.all_nil,Bool.and_true];refine bV rfl rfl rfl (s:=s2) ?_;simp[i6,r2])
  (by rintro t' s' ⟨⟨i0,i3,i4,i5,i6⟩,il,ii,iI⟩;clear hLL;simp[il,ii];exact⟨_,_,⟨rfl,rfl⟩,⟨by simp[i0],by simp[i3],by simp[i4],by simp[i5],by simp[i6]⟩,iI⟩)
 clear hLL;exact⟨t1,s1,by simp,u,uI⟩
theorem FA(U0:List ah)(n a:Nat):∀ b,du U0 (du U0 n a) b=du U0 n (a+b)
 |0=>rfl
 |b+1=>by
  show bD _ (du U0 (du U0 n a) b)=bD _ (du U0 n (a+b))
  rw[FA U0 n a b]
def lW(U0 names gs fr:List ah)(n:Nat)(L:List (List AV× Ex))(i:Nat):List (List AV× Ex):=(List.range i).map fun j=>([.s (gs.getD j [])],ve U0 names gs fr (du U0 n (j*fr.length)) (L.getD j ([],cf [])).2)
theorem On(U0 names gs fr:List ah)(n:Nat)(L:List (List AV× Ex))(i:Nat):lW U0 names gs fr n L (i+1)=lW U0 names gs fr n L i++[([.s (gs.getD i [])],ve U0 names gs fr (du U0 n (i*fr.length)) (L.getD i ([],cf [])).2)]:=by unfold lW;rw[List.range_succ,Z8];rfl
noncomputable def ug:Code:=jq (mv (aj (aq (dh 5))))
theorem XN:aq (dh 5)=.seq (aq (aq (dh 5))) (.block 2 (.loop (.seq (aq ug) (.seq (.cond (.tmp 34) .skip (.exit 2)) (.seq (.block 3 (eU 0)) (aj (aj (aj ug)))))))):=rfl
structure Dq(s0 s:St)(t:Tr AV)(lr mn mu lo n:Nat)(TL U0:List ah)(outs:List (List AV× Ex))(W0 Z:List Nat)(rE rR rN rF:Nat)(cells:List AV)(E:Ex)(nv fv bv:AV)(gs fr:List ah)(i:Nat):Prop where
 t0:ab t 0=.p lr 0
 t3:ab t 3=.p rE 0
 t4:ab t 4=.p rR 0
 t5:ab t 5=.p rF 0
 t6:ab t 6=.p rN 0
 t7:ab t 7=.f (.func 85) [] [.p rE 0,.p rN 0,.p rF 0]
 t31:ab t 31=bv
 t32:ab t 32=.i .i64 ((aN E).len:Int)
 t33:ab t 33=.i .i64 (i:Int)
 h:∃ W,Lf s lr mn mu lo TL U0 (du U0 n (i*fr.length)) (outs++lW U0 (aN E).names gs fr n (aN E).list i) W Z/\Kw W0 W s0 s
theorem UZ(hE:Wl E)(hEl:E.lw<=1000000)(hfit:xk c N0 T E)(h7:cells.length=7)(hgl:gs.length=(aN E).names.length){mu:Nat}{rR rF:Nat}(C:mH s W rE rN rF cells E nv fv gs (fZ c N0 T E))(hL:Lf s lr mn mu lo TL U0 n outs W Z)(_:∀ y,y=rR->y∉W)(ho:outs.length+(aN E).len<=1000000)(h4:cut cells 4 1=some [bv])(hB:cH s W bv 8 (aN E))(hfr:(fZ c N0 T E).length<=32)(hp:bG (bW bX U0) n+(aN E).len*32+32<1000000)
  (t0:ab t 0=.p lr 0) (t3:ab t 3=.p rE 0) (t4:ab t 4=.p rR 0) (t5:ab t 5=.p rF 0) (t6:ab t 6=.p rN 0) (t7:ab t 7=.f (.func 85) [] [.p rE 0,.p rN 0,.p rF 0]) (hN:10000000<=N):
  ∃ t' s',ao (aq (dh 5)) ⟨prog,Tw c (N+2),false,f54.ntmps,N+2⟩ t s=.nx t' s'/\Dq s s' t' lr mn mu lo n TL U0 outs W Z rE rR rN rF cells E nv fv bv gs (fZ c N0 T E) (aN E).len:=by
 have hbl:(aN E).len<=1000000:=by omega
 have lb:=fun s:St=>hB.len fG s
 have rb:rd s rE 4 1=some [bv]:=by rw[C.e.rd,h4]
 rw[XN];have e8:∃ t',ao (aq (aq (dh 5))) ⟨prog,Tw c (N+2),false,f54.ntmps,N+2⟩ t s=.nx t' s/\Dq s s t' lr mn mu lo n TL U0 outs W Z rE rR rN rF cells E nv fv bv gs (fZ c N0 T E) 0:=by simp[dh,aq,aj,f54,t3,rb,lb];exact⟨by simp[t0],by simp[t3],by simp[t4],by simp[t5],by simp[t6],by simp[t7],by simp,by simp,by simp,W,by simpa[lW,du]using hL,.refl _ _⟩
 obtain⟨ta,e8,I0⟩:=e8;rw[yU,e8,dK,Rh,bw];generalize hLL:bf _ _ _ _=L;obtain⟨t1,s1,rfl,uI⟩:=dy hLL 2 (aN E).list.length
  (fun i t' s'=>Dq s s' t' lr mn mu lo n TL U0 outs W Z rE rR rN rF cells E nv fv bv gs (fZ c N0 T E) i)
  (fun t' s'=>Dq s s' t' lr mn mu lo n TL U0 outs W Z rE rR rN rF cells E nv fv bv gs (fZ c N0 T E) (aN E).len) (by rw[<-ae.aC];show _<N+2;omega)
  I0
  (by
   rintro i t' s' hi ⟨i0,i3,i4,i5,i6,i7,i31,i32,i33,W1,iL,iK⟩;clear hLL;have hil:i<(aN E).len:=by rw[ae.aC];exact hi
   have e5:(i:Int)<((aN E).len:Int):=by omega
   have e7:wr .i64 ((i:Int)+1)=((i+1:Nat):Int):=by rw[aZ (by omega) (by omega)];rfl
   have e9:∃ t2,ao (aq ug) ⟨prog,Tw c (N+2),false,f54.ntmps,N+2⟩ t' s'=.nx t2 s'/\ab t2 34=.b true/\(ab t2 0=.p lr 0/\ab t2 3=.p rE 0/\ab t2 4=.p rR 0/\ab t2 5=.p rF 0/\ab t2 6=.p rN 0/\ab t2 7=.f (.func 85) [] [.p rE 0,.p rN 0,.p rF 0]/\ab t2 31=bv/\ab t2 32=.i .i64 ((aN E).len:Int)/\ab t2 33=.i .i64 (i:Int)):=by simp[ug,jq,mv,dh,aq,aj,f54,i32,i33,e5,i0,i3,i4,i5,i6,i7,i31]
   obtain⟨t2,e9,e34,j0,j3,j4,j5,j6,j7,j31,j32,j33⟩:=e9;have hpp:=DF U0 n (i*(fZ c N0 T E).length);have hmul:i*(fZ c N0 T E).length<=(aN E).len*32:=Nat.mul_le_mul (by omega) hfr;have hol:(outs++lW U0 (aN E).names gs (fZ c N0 T E) n (aN E).list i).length<=1000000:=by simp[lW];omega
   obtain⟨t3',s3,W3,k1,⟨k2,k3,k4,k5,k6,k7,k31,k32,k33⟩,k8,k9⟩:=acs hE hEl hfit h7 hgl (C.kw iK) iL hol (hB.kw iK) hi hfr (by omega) j0 j5 j6 j7 j31 j33 hN;have e21:∃ t4,ao (aj (aj (aj ug))) ⟨prog,Tw c (N+2),false,f54.ntmps,N+2⟩ t3' s3=.nx t4 s3/\ab t4 33=.i .i64 ((i+1:Nat):Int)/\(ab t4 0=.p lr 0/\ab t4 3=.p rE 0/\ab t4 4=.p rR 0/\ab t4 5=.p rF 0/\ab t4 6=.p rN 0/\ab t4 7=.f (.func 85) [] [.p rE 0,.p rN 0,.p rF 0]/\ab t4 31=bv/\ab t4 32=.i .i64 ((aN E).len:Int)):=by rw[j33]at k33;simp[ug,jq,mv,dh,aq,aj,f54,k33,e7,k2,k3,k4,k5,k6,k7,k31,k32,j0,j3,j4,j5,j6,j7,j31,j32]
   obtain⟨t4',e21,l33,l0,l3,l4,l5,l6,l7,l31,l32⟩:=e21;refine⟨t4',s3,?_,l0,l3,l4,l5,l6,l7,l31,l32,l33,W3,?_,iK.trans k9⟩
   ·rw[yU,e9,dK,yU,KE];show bT (su _ _ t2 s' (ab t2 34)) _=_
    rw[e34];show ao (.seq (.block 3 (eU 0)) (aj (aj (aj ug)))) _ t2 s'=_
    rw[yU,Rh,k1,Ve,dK,e21]
   ·have hgd:((aN E).list.getD i ([],cf []))=(aN E).list[i]:=by simp[J4,hi]
    rw[On,hgd,<-Q7,Z9,V0,<-FA];exact k8)
  (by
   rintro t' s' ⟨i0,i3,i4,i5,i6,i7,i31,i32,i33,W1,iL,iK⟩;clear hLL;rw[<-ae.aC]at i33 iL;have e9:∃ t2,ao (aq ug) ⟨prog,Tw c (N+2),false,f54.ntmps,N+2⟩ t' s'=.nx t2 s'/\ab t2 34=.b false/\(ab t2 0=.p lr 0/\ab t2 3=.p rE 0/\ab t2 4=.p rR 0/\ab t2 5=.p rF 0/\ab t2 6=.p rN 0/\ab t2 7=.f (.func 85) [] [.p rE 0,.p rN 0,.p rF 0]/\ab t2 31=bv/\ab t2 32=.i .i64 ((aN E).len:Int)/\ab t2 33=.i .i64 ((aN E).len:Int)):=by simp[ug,jq,mv,dh,aq,aj,f54,i32,i33,i0,i3,i4,i5,i6,i7,i31]
   obtain⟨t2,e9,e34,j0,j3,j4,j5,j6,j7,j31,j32,j33⟩:=e9;refine⟨t2,s',?_,j0,j3,j4,j5,j6,j7,j31,j32,j33,W1,iL,iK⟩;rw[yU,e9,dK,yU,KE];show bT (su _ _ t2 s' (ab t2 34)) _=_
   rw[e34];rfl)
 clear hLL;exact⟨t1,s1,by simp,uI⟩
theorem cH.lenOf{X:List Nat}{v:AV}{z:Nat}{l:ae}(h:cH st X v z l):Go.Ev.lenOf v=some l.len/\lH v=false:=by
 rcases h with rfl|⟨h0,r,g,al,q,rfl,-⟩
 ·exact⟨l.bK z,l.bJ z⟩
 ·exact⟨rfl,rfl⟩
theorem Bx.ag{X:List Nat}{v:AV}:∀ {x:Ex},x.Ty->Bx st X v x->∃ cl bv av,v=.ag cl/\cl.length=7/\bq cl=true/\cut cl 4 1=some [bv]/\cut cl 5 1=some [av]/\cH st X bv 8 (aN x)/\cH st X av 7 (kD x)
 |.mk k nm num ps b a l,hT,⟨bv,av,lv,h1,h2,h3,h4⟩=>by simp only[Ex.Ty]at hT;exact⟨_,bv,av,h1,rfl,by simp[wK hT.2.1,h2.sc,h3.sc,h4.sc],rfl,rfl,h2,h3⟩
theorem aW.strs{l:List ah}{g:Option Nat}(h:aW st lo 1 v n (l.map .s) g)(hn:l.length=n){X:List Nat}(hX:∀ y∈eK v++g.toList,y∉X):eV st X v l:=by
 rcases h with ⟨rfl,rfl,h,-⟩|⟨r,rfl,rfl,h,-⟩|⟨r,f,al,rfl,rfl,h1,h2,h3,h4,h5,h6,h7⟩
 ·exact .inl ⟨⟨rfl,rfl,rfl,by simp⟩,by simpa using h⟩
 ·exact .inl ⟨⟨rfl,rfl,rfl,by simp⟩,by simpa using h⟩
 ·exact .inr ⟨r,f,al,none,[],by rw[hn],by rw[List.append_nil];exact h1,h6,h7,hX r (by simp[eK]),hX f (by simp[eK])⟩
theorem Pe(h:Wl E)(hk:E.kind=7):∀ y∈cP (eG E),y∈cP (letE E):=by
 obtain⟨p,t,ha,-⟩:=zd h (.inr hk);obtain⟨k,nm,num,ps,b,a,l⟩:=E;cases a with
 |nil f=>simp[kD]at ha
 |cons q y t'=>exact ph (p:=(q,y)) (.inr (.inl (by simp[ae.list])))
theorem Pm(hE:Wl E)(h:xk c N T E)(hs:E.size<=1000000):(fZ c N T E).length<=32:=by
 have h1:=QS (c:=c) N T E;have h2:=h.ne;rw[ae.aC]at h2;obtain⟨p,hp⟩:=List.exists_mem_of_length_pos (Nat.pos_of_ne_zero h2);have h3:=h.zZ p hp;have hb:(ba (gD p.2)).length<=32:=by
  have:=(DI hE p hp).2.1;cases hx:p.2 with
  |mk k1 n1 m1 p1 b1 a1 l1 =>rw[hx]at this;exact(Wl.fN.1 this).1.hd.p32
 rw[aZ (by omega) (by omega)]at h3;omega
def JU(o:Option (AV× St))(c:Option Self)(N0:Nat)(E:Ex)(st:St)(lr mn mu lo:Nat)(TL U0:List ah)(n:Nat)(outs:List (List AV× Ex))(W Z:List Nat)(fr gs:List ah):Prop :=
 ∃ s' W',o=some (.ag (fF (gN (aN E).names gs fr) (eG E)).cells,s')/\Lf s' lr mn mu lo (TL++gs) U0 (du U0 n ((aN E).len*fr.length)) (outs++lW U0 (aN E).names gs fr n (aN E).list (aN E).len) W' Z/\Kw W W' st s'
theorem YC(hE:Wl E)(hEl:E.lw≤1000000)(hN0:20000000000000000000≤N0)(hfit:xk c N0 (fun x=>decide (x ∈ TL)) E){mu:Nat}(hB:Bx st W v E)(hL:Lf st lr mn mu lo TL U0 n outs W Z)(h1:TL.length+(aN E).len+U0.length < 1000000)(h2:outs.length+(aN E).len≤1000000)(hp:bG (bW bX U0) n+(aN E).len * 32+32 < 1000000) :
  JU ((Tw c (N0+2)).call 54 [.p lr 0,v] st) c N0 E st lr mn mu lo TL U0 n outs W Z (fZ c N0 (fun x=>decide (x∈TL)) E) (lj TL U0 (aN E).len):=by
 obtain⟨N,rfl⟩:∃ N,N0=N+1:=⟨N0-1,by omega⟩;rw[dt rfl func54 rfl (J6 rfl)];unfold aV;have hEsz:E.size<=1000000:=Q6 (sI E hE) hEl;have hfr:=Pm hE hfit hEsz;obtain⟨T,hT⟩:∃ T:ah->Bool,(fun x=>decide (x∈TL))=T:=⟨_,rfl⟩;rw[hT]at hfit hfr|-;obtain⟨fr,hfre⟩:∃ fr,fZ c (N+1) T E=fr:=⟨_,rfl⟩;have hWl:=hL.lt;obtain⟨cl,bv,av,rfl,hc7,hcs,hc4,hc5,hbv,hav⟩:=hB.ag hE.1;obtain⟨s0,s1,rE,rR,hrE,hs0,hrR,hs1,cE,cR,lER,lR,lo',K1⟩:=wI st cl;have nW:∀ y,st.next<=y->y∉W:=fun y hy hh=>by have:=hWl y hh;omega
 have zz:bm prog 35=some eM:=qH;have z31:bm prog 31=some [.sn]:=H9;show JU (eE prog f54.results.toList (ao (dh 0) ⟨prog,Tw c (N+2),false,f54.ntmps,N+2⟩ (tmpsOf [.p lr 0,.ag cl] 0 .lf) st)) c (N+1) E st lr mn mu lo TL U0 n outs W Z _ _
 have a0:∃ t,ao (aq (dh 0)) ⟨prog,Tw c (N+2),false,f54.ntmps,N+2⟩ (tmpsOf [.p lr 0,.ag cl] 0 .lf) st=.nx t s1/\ab t 0=.p lr 0/\ab t 3=.p rE 0/\ab t 4=.p rR 0:=by simp[dh,aq,f54,hrE,hs0,aJ,zz,hrR,hs1]
 obtain⟨t0,a0,b0,b3,b4⟩:=a0;rw[dw rfl a0,show aj (dh 0)=dh 1 from rfl];have hB1:Bx s1 [] (.ag cl) E:=(hB.sub (by simp)).keep K1 (by simp) (by simp);obtain⟨ov,g,cs,f1,f2,f3,hW⟩:=(hL.kp K1).h;obtain⟨alr,hlr⟩:=f1.ce;have re7:rd s1 rE 0 7=some cl:=by rw[au cE,cQ,<-hc7,dD]
 obtain⟨s2,wf,g1,g2,g3⟩:=Ql hE.1 hEsz hB1 ⟨lr,alr,hlr,f1.lt.1,f1.lt.1,by simp,by simp⟩ f1.mT f1.lt.2.1 (by omega);rw[hT,hfre]at g2;have g1:(Tw c (N+2)).call 80 [.p lr 0,.ag cl] s1=some (wf,s2):=g1;have wsc:=(g2 [] (by simp)).sc;obtain⟨s3,p1,p2,p3,p4⟩:=cO (s:=s2) (z:=[.sn]) (cells:=[wf]) rfl (by rw[vB,wsc.1];rfl);obtain⟨rF,hrF⟩:∃ r,s2.next=r:=⟨_,rfl⟩;rw[hrF]at p1 p2 p4;have stoF:=db qS vX (s2.aw [.sn]) rF 0 wf wsc.2;have a1:∃ t,ao (aq (dh 1)) ⟨prog,Tw c (N+2),false,f54.ntmps,N+2⟩ t0 s1=.nx t s3/\ab t 0=.p lr 0/\ab t 3=.p rE 0/\ab t 4=.p rR 0/\ab t 5=.p rF 0:=by simp[dh,aq,aj,f54,b0,b3,b4,aH,re7,g1,aJ,z31,hrF,stoF,p1]
 obtain⟨t1,a1,d0,d3,d4,d5⟩:=a1;rw[dw (cd:=dh 1) rfl a1,show aj (dh 1)=dh 2 from rfl];have k4:Kp [] [] s3 (s3.aw [.sn]):=.aw _ _ _;have c4:=cz (st:=s3) [.sn];obtain⟨rN,hrN⟩:∃ r,s3.next=r:=⟨_,rfl⟩;obtain⟨s4,hs4⟩:∃ s4,s3.aw [.sn]=s4:=⟨_,rfl⟩;have n4:s4.next=rN+1:=by rw[<-hs4,<-hrN];rfl
 rw[hs4]at k4 c4;rw[hrN]at c4;have a2:∃ t,ao (aq (dh 2)) ⟨prog,Tw c (N+2),false,f54.ntmps,N+2⟩ t1 s3=.nx t s4/\ab t 0=.p lr 0/\ab t 3=.p rE 0/\ab t 4=.p rR 0/\ab t 5=.p rF 0/\ab t 6=.p rN 0:=by simp[dh,aq,aj,f54,d0,d3,d4,d5,aJ,z31,hrN,hs4]
 obtain⟨t2,a2,e0,e3,e4,e5,e6⟩:=a2;rw[dw (cd:=dh 2) rfl a2,show aj (dh 2)=dh 3 from rfl];have n1:=K1.next;have n2:=g3.next;have n3:=p3.next;have K24:Kp [] [] s1 s4:=(g3.trans p3).trans k4;have K4:Kp [] [] st s4:=K1.trans K24;have cE4:=K24.ce cE (by omega) (by omega) (by simp) (by simp);have cR4:=K24.ce cR lR lR (by simp) (by simp);have cF4:=k4.ce p2 p4 p4 (by simp) (by simp);have not4:∀ y,st.next<=y->y≠rN->y∉rN::W:=fun y h1 h2=>by simp only[Q4,not_or];exact⟨h2,nW y h1⟩
 have L4:Lf s4 lr mn mu lo TL U0 n outs W (rN::rR::Z):=hL.ext (X:=[rN,rR]) K4 (by simp;omega);have E4:bA s4 (rN::W) rE cl:=⟨_,_,cE4,by omega,by omega,not4 _ (by omega) (by omega),not4 _ (by omega) (by omega)⟩;have R4:jX s4 (rN::W) rR eM:=⟨_,cR4,by omega,not4 _ (by omega) (by omega)⟩;have F4:bA s4 (rN::W) rF [wf]:=⟨_,_,cF4,by omega,by omega,not4 _ (by omega) (by omega),not4 _ (by omega) (by omega)⟩;have B4:Bx s4 (rN::W) (.ag cl) E:=hB.ext (X:=[rN]) K4 (by simp) (by simp) (by simp;omega);have S4:eV s4 (rN::W) wf fr:=(g2 W (fun y hy=>by have:=hWl y hy;omega)).ext (X:=[rN]) (p3.trans k4) (by simp;omega);have bv4:=hbv.ext (X:=[rN]) K4 (by simp) (by simp) (by simp;omega);have av4:=hav.ext (X:=[rN]) K4 (by simp) (by simp) (by simp;omega);obtain⟨t3,s5,a3,u,uI⟩:=Vd (c:=c) L4 c4 (by omega) E4 hc4 hbv.lenOf.1 hbv.lenOf.2 h1 e0 e3 e6 (N:=N+2) (by omega);rw[dw (cd:=dh 3) rfl a3,show aj (dh 3)=dh 4 from rfl];obtain⟨⟨nv,gg,alN,cN,oN,L5,k5⟩,hNl,hlo5⟩:=uI;obtain⟨u0,u3,u4,u5,u6⟩:=u;rw[e0]at u0;rw[e3]at u3;rw[e4]at u4;rw[e5]at u5;rw[e6]at u6;have a4:∃ t,ao (aq (dh 4)) ⟨prog,Tw c (N+2),false,f54.ntmps,N+2⟩ t3 s5=.nx t s5/\ab t 0=.p lr 0/\ab t 3=.p rE 0/\ab t 4=.p rR 0/\ab t 5=.p rF 0/\ab t 6=.p rN 0/\ab t 7=.f (.func 85) [] [.p rE 0,.p rN 0,.p rF 0]:=by simp[dh,aq,aj,f54,u0,u3,u4,u5,u6]
 obtain⟨t4,a4,v0,v3,v4,v5,v6,v7⟩:=a4;rw[dw (cd:=dh 4) rfl a4,show aj (dh 4)=dh 5 from rfl];have hgl:=Bn TL U0 (aN E).len;obtain⟨gs,hgs⟩:∃ gs,lj TL U0 (aN E).len=gs:=⟨_,rfl⟩;rw[hgs]at oN L5 hgl|-;have subW:∀ x,x∈W->x∈rN::(gg.toList++W):=fun x hx=>by simp[hx]
 have rNW:rN∉W:=nW _ (by omega);have rRW:rR∉W:=nW _ (by omega);have C5:mH s5 W rE rN rF cl E nv wf gs fr :=
  ⟨(E4.kw k5).sub subW,(B4.kw k5).sub subW,⟨_,_,cN,hNl,hNl,rNW,rNW⟩,aW.strs oN hgl (fun y hy=>nW y (by have:=(oN.rows y hy).2;omega)),(F4.kw k5).sub subW,(S4.kw k5).sub subW⟩
 have R5:jX s5 W rR eM:=(R4.kw k5).to rRW;have L5':Lf s5 lr mn mu lo (TL++gs) U0 n outs W (rR::Z):=L5.sub (fun y hy=>Q9 _ (Z4 _ hy));rw[<-hfre]at C5;obtain⟨t5,s6,a5,⟨w0,w3,w4,w5,w6,w7,w31,w32,w33,W6,L6,k6⟩⟩:=UZ (c:=c) hE hEl hfit hc7 (by rw[hgl,eW]) C5 L5' (fun y h=>by rw[h];exact rRW) h2 hc4 ((bv4.kw k5).sub subW) hfr hp v0 v3 v4 v5 v6 v7 (N:=N) (by omega);rw[dw (cd:=dh 5) rfl a5,show aj (dh 5)=dh 6 from rfl];rw[hfre]at L6 C5 hfr|-;have C6:=(C5.kw k6).sub (X:=[]) (by simp);have R6:=R5.kw k6;obtain⟨p,tl,ha,hp0,hwb,hlw,htl,hnb⟩:=zd hE (.inr hfit.k7);subst hp0;have av6:=(((av4.kw k5).sub subW).kw k6);rw[ha]at av6;have hTa:(ae.cons [] (eG E) tl).Ty 0:=by rw[<-ha];have:=hE.1;cases E;simp only[Ex.Ty]at this;exact this.2.2.2.1
 obtain⟨aa,ixa,lda⟩:=av6.at jk qQ hTa.pre rfl (i:=0) (by simp[ae.list]);have ldb:=lda [] [] s6 (.refl _ _ _) (by simp) (by simp);simp only[ae.list,List.getElem_cons_zero,Q8]at ldb;simp at ixa;have hroom:=IM hfit;rw[hfre]at hroom;have hroom':∀ y∈cP (eG E),∀ z∈cP y,fh (aN E).names z=true->(kD z).len+fr.length<=33:=fun y hy z hz hc=>hroom z (Pe hE hfit.k7 z (Kd _ y hy z hz)) hc
 have z1:=sI _ hwb;obtain⟨s7,v7',k7⟩:=Jq (c:=c) (by omega) (MB hE.1 hEsz hc7 (by rw[hgl,eW]) (by omega)) (eG E) hwb (by omega) (fun y hy hw=>yt y hw (hroom' y hy)) s6 (N+2) C6 (by omega);have smb:=yt (gs:=gs) (eG E) hwb (hroom' _ (by cases eG E;simp[cP]));obtain⟨y,hy⟩:∃ y,fF (gN (aN E).names gs fr) (eG E)=y:=⟨_,rfl⟩;rw[hy]at v7' smb;obtain⟨alR,cR7,lR7,nR7⟩:=R6.keep k7 (by simp) (by simp);have hw:=bP cR7 0 y.cells (by rw[y.aO];exact Q0 _) (Ex.dH smb.wl.1.wf);rw[gZ,jG (by rw[y.aO];rfl)]at hw;have sto:=aI cI aH s7 rR 0 y.cells y.aO;have kR:Kp [rR] [rR] s7 (s7.ax rR y.cells rR):=.ax (by simp) (by simp);have q5:rd s6 rE 5 1=some [av]:=by rw[C6.e.rd,hc5]
 have a6:∃ t,ao (dh 6) ⟨prog,Tw c (N+2),false,f54.ntmps,N+2⟩ t5 s6=.rt t (s7.ax rR y.cells rR)/\ab t 4=.p rR 0:=by simp[dh,aj,f54,w3,w4,w7,q5,ixa,ldb,v7',sto,hw]
 obtain⟨t6,a6,z4⟩:=a6;rw[a6];have hk5:∀ y,y∈rN::W->y∈W\/st.next<=y:=fun y hy=>by
  rcases Q4.1 hy with rfl|hy
  ·exact .inr (by omega)
  ·exact .inl hy
 have kk5:Kw W W st s5:=⟨ig (K4.sub (by simp) (by simp)) k5.1 hk5 hk5,fun _ h=>.inl h⟩;have kk7:=(kk5.trans k6).trans (.of k7);refine⟨_,W6,?_,((L6.kp k7).put (X:=[rR]) kR (by simp)).sub (fun y hy=>Z4 _ hy),ig kk7.1 kR (by simp;omega) (by simp;omega),kk7.2⟩;rw[hy];exact tQ z4 (by rw[au (cj _ _ _),cQ,<-y.aO,dD])
open Classical in
def lF(U0:List ah)(n n':Nat)(s:ah):Nat:=if s∉U0/\∃ j,n<j/\j<=n'/\s=bX j then 1 else 0
open Classical in
theorem yM(U0:List ah)(h1:n<=m)(h2:m<=k)(s:ah):lF U0 n m s+lF U0 m k s<=lF U0 n k s:=by
 unfold lF;by_cases a:s∉U0/\∃ j,n<j/\j<=m/\s=bX j
 ·obtain⟨h0,j,j1,j2,j3⟩:=a;rw[if_pos ⟨h0,j,j1,j2,j3⟩,if_neg (fun⟨_,i,i1,i2,i3⟩=>by grind[Ek]),if_pos ⟨h0,j,j1,by omega,j3⟩];omega
 ·rw[if_neg a];by_cases b:s∉U0/\∃ j,m<j/\j<=k/\s=bX j
  ·obtain⟨h0,j,j1,j2,j3⟩:=b;rw[if_pos ⟨h0,j,j1,j2,j3⟩,if_pos ⟨h0,j,by omega,j2,j3⟩];omega
  grind
theorem AS(U0:List ah)(n:Nat):∀ j,n<=du U0 n j
 |0=>Q0 _
 |j+1=>by have h1:=AS U0 n j;have h2:=sW (bW bX U0) (du U0 n j);simp only[du];omega
open Classical in
theorem Ol(U0:List ah)(n:Nat)(s:ah):∀ j,(oQ U0 n j).count s<=lF U0 n (du U0 n j) s
 |0=>by simp[oQ]
 |j+1=>by
  have h1:=Ol U0 n s j;have h2:=AS U0 n j;have hg:=sW (bW bX U0) (du U0 n j);have e:du U0 n (j+1)=bD (bW bX U0) (du U0 n j):=rfl;have h3:=yM U0 h2 (show du U0 n j<=du U0 n (j+1) by omega) s;rw[PZ,V1];have h4:[bX (du U0 n (j+1))].count s<=lF U0 (du U0 n j) (du U0 n (j+1)) s:=by
   by_cases hs:s=bX (du U0 n (j+1))
   ·have hn:=AJ (bW bX U0) (du U0 n j);rw[Fa Ek,<-e]at hn;unfold lF;rw[if_pos ⟨by grind,_,by omega,Q0 _,hs⟩];grind
   grind
  omega
mutual
def _root_.Go.Ev.Ex.nb:Ex->Nat
 |.mk _ _ _ _ b a l=>b.len+(b.nb+(a.nb+l.nb))
def _root_.Go.Ev.ae.nb:ae->Nat
 |.nil _=>0
 |.cons _ x l=>x.nb+l.nb
end
def nL(L:List (List AV× Ex)):Nat:=(L.map fun p=>p.2.nb).sum
theorem Ih:∀ l:ae,l.nb=nL l.list
 |.nil _=>by simp[ae.nb,nL,ae.list]
 |.cons p x l=>by have:=Ih l;simp only[ae.nb,this,nL,ae.list,V2,V3]
theorem Jx(L M:List (List AV× Ex)):nL (L++M)=nL L+nL M:=by simp[nL]
theorem WW:∀ x:Ex,x.nb+1<=x.size:=by
 refine Ex.ind fun k nm num ps b a l hb ha hl=>?_
 have one:∀ q:ae,(∀ p∈q.list,p.2.nb+1<=p.2.size)->q.nb+q.len<=q.size:=by
  intro q h;rw[Ih,ae.size_eq,ae.aC];unfold nL;generalize q.list=L at *;induction L with
  |nil=>simp
  |cons p L ih =>grind
 grind[Ex.nb,Ex.size]
structure np(U0:List ah)(L d new:List (List AV× Ex))(n n' K:Nat):Prop where
 sk:iY L d
 cnt:∀ s,cL s d+cL s new<=cL s L+lF U0 n n' s
 lw:wL d+wL new<=wL L
 nn:n<=n'
 nw:∀ p∈new,(∃ m,p.1=[.s (dI m)]/\dI m∉U0)/\Wl p.2
 bG:bG (bW bX U0) n'<=bG (bW bX U0) n+32*K
 len:new.length<=K
structure Wk(U0:List ah)(x x':Ex)(new:List (List AV× Ex))(n n' K:Nat):Prop where
 wl:Wl x'
 atm:x.atom=true->x'.atom=true
 cnt:∀ s,x'.bM.count s+cL s new<=x.bM.count s+lF U0 n n' s
 lw:x'.lw+wL new<=x.lw
 nn:n<=n'
 nw:∀ p∈new,(∃ m,p.1=[.s (dI m)]/\dI m∉U0)/\Wl p.2
 bG:bG (bW bX U0) n'<=bG (bW bX U0) n+32*K
 len:new.length<=K
theorem np.nil(U0:List ah)(n:Nat):np U0 [] [] [] n n 0:=⟨.nil,fun s=>by simp[cL],by simp[wL],Q0 _,by simp,Q0 _,Q0 _⟩
section
variable {K K' : Nat}
theorem Bq(h1:∀ p∈new,(∃ m,p.1=[AV.s (dI m)]/\dI m∉U0)/\Wl p.2)(h2:∀ p∈new',(∃ m,p.1=[AV.s (dI m)]/\dI m∉U0)/\Wl p.2):∀ p∈new++new',(∃ m,p.1=[AV.s (dI m)]/\dI m∉U0)/\Wl p.2:=fun p hp=>by grind
theorem np.snoc{L d new new':List (List AV× Ex)}{p:List AV× Ex}{y:Ex}(h:np U0 L d new n m K)(g:Wk U0 p.2 y new' m k K'):np U0 (L++[p]) (d++[(p.1,y)]) (new++new') n k (K+K'):=by
 refine⟨h.sk.snoc rfl g.atm g.wl,fun s=>?_,?_,Q6 h.nn g.nn,Bq h.nw g.nw,?_,?_⟩
 ·have h1:=h.cnt s;have h2:=g.cnt s;have h3:=yM U0 h.nn g.nn s;simp only[zh,LK];omega
 ·have h1:=h.lw;have h2:=g.lw;simp only[EK,QY];omega
 ·have:=h.bG;have:=g.bG;omega
 ·have:=h.len;have:=g.len;grind
theorem Wk.trans{z:Ex}(h:Wk U0 x y new n m K)(g:Wk U0 y z new' m k K'):Wk U0 x z (new++new') n k (K+K'):=by
 refine⟨g.wl,fun ha=>g.atm (h.atm ha),fun s=>?_,?_,Q6 h.nn g.nn,Bq h.nw g.nw,?_,?_⟩
 ·have h1:=h.cnt s;have h2:=g.cnt s;have h3:=yM U0 h.nn g.nn s;simp only[zh];omega
 ·have h1:=h.lw;have h2:=g.lw;simp only[EK];omega
 ·have:=h.bG;have:=g.bG;omega
 ·have:=h.len;have:=g.len;grind
theorem GB(d:List (List AV× Ex)):(aX d).nf:=by cases d<;>first|rfl|trivial
theorem Wk.node{kd:Int}{nm:ah}{num:Int}{ps:AV}{b a:ae}{d1 d2 d3 w1 w2 w3:List (List AV× Ex)}{n1 n2 n3 K1 K2 K3:Nat}(h:Wl (.mk kd nm num ps b a l))(g1:np U0 b.list d1 w1 n n1 K1)(g2:np U0 a.list d2 w2 n1 n2 K2)(g3:np U0 l.list d3 w3 n2 n3 K3):
  Wk U0 (.mk kd nm num ps b a l) (.mk kd nm num ps (aX d1) (aX d2) (aX d3)) (w1++(w2++w3)) n n3 (K1+K2+K3):=by
 have s1:=g1.sk;have s2:=g2.sk;have s3:=g3.sk;rw[<-fC d1]at s1;rw[<-fC d2]at s2;rw[<-fC d3]at s3;refine⟨h.swap s1 s2 s3 ⟨GB _,GB _,GB _⟩,id,fun s=>?_,?_,Q6 g1.nn (Q6 g2.nn g3.nn),Bq g1.nw (Bq g2.nw g3.nw),?_,?_⟩
 ·have e:=NI s (k:=kd) (nm:=nm) (num:=num) (ps:=ps) (a:=a) (a':=aX d2) s1 s3;rw[fC,fC,fC]at e;have h1:=g1.cnt s;have h2:=g2.cnt s;have h3:=g3.cnt s;have f1:=yM U0 g1.nn g2.nn s;have f2:=yM U0 (Q6 g1.nn g2.nn) g3.nn s;simp only[zh];omega
 ·refine NC h s1 s2 s3 ?_;rw[fC,fC,fC];have h1:=g1.lw;have h2:=g2.lw;have h3:=g3.lw;simp only[EK];omega
 ·have:=g1.bG;have:=g2.bG;have:=g3.bG;omega
 ·have:=g1.len;have:=g2.len;have:=g3.len;grind
end
theorem YN(h:Wl x)(hk:x.kind=5):x.bM=ba (gD x)++(eG x).bM/\(eG x).lw+1<=x.lw/\1<=(ba (gD x)).length/\Wl (eG x):=by obtain⟨p,t,ha,hp,hw,hl,ht,-⟩:=zd h (.inl hk);obtain⟨k,nm,num,ps,b,a,l⟩:=x;obtain⟨hh,-⟩:=Wl.fN.1 h;have hk:k=5:=hk;obtain⟨f,rfl⟩:=lK (hh.hd.b7 (by omega));obtain⟨f,rfl⟩:=lK (hh.hd.l8 (by omega));obtain⟨f,rfl⟩:=lK ht;have ha:a=.cons p (eG (.mk k nm num ps (.nil _) a (.nil _))) (.nil f):=ha;refine⟨?_,by omega,hh.p1 hk,hw⟩;grind[Ex.bM,ae.gY,ae.bC,ae.iX,gD]
theorem Zw{own pl:List ah}(hy:Wl y)(h1:1<=pl.length)(h2:own.length+pl.length<=32):Wl (qW own pl y)/\(qW own pl y).bM=(own++pl)++y.bM/\(qW own pl y).lw=y.lw+1:=by
 have ht:ba (cG (own++pl))=own++pl:=Je (xF _);refine⟨Wl.fN.2 ⟨⟨by omega,⟨own++pl,xF _,by grind⟩,?_,by omega,fun _=>by grind,⟨rfl,trivial,rfl⟩,fun j hj=>.inl ?_,by simp[ae.list],by simp[aX,ae.list,eO],by simp[ae.list],by simp[ae.list]⟩,by simp[ae.list],by simp[aX,ae.list,hy],by simp[ae.list]⟩,?_,?_⟩
 ·rw[ht];constructor<;>simp[ae.len,aX]<;>omega
 ·simp[aX,ae.list]at hj;subst hj;unfold lD;simp
 ·unfold qW;simp[Ex.bM,ae.gY,ae.bC,ae.iX,aX,ht]
 ·simp only[qW,Ex.lw,aX,ae.lw];rw[if_neg (by omega)];omega
theorem abi(hE:Wl E)(hEl:E.lw<=1000000)(hfit:xk c N0 T E)(n:Nat)(fr gs:List ah)(hfre:fZ c N0 T E=fr)(hgs:lj TL U0 (aN E).len=gs):
  Wk U0 E (fF (gN (aN E).names gs fr) (eG E)) (lW U0 (aN E).names gs fr n (aN E).list (aN E).len) n (du U0 n ((aN E).len*fr.length)) (aN E).len:=by
 have hEsz:E.size<=1000000:=Q6 (sI E hE) hEl;have hfr:=Pm hE hfit hEsz;rw[hfre]at hfr;have hroom:=IM hfit;rw[hfre]at hroom;obtain⟨p,tl,ha,hp0,hwb,hlw,htl,hnb⟩:=zd hE (.inr hfit.k7);have smb:=yt (gs:=gs) (eG E) hwb (fun z hz hc=>hroom z (Pe hE hfit.k7 z hz) hc);have hgl:=Bn TL U0 (aN E).len;rw[hgs]at hgl;have one:∀ j (hj:j<(aN E).list.length) (m:Nat),Wl (ve U0 (aN E).names gs fr m (aN E).list[j].2)/\(ve U0 (aN E).names gs fr m (aN E).list[j].2).lw<=(aN E).list[j].2.lw/\∀ s,(ve U0 (aN E).names gs fr m (aN E).list[j].2).bM.count s<=(aN E).list[j].2.bM.count s+lF U0 m (du U0 m fr.length) s:=by
  intro j hj m;have hm:=J3 hj;obtain⟨hpr,hwx,hxl,hxn⟩:=DI hE _ hm;have hk5:=hfit.lam _ hm;have hfew:=hfit.zZ _ hm;rw[hfre]at hfew;obtain⟨x,hx⟩:∃ x,(aN E).list[j].2=x:=⟨_,rfl⟩;rw[hx]at hwx hxl hxn hk5 hfew|-;obtain⟨q1,q2,q3,q4⟩:=YN hwx hk5;have hb:(ba (gD x)).length<=32:=by
   cases x with
   |mk k1 n1 m1 p1 b1 a1 l1=>exact(Wl.fN.1 hwx).1.hd.p32
  rw[aZ (by omega) (by omega)]at hfew;obtain⟨-,-,-,-,-,-,-,hnx⟩:=zd hwx (.inl hk5);have sm1:=yt (gs:=gs) (eG x) q4 (fun z hz hc=>hroom z (hxn z (hnx z hz)) hc);have sm2:=Ii (to:=rJ U0 m fr fr.length) _ sm1.wl;have sm:=sm1.trans sm2;have hol:=OI U0 m fr.length;obtain⟨r1,r2,r3⟩:=Zw (own:=oQ U0 m fr.length) sm.wl q3 (by omega);refine⟨r1,?_,fun s=>?_⟩
  ·have:=sm.lw;show(qW _ _ _).lw<=_
   grind
  ·show(qW _ _ _).bM.count s<=_
   rw[r2,show x.bM=ba (gD x)++(eG x).bM from q1];simp only[V1];have:=sm.cnt s;have:=Ol U0 m s fr.length;omega
 have all:∀ i,i<=(aN E).len->(∀ s,cL s (lW U0 (aN E).names gs fr n (aN E).list i)<=cL s ((aN E).list.take i)+lF U0 n (du U0 n (i*fr.length)) s)/\wL (lW U0 (aN E).names gs fr n (aN E).list i)<=wL ((aN E).list.take i)/\
   ∀ p∈lW U0 (aN E).names gs fr n (aN E).list i,(∃ m,p.1=[AV.s (dI m)]/\dI m∉U0)/\Wl p.2:=by
  intro i;induction i with
  |zero=>intro _;exact⟨fun s=>by simp[lW,cL],by simp[lW,wL],by simp[lW]⟩
  |succ i ih =>
   intro hi;obtain⟨i1,i2,i3⟩:=ih (by omega);have hj:i<(aN E).list.length:=by rw[<-ae.aC];omega
   obtain⟨o1,o2,o3⟩:=one i hj (du U0 n (i*fr.length));have hgd:((aN E).list.getD i ([],cf []))=(aN E).list[i]:=by simp[J4,hj]
   rw[On,hgd,<-J8 hj];have hn1:=AS U0 n (i*fr.length);have hn2:=AS U0 (du U0 n (i*fr.length)) fr.length;refine⟨fun s=>?_,?_,Bq i3 ?_⟩
   ·have h1:=i1 s;have h2:=o3 s;have h3:=yM U0 hn1 hn2 s;rw[Z9,V0,<-FA];simp only[zh,LK];omega
   ·simp only[EK,QY];omega
   ·intro p hp;rw[J5.1 hp];refine⟨?_,o1⟩;have hg:gs.getD i []∈gs:=by
     have hgi:i<gs.length:=by omega
     simp[J4,hgi]
    obtain⟨m,h1,h2⟩:=QH TL U0 (aN E).len _ (by rw[hgs];exact hg);exact⟨m,by rw[h1],by rw[<-h1];exact h2⟩
 obtain⟨q1,q2,q3⟩:=all _ (Q0 _);rw[ae.aC,J1,<-ae.aC]at q1 q2;have hpp:=DF U0 n ((aN E).len*fr.length);have hmul:(aN E).len*fr.length<=(aN E).len*32:=Nat.mul_le_mul_left _ hfr;have shape:(∀ s,(eG E).bM.count s+cL s (aN E).list<=E.bM.count s)/\(eG E).lw+wL (aN E).list<=E.lw:=by
  obtain⟨k,nm,num,ps,b,a,l⟩:=E;have hk:k=7:=hfit.k7;have ha:a=.cons p (eG (.mk k nm num ps b a l)) tl:=ha;obtain⟨y,hy⟩:∃ y,eG (.mk k nm num ps b a l)=y:=⟨_,rfl⟩;rw[hy]at ha|-;refine⟨fun s=>?_,?_⟩
  ·rw[Bl,ha];simp only[aN,ae.list,cL,V2,V3];omega
  ·have e:(ae.cons p y tl).lw=y.lw+tl.lw:=by simp only[ae.lw]
   simp only[Ex.lw,aN];rw[if_neg (by omega),ha,e,qa b];omega
 refine⟨smb.wl,fun h=>?_,fun s=>?_,?_,AS _ _ _,q3,by omega,by simp[lW]⟩
 ·have:=hfit.k7;unfold Ex.atom at h;rw[this]at h;cases h
 ·have h1:=smb.cnt s;have h2:=q1 s;have h3:=shape.1 s;omega
 ·have h1:=smb.lw;have h3:=shape.2;omega
def EU(o:Option (AV× St))(x:Ex)(st:St)(lr mn mu lo:Nat)(TL U0:List ah)(n:Nat)(outs:List (List AV× Ex))(W Z:List Nat):Prop :=
 ∃ x' new TL' n' W' s',o=some (.ag (Ex.cells x'),s')/\Lf s' lr mn mu lo TL' U0 n' (outs++new) W' Z/\Kw W W' st s'/\Wk U0 x x' new n n' x.nb/\TL'.length<=TL.length+x.nb
def CV(l:ae)(lr mn mu lo:Nat)(TL U0:List ah)(n:Nat)(outs:List (List AV× Ex))(Zx:List Nat)(d:List (List AV× Ex))(W:List Nat)(s:St):Prop :=
 ∃ new TL' n',np U0 (l.list.take d.length) d new n n' (nL (l.list.take d.length))/\Lf s lr mn mu lo TL' U0 n' (outs++new) W Zx/\TL'.length<=TL.length+nL (l.list.take d.length)
theorem LG(L:List (List AV× Ex))(h:i<L.length):nL (L.take i)+L[i].2.nb<=nL L/\nL (L.take (i+1))=nL (L.take i)+L[i].2.nb:=by
 have e:nL (L.take (i+1))=nL (L.take i)+L[i].2.nb:=by rw[<-J8 h,Jx];simp[nL]
 have h2:=Jx (L.take (i+1)) (L.drop (i+1));rw[List.take_append_drop]at h2;omega
theorem It{X Zx:List Nat}{mu:Nat}(hX:∀ x∈X,x∈Zx)(hb:TL.length+nL l.list+U0.length<1000000)(ho:outs.length+nL l.list<=1000000)(hp:bG (bW bX U0) n+32*nL l.list+64<1000000)
  (IH:∀ p∈l.list,∀ TL' n' outs' W s,Lf s lr mn mu lo TL' U0 n' outs' W Zx->TL'.length+p.2.nb+U0.length<1000000->outs'.length+p.2.nb<=1000000->bG (bW bX U0) n'+32*p.2.nb+64<1000000->EU ((Tw c N).call 24 [.p lr 0,.ag p.2.cells] s) p.2 s lr mn mu lo TL' U0 n' outs' W Zx):
  tv l X (CV l lr mn mu lo TL U0 n outs Zx) fun y s=>(Tw c N).call 24 [.p lr 0,.ag y.cells] s:=by
 refine⟨fun d W s h=>?_,fun d W s s' h k=>?_,fun d W s h hJ=>?_⟩
 ·obtain⟨new,TL',n',h1,h2,h3⟩:=h;exact⟨h2.lt,fun y hy=>(h2.zw y (hX y hy)).1⟩
 ·obtain⟨new,TL',n',h1,h2,h3⟩:=h;exact⟨new,TL',n',h1,h2.put k hX,h3⟩
 ·obtain⟨new,TL',n',h1,h2,h3⟩:=hJ;have hm:=J3 h;obtain⟨e1,e2⟩:=LG l.list h;have hl:=h1.len;have hpp:=h1.bG;obtain⟨x',new',TL'',n'',W',s',g1,g2,g3,g4,g5⟩:=IH _ hm TL' n' (outs++new) W s h2 (by omega) (by rw[Q2];omega) (by omega);refine⟨x',s',W',g1,g4.wl.1,⟨new++new',TL'',n'',?_,by rw[<-Q7];exact g2,?_⟩,g3⟩
  ·have:(d++[(l.list[d.length].1,x')]).length=d.length+1:=by simp
   rw[this,e2,<-J8 h];exact h1.snoc g4
  ·have:(d++[(l.list[d.length].1,x')]).length=d.length+1:=by simp
   rw[this,e2];omega
section
variable {X : List Nat}
theorem eL.Fy(h:eL s X v z n (di d))(hn:d.length=n)(hY:∀ x∈X,x∉Y):cH s Y v z (aX d):=by
 rcases h with ⟨h0,rfl⟩|⟨h0,r,g,al,h1,h2,h3,h4,h5,h6⟩
 ·have:d=[]:=Z5 (by omega);rw[this];exact .inl rfl
 ·exact .inr ⟨by rw[kh];omega,r,g,al,none,by rw[kh,hn];exact h1,by rw[oy,fC];exact h2,h5,h6,hY r h3,hY g h4⟩
theorem eL.IF(h:eL s X v z n (di d))(hn:d.length=n)(hq:∀ r g l al k,v=.sl r 0 k z none->s.ce r=some (l,g,al)->g∈X->q g=true)(hT:(aX d).Ty m)(hz:eD m+7=z):ei q s v ((aX d).slice z):=by
 rcases h with ⟨h0,rfl⟩|⟨h0,r,g,al,rfl,h2,h3,h4,h5,h6⟩
 ·have:d=[]:=Z5 (by omega);rw[this];exact ei.pure rfl
 ·have hf:di d=(aX d).flat:=by rw[oy,fC]
  rw[ae.cZ (i:=0) (by rw[kh];omega),kh,hn,<-hf];refine ei.slice h2 ?_ (hq _ _ _ _ _ rfl h2 h4) (ji.pure (by rw[hf];exact ae.oF hT)) h0;have:=py hT.pre hz;rw[kh,hn,<-hf]at this;omega
end
theorem Tj{X:List Nat}(h:∀ g,q g=true->g∈X):Kp [] X s (s.lP q):=
 ⟨Q0 _,fun r _ _=>Qz s q r,fun g _ hg=>Of (by
  cases hq:q g with
  |false=>rfl
  |true=>exact absurd (h g hq) hg)⟩
theorem KN:∀ {v:AV},bg v=true->mS s v=[]
 |.sl ..,h=>by simp[bg]at h
 |.bad,_|.un,_|.b _,_|.i _ _,_|.s _,_|.p _ _,_|.pn,_|.gp _,_|.rp _,_|.sn,_|.rs _ _ _,_|.m _,_|.mn,_|.f _ _ _,_|.fn0,_|.ifc _ _,_|.if0,_|.ag _,_|.tu _,_|.c _,_|.cn,_=>rfl
theorem JX{s:St}:∀ {l:List AV},aQ l=true->l.flatMap (mS s)=[]
 |[],_=>rfl
 |v::l,h=>by simp only[aQ,J9]at h;rw[List.flatMap_cons,KN h.1,JX h.2];rfl
theorem abW{xs:List AV}{v1:AV}(hn:xs.length<=f24.ntmps)(he:aV c n f24 (f24.body.getD .skip) xs st=some (v1,s))(hz:ei (mO rj 24 st.next v1 s) s v1 v):(Tw c (n+1)).call 24 xs st=some (v,s.lP (mO rj 24 st.next v1 s)):=by
 rw[tH (.inr (by decide))];show(ic G0 jQ (ic G1 _ _)).call 24 xs st=_
 rw[l9 rfl,l9 rfl,oH rfl,oH rfl];exact Lz rfl ((zV (Rs rfl)).trans ((rQ func24 rfl hn).trans he)) hz
theorem GH{α:Type}{x:α}{A B D E:List α}(h:x∈A\/x∈B\/x∈D\/x∈E):x∈(A++(B++D))++E:=by
 simp only[Q1];rcases h with h|h|h|h
 ·exact .inl (.inl h)
 ·exact .inl (.inr (.inl h))
 ·exact .inl (.inr (.inr h))
 ·exact .inr h
def KL(o:Option (AV× St))(x:Ex)(st:St)(lr mn mu lo:Nat)(TL U0:List ah)(n:Nat)(outs:List (List AV× Ex))(W Z X:List Nat):Prop :=
 ∃ x' new TL' n' W' s' v1,o=some (v1,s')/\ei (mO rj 24 st.next v1 s') s' v1 (.ag (Ex.cells x'))/\(∀ g,mO rj 24 st.next v1 s' g=true->g∈X)/\Lf s' lr mn mu lo TL' U0 n' (outs++new) W' (X++Z)/\Kw W W' st s'/\Wk U0 x x' new n n' x.nb/\TL'.length<=TL.length+x.nb
theorem SS{mu:Nat}:∀ x:Ex,Wl x->x.lw<=1000000->∀ (TL:List ah) (n:Nat) (outs:List (List AV× Ex)) (W Z:List Nat) (st:St) (N:Nat),Lf st lr mn mu lo TL U0 n outs W Z->TL.length+x.nb+U0.length<1000000->outs.length+x.nb<=1000000->bG (bW bX U0) n+32*x.nb+64<1000000->x.size+30000000000000000000<=N->EU ((Tw c N).call 24 [.p lr 0,.ag x.cells] st) x st lr mn mu lo TL U0 n outs W Z:=by
 refine Ex.ind fun k nm num ps b a l hb ha hl=>?_
 intro hx hlw TL n outs W Z st N hL b1 b2 b3 hN;obtain⟨N,rfl⟩:∃ N',N=N'+3:=⟨N-3,by omega⟩;obtain⟨hh,wb,wa,wl⟩:=Wl.fN.1 hx;have hT:=hx.1;simp only[Ex.Ty]at hT;have hs:=sI _ hx;have hsz:(Ex.mk k nm num ps b a l).size=1+b.size+a.size+l.size:=by simp only[Ex.size]
 have bl:=b.bZ;have al:=a.bZ;have ll:=l.bZ;have hnb:(Ex.mk k nm num ps b a l).nb=b.len+(nL b.list+(nL a.list+nL l.list)):=by simp only[Ex.nb,Ih]
 have hWl:=hL.lt;have nW:∀ y,st.next<=y->y∉W:=fun y hy hh=>by have:=hWl y hh;omega
 have lws:∀ p,(p∈b.list\/p∈a.list\/p∈l.list)->Wl p.2->p.2.lw<=1000000:=by
  intro p hp hw;have hsub:p.2.size<=(Ex.mk k nm num ps b a l).size:=by
   rcases hp with h|h|h
   ·have:=ae.dU h;omega
   ·have:=ae.dU h;omega
   ·have:=ae.dU h;omega
  have key:p.2.lw<=(Ex.mk k nm num ps b a l).lw:=by
   rcases hp with h|h|h
   ·have:=Ay h;simp only[Ex.lw,qa];omega
   ·by_cases hk:k=6
    ·subst hk;obtain⟨p0,x0,t0,rfl,ht,hx0⟩:=AL hx;simp only[ae.list,Q4]at h;simp only[Ex.lw,ae.xm,if_pos];rcases h with rfl|h
     ·show x0.lw<=_
      omega
     ·have:=(Ae (ht p h).2 (ht p h).1).1;omega
    ·have:=Ay h;simp only[Ex.lw,qa,if_neg hk];omega
   ·have:=Ay h;simp only[Ex.lw,qa];omega
  omega
 suffices key:∃ X,(∀ x∈X,st.next<=x)/\KL (aV c (N+2) f24 (f24.body.getD .skip) [.p lr 0,.ag (Ex.mk k nm num ps b a l).cells] st) (.mk k nm num ps b a l) st lr mn mu lo TL U0 n outs W Z X by obtain⟨X,hX,x',new,TL',n',W',s',v1,e1,e2,e3,e4,e5,e6,e7⟩:=key;have kq:Kp [] X s' (s'.lP (mO rj 24 st.next v1 s')):=Tj e3;exact⟨x',new,TL',n',W',_,abW (J6 rfl) e1 e2,(e4.put (kq.sub (by simp) (fun _ h=>h)) (fun x hx=>V4 _ hx)).sub (fun x hx=>Q9 _ hx),⟨ig e5.1 kq (by simp) (fun x hx=>.inr (hX x hx)),e5.2⟩,e6,e7⟩
 unfold aV;obtain⟨s0,s1,rE,rR,hrE,hs0,hrR,hs1,cE,cR,lER,lR,lo',K1⟩:=wI st (Ex.mk k nm num ps b a l).cells;have zz:bm prog 35=some eM:=qH;show ∃ X,(∀ x∈X,st.next<=x)/\KL (eE prog f24.results.toList (ao (fE 0) ⟨prog,Tw c (N+2),false,f24.ntmps,N+2⟩ (tmpsOf [.p lr 0,.ag (Ex.mk k nm num ps b a l).cells] 0 .lf) st)) _ _ _ _ _ _ _ _ _ _ _ _ X
 have a0:∃ t,ao (aq (fE 0)) ⟨prog,Tw c (N+2),false,f24.ntmps,N+2⟩ (tmpsOf [.p lr 0,.ag (Ex.mk k nm num ps b a l).cells] 0 .lf) st=.nx t s1/\ab t 0=.p lr 0/\ab t 3=.p rE 0/\ab t 4=.p rR 0:=by simp[fE,aq,f24,hrE,hs0,aJ,zz,hrR,hs1]
 obtain⟨t0,a0,q0,q3,q4⟩:=a0;rw[dw rfl a0,show aj (fE 0)=fE 1 from rfl];obtain⟨t1,s2,bv,av,lv,XB,XA,XL,m1,m2,a1,⟨d0,d3,d4⟩,C⟩:=Ry (c:=c) hx (by omega) cE (by omega) q0 q3 q4 (N:=N+2) (by omega);rw[dw (cd:=fE 1) rfl a1,show aj (fE 1)=fE 2 from rfl];obtain⟨alE,c2⟩:=C.e;have n2:=C.kp.next;have n1:=K1.next;have hle:=C.le;have K2:Kp [] [] st s2:=dz K1 C.kp (by simp;omega) (by simp;omega);have cR2:=C.kp.ce cR lR lR (by simp;omega) (by simp;omega);obtain⟨ec,hec⟩:∃ ec:List AV,[AV.i .i64 k,.s nm,.i .i64 num,ps,bv,av,lv]=ec:=⟨_,rfl⟩;rw[hec]at c2;have hXn:∀ x∈XB++(XA++XL),s1.next<=x/\x<s2.next:=fun x hx=>by
  simp only[Q1]at hx;rcases hx with h|h|h
  ·have:=C.xb x h;omega
  ·have:=C.xa x h;omega
  ·have:=C.xl x h;omega
 obtain⟨X,hXX⟩:∃ X,XB++(XA++XL)++[rE,rR]=X:=⟨_,rfl⟩;have hXB:∀ x∈XB,x∈X:=fun x h=>by rw[<-hXX];exact GH (.inl h)
 have hXA:∀ x∈XA,x∈X:=fun x h=>by rw[<-hXX];exact GH (.inr (.inl h))
 have hXL:∀ x∈XL,x∈X:=fun x h=>by rw[<-hXX];exact GH (.inr (.inr (.inl h)))
 have hXE:rE∈X:=by rw[<-hXX];simp
 have hXR:rR∈X:=by rw[<-hXX];simp
 have hX1:∀ x∈X,st.next<=x/\x<s2.next:=fun x hx=>by
  rw[<-hXX]at hx;rcases Q1.1 hx with h|h
  ·have:=hXn x h;omega
  ·simp at h;omega
 have L2:Lf s2 lr mn mu lo TL U0 n outs W (X++Z):=hL.ext K2 hX1;have inZ:∀ {x},x∈X->x∈X++Z:=fun h=>V4 _ h
 have ihb:∀ q:ae,(∀ p∈q.list,p∈b.list\/p∈a.list\/p∈l.list)->(∀ p∈q.list,Wl p.2)->(∀ p∈q.list,Wl p.2->p.2.lw<=1000000->∀ (TL:List ah) (n:Nat) (outs:List (List AV× Ex)) (W Z:List Nat) (st:St) (N:Nat),Lf st lr mn mu lo TL U0 n outs W Z->TL.length+p.2.nb+U0.length<1000000->outs.length+p.2.nb<=1000000->bG (bW bX U0) n+32*p.2.nb+64<1000000->p.2.size+30000000000000000000<=N->EU ((Tw c N).call 24 [.p lr 0,.ag p.2.cells] st) p.2 st lr mn mu lo TL U0 n outs W Z)->q.size<(Ex.mk k nm num ps b a l).size->
   ∀ p∈q.list,∀ TL' n' outs' W s,Lf s lr mn mu lo TL' U0 n' outs' W (X++Z)->TL'.length+p.2.nb+U0.length<1000000->outs'.length+p.2.nb<=1000000->bG (bW bX U0) n'+32*p.2.nb+64<1000000->EU ((Tw c (N+2)).call 24 [.p lr 0,.ag p.2.cells] s) p.2 s lr mn mu lo TL' U0 n' outs' W (X++Z):=by
  intro q h1 h2 h3 h4 p hp TL' n' outs' W s g1 g2 g3 g4;have:=ae.dU hp;exact h3 p hp (h2 p hp) (lws p (h1 p hp) (h2 p hp)) TL' n' outs' W (X++Z) s (N+2) g1 g2 g3 g4 (by omega)
 have HB:=It (c:=c) (N:=N+2) (X:=XB) (Zx:=X++Z) (TL:=TL) (n:=n) (outs:=outs) (fun x h=>inZ (hXB x h)) (by omega) (by omega) (by omega) (ihb b (fun p h=>.inl h) wb hb (by omega));have LB:eQ b XB (CV b lr mn mu lo TL U0 n outs (X++Z)) W s2 rE ec bv 8 0 s2:=⟨[],W,rfl,by simp,⟨[],TL,n,by simpa[nL]using np.nil U0 n,by simpa using L2,by simp[nL]⟩,by rw[Q8,Z6,<-oy];exact C.rb,⟨alE,c2,by omega,fun hh=>by
  rcases Q1.1 hh with hh|hh
  ·have:=C.xb _ hh;omega
  ·exact nW _ (by omega) hh⟩,.refl _ _⟩
 obtain⟨t2,s3,a2,u0,u3,u4,dB,WB,uB⟩:=aaL (c:=c) HB hT.2.2.1 (by omega) (by rw[<-hec];rfl) LB d0 d3 d4 (by omega);rw[dw (cd:=fE 2) rfl a2,show aj (fE 2)=fE 3 from rfl];obtain⟨newB',TLB,nB,kB1,LB3,kB3⟩:=uB.j;rw[uB.len,J1]at kB1 kB3;have kB:=uB.kw;have n3:=kB.1.next;have oB:∀ x∈X,x∉WB:=fun x hx=>(LB3.zw x (inZ hx)).1
 have dis:∀ {x:Nat} {Y V:List Nat},x∉Y->x∉V->x∉Y++V:=fun h1 h2 hh=>(Q1.1 hh).elim h1 h2
 have AB:∀ x∈XA,x∉XB:=fun x h h'=>by have:=C.xa x h;have:=C.xb x h';omega
 have LBd:∀ x∈XL,x∉XB:=fun x h h'=>by have:=C.xl x h;have:=C.xb x h';omega
 have LAd:∀ x∈XL,x∉XA:=fun x h h'=>by have:=C.xl x h;have:=C.xa x h';omega
 have EBd:∀ {x},x<=rR->x∉XB/\x∉XA/\x∉XL:=fun h=>⟨fun h'=>by have:=C.xb _ h';omega,fun h'=>by have:=C.xa _ h';omega,fun h'=>by have:=C.xl _ h';omega⟩
 have RA3:=C.ra.kw kB (fun x h=>dis (AB x h) (nW x (hX1 x (hXA x h)).1));have RL3:=C.rl.kw kB (fun x h=>dis (LBd x h) (nW x (hX1 x (hXL x h)).1));have cR3:=kB.ce cR2 (by omega) (by omega) (dis (EBd (Q0 _)).1 (nW _ (by omega))) (dis (EBd (Q0 _)).1 (nW _ (by omega)));have lB:=kB1.len;have pB:=kB1.bG;have HA:=It (c:=c) (N:=N+2) (X:=XA) (Zx:=X++Z) (TL:=TLB) (n:=nB) (outs:=outs++newB') (fun x h=>inZ (hXA x h)) (by omega) (by rw[Q2];omega) (by omega) (ihb a (fun p h=>.inr (.inl h)) wa ha (by omega));have LA:eQ a XA (CV a lr mn mu lo TLB U0 nB (outs++newB') (X++Z)) WB s3 rE ec av 7 0 s3:=⟨[],WB,rfl,by simp,⟨[],TLB,nB,by simpa[nL]using np.nil U0 nB,by simpa using LB3,by simp[nL]⟩,by rw[Q8,Z6,<-oy];exact RA3,uB.e.to (dis (EBd (by omega)).2.1 (oB _ hXE)),.refl _ _⟩;obtain⟨t3,s4,a3,w0,w3,w4,dA,WA,uA⟩:=ab9 (c:=c) HA hT.2.2.2.1 (by omega) (by rw[<-hec];rfl) LA u0 u3 u4 (by omega);rw[dw (cd:=fE 3) rfl a3,show aj (fE 3)=fE 4 from rfl];obtain⟨newA,TLA,nA,kA1,LA4,kA3⟩:=uA.j;rw[uA.len,J1]at kA1 kA3;have kA:=uA.kw;have n4:=kA.1.next;have oA:∀ x∈X,x∉WA:=fun x hx=>(LA4.zw x (inZ hx)).1
 have RB4:=uB.all.kw kA (fun x h=>dis (fun h'=>AB x h' h) (oB x (hXB x h)));have RL4:=RL3.kw kA (fun x h=>dis (LAd x h) (oB x (hXL x h)));have cR4:=kA.ce cR3 (by omega) (by omega) (dis (EBd (Q0 _)).2.1 (oB _ hXR)) (dis (EBd (Q0 _)).2.1 (oB _ hXR));have lA:=kA1.len;have pA:=kA1.bG;have HL:=It (c:=c) (N:=N+2) (X:=XL) (Zx:=X++Z) (TL:=TLA) (n:=nA) (outs:=outs++newB'++newA) (fun x h=>inZ (hXL x h)) (by omega) (by rw[Q2,Q2];omega) (by omega) (ihb l (fun p h=>.inr (.inr h)) wl hl (by omega));have LL:eQ l XL (CV l lr mn mu lo TLA U0 nA (outs++newB'++newA) (X++Z)) WA s4 rE ec lv 11 0 s4:=⟨[],WA,rfl,by simp,⟨[],TLA,nA,by simpa[nL]using np.nil U0 nA,by simpa using LA4,by simp[nL]⟩,by rw[Q8,Z6,<-oy];exact RL4,uA.e.to (dis (EBd (by omega)).2.2 (oA _ hXE)),.refl _ _⟩;obtain⟨t4,s5,a4,x0,x3,x4,dL,WL,uL⟩:=acg (c:=c) HL hT.2.2.2.2 (by omega) (by rw[<-hec];rfl) LL w0 w3 w4 (by omega);rw[dw (cd:=fE 4) rfl a4,show aj (fE 4)=fE 5 from rfl];obtain⟨newL,TLL,nLc,kL1,LL5,kL3⟩:=uL.j;rw[uL.len,J1]at kL1 kL3;have kL:=uL.kw;have n5:=kL.1.next;have oL:∀ x∈X,x∉WL:=fun x hx=>(LL5.zw x (inZ hx)).1
 have RB5:=RB4.kw kL (fun x h=>dis (fun h'=>LBd x h' h) (oA x (hXB x h)));have RA5:=uA.all.kw kL (fun x h=>dis (fun h'=>LAd x h' h) (oA x (hXA x h)));have RL5:=uL.all;have cR5:=kL.ce cR4 (by omega) (by omega) (dis (EBd (Q0 _)).2.2 (oA _ hXR)) (dis (EBd (Q0 _)).2.2 (oA _ hXR));have lL:=kL1.len;have pL:=kL1.bG;have wk1:=Wk.node hx kB1 kA1 kL1;obtain⟨E',hE'⟩:∃ E',Ex.mk k nm num ps (aX dB) (aX dA) (aX dL)=E':=⟨_,rfl⟩;rw[hE']at wk1;have hbE:(aN E').len=b.len:=by rw[<-hE'];show(aX dB).len=_;rw[kh,uB.len,pg]
 have BE:∀ (s:St) (Y:List Nat),Kp [] [] s5 s->(∀ x∈X,x∉Y)->Bx s Y (.ag ec) E':=fun s Y kk hY=>by rw[<-hec,<-hE'];exact⟨bv,av,lv,rfl,(RB5.keep kk (by simp) (by simp)).Fy (by rw[uB.len,pg]) (fun x h=>hY x (hXB x h)),(RA5.keep kk (by simp) (by simp)).Fy (by rw[uA.len,pg]) (fun x h=>hY x (hXA x h)),(RL5.keep kk (by simp) (by simp)).Fy (by rw[uL.len,pg]) (fun x h=>hY x (hXL x h))⟩
 have hE'T:=wk1.wl.1;have hE'l:=wk1.lw;have hE's:=sI _ wk1.wl;obtain⟨ov,g,cs,f1,f2,f3,hWL⟩:=LL5.h;obtain⟨alr,hlr⟩:=f1.ce;have ec7:ec.length=7:=by rw[<-hec];rfl
 have ecs:bq ec=true:=by rw[<-hec];simp[wK hT.2.1,RB5.cells.2,RA5.cells.2,RL5.cells.2]
 have re7:rd s5 rE 0 7=some ec:=by rw[uL.e.rd,cQ,<-ec7,dD]
 obtain⟨s6,r,v6,k6,hfit⟩:=abP (c:=c) hE'T (by omega) (BE s5 [] (.refl _ _ _) (by simp)) (lr:=lr) ⟨lr,alr,hlr,f1.lt.1,f1.lt.1,by simp,by simp⟩ f1.mT f1.lt.2.1 (N:=N) (by omega);have n6:=k6.next;have L6:=LL5.kp k6;have re6:rd s6 rE 0 7=some ec:=by rw[(uL.e.keep k6 (by simp) (by simp)).rd,cQ,<-ec7,dD]
 have cR6:=k6.ce cR5 (by omega) (by omega) (by simp) (by simp);have kk2:Kw W WB st s3:=⟨ig (K2.sub (by simp) (by simp)) kB.1 (fun x hx=>by
  rcases Q1.1 hx with h|h
  ·exact .inr (hX1 x (hXB x h)).1
  ·exact .inl h) (fun x hx=>by
  rcases Q1.1 hx with h|h
  ·exact .inr (hX1 x (hXB x h)).1
  ·exact .inl h),fun y hy=>by
   rcases kB.2 y (Q9 _ hy) with h|h
   ·rcases Q1.1 h with h|h
    ·exact .inr (hX1 y (hXB y h)).1
    ·exact .inl h
   ·have:=K2.next;exact .inr (by omega)⟩
 have step:∀ {V V' Y:List Nat} {s s':St},Kw W V st s->Kw (Y++V) (Y++V') s s'->(∀ x∈Y,st.next<=x)->Kw W V' st s':=by
  intro V V' Y s s' h1 h2 hY;have hh:∀ x,x∈Y++V->x∈W\/st.next<=x:=fun x hx=>by
   rcases Q1.1 hx with h|h
   ·exact .inr (hY x h)
   ·exact h1.2 x h
  refine⟨ig h1.1 h2.1 hh hh,fun y hy=>?_⟩;rcases h2.2 y (Q9 _ hy) with h|h
  ·exact hh y h
  ·have:=h1.1.next;exact .inr (by omega)
 have kk4:=step kk2 kA (fun x h=>(hX1 x (hXA x h)).1);have kk5:=step kk4 kL (fun x h=>(hX1 x (hXL x h)).1);have kk6:=kk5.trans (.of k6);refine⟨X,fun x h=>(hX1 x h).1,?_⟩;cases r with
 |false =>
  have hw:=bP cR6 0 ec (by rw[ec7];exact Q0 _) ecs;rw[gZ,jG (by rw[ec7];rfl)]at hw;have sto:=aI cI aH s6 rR 0 ec ec7;have a5:∃ t,ao (fE 5) ⟨prog,Tw c (N+2),false,f24.ntmps,N+2⟩ t4 s5=.rt t (s6.ax rR ec rR)/\ab t 4=.p rR 0:=by simp[fE,aj,f24,x0,x3,x4,aH,re7,re6,v6,sto,hw]
  obtain⟨t5,a5,z4⟩:=a5;have kR:Kp [rR] [rR] s6 (s6.ax rR ec rR):=.ax (by simp) (by simp);have e7:rd (s6.ax rR ec rR) rR 0 7=some ec:=by rw[au (cj _ _ _),cQ,<-ec7,dD]
  obtain⟨s7,hs7⟩:∃ s7,s6.ax rR ec rR=s7:=⟨_,rfl⟩;rw[hs7]at kR e7 a5;have keep7:∀ {Y:List Nat} {v:AV} {z n:Nat} {cs:List AV},eL s5 Y v z n cs->(∀ x∈Y,x≠rR)->eL s7 Y v z n cs:=fun h hY=>(h.keep k6 (by simp) (by simp)).keep kR (fun x hx=>by simpa using hY x hx) (fun x hx=>by simpa using hY x hx)
  have RB7:=keep7 RB5 (fun x h h'=>(EBd (Z7 h')).1 h);have RA7:=keep7 RA5 (fun x h h'=>(EBd (Z7 h')).2.1 h);have RL7:=keep7 RL5 (fun x h h'=>(EBd (Z7 h')).2.2 h);have er:eE prog f24.results.toList (.rt t5 s7)=some (.ag ec,s7):=tQ z4 e7;rw[a5,er];refine⟨E',newB'++(newA++newL),TLL,nLc,WL,s7,.ag ec,rfl,?_,?_,?_,⟨ig kk6.1 kR (by simp;omega) (by simp;omega),kk6.2⟩,?_,by omega⟩
  ·have fq:∀ {v:AV},v∈ec->∀ {Y:List Nat} {z:Nat},(∀ x∈Y,x∈X)->∀ r g l al k,v=.sl r 0 k z none->s7.ce r=some (l,g,al)->g∈Y->mO rj 24 st.next (.ag ec) s7 g=true:=by
    intro v hv Y z hY r g l al k e1 e2 e3;have h1:Z3 st.next g=true:=Nat.ble_eq_true_of_le (hX1 g (hY g e3)).1;have h2:(ec.flatMap (mS s7)).contains g=true:=by rw[V6,V7];refine⟨v,hv,?_⟩;rw[e1];simp only[mS,e2,J5]
    show(Z3 st.next g&&(24 != 24||(ec.flatMap (mS s7)).contains g))=true
    rw[h1,h2];rfl
   rw[<-hE'];have hT':=hE'T;rw[<-hE']at hT';simp only[Ex.Ty]at hT';have hbm:bv∈ec:=by rw[<-hec];simp
   have ham:av∈ec:=by rw[<-hec];simp
   have hlm:lv∈ec:=by rw[<-hec];simp
   have hc:(Ex.mk k nm num ps (aX dB) (aX dA) (aX dL)).cells=[.i .i64 k,.s nm,.i .i64 num,ps,(aX dB).slice 8,(aX dA).slice 7,(aX dL).slice 11]:=by simp[Ex.cells]
   rw[hc];have z1:=RB7.IF (by rw[uB.len,pg]) (fq hbm hXB) hT'.2.2.1 rfl;have z2:=RA7.IF (by rw[uA.len,pg]) (fq ham hXA) hT'.2.2.2.1 rfl;have z3:=RL7.IF (by rw[uL.len,pg]) (fq hlm hXL) hT'.2.2.2.2 rfl;have:ei (mO rj 24 st.next (.ag ec) s7) s7 (.ag [.i .i64 k,.s nm,.i .i64 num,ps,bv,av,lv]) (.ag [.i .i64 k,.s nm,.i .i64 num,ps,(aX dB).slice 8,(aX dA).slice 7,(aX dL).slice 11]):=
    .ag (.cons (.pure rfl) (.cons (.pure rfl) (.cons (.pure rfl) (.cons (.pure hT.2.1.pure) (.cons z1 (.cons z2 (.cons z3 .nil)))))))
   rwa [hec]at this
  ·intro g hg;have hg:(Z3 st.next g&&(24 != 24||(ec.flatMap (mS s7)).contains g))=true:=hg;rw[J9]at hg;have h2:(ec.flatMap (mS s7)).contains g=true:=hg.2;rw[V6,V7,<-hec]at h2;obtain⟨v,hv,h3⟩:=h2;have one:∀ {Y:List Nat} {v:AV} {z n:Nat} {cs:List AV},eL s7 Y v z n cs->(∀ x∈Y,x∈X)->g∈mS s7 v->g∈X:=by
    intro Y v z n cs h hY hg;rcases h with ⟨-,rfl⟩|⟨-,r,g',al,rfl,h1,h2,h3,-⟩
    ·simp[mS]at hg
    ·simp only[mS,h1,J5]at hg;rw[hg];exact hY _ h3
   simp only[Q4,List.not_mem_nil,or_false]at hv;rcases hv with rfl|rfl|rfl|rfl|rfl|rfl|rfl
   ·simp[mS]at h3
   ·simp[mS]at h3
   ·simp[mS]at h3
   ·rw[KN hT.2.1.pure]at h3;cases h3
   ·exact one RB7 hXB h3
   ·exact one RA7 hXA h3
   ·exact one RL7 hXL h3
  ·rw[<-Q7,<-Q7];exact L6.put (X:=[rR]) kR (by simp;exact .inl hXR)
  ·have e:nL b.list+nL a.list+nL l.list<=(Ex.mk k nm num ps b a l).nb:=by omega
   exact⟨wk1.wl,wk1.atm,wk1.cnt,wk1.lw,wk1.nn,wk1.nw,by have:=wk1.bG;omega,by have:=wk1.len;omega⟩
 |true =>
  have hf:=hfit rfl;obtain⟨s7,W7,v7,L7,k7⟩:=YC (c:=c) wk1.wl (by omega) (N0:=N) (by omega) hf (BE s6 WL k6 oL) L6 (by rw[hbE];omega) (by rw[hbE,Q2,Q2,Q2];omega) (by rw[hbE];omega);have wk2:=abi (TL:=TLL) (U0:=U0) wk1.wl (by omega) hf nLc _ _ rfl rfl;have wk3:=wk1.trans wk2;obtain⟨gs,hgs⟩:∃ gs,lj TLL U0 (aN E').len=gs:=⟨_,rfl⟩;have hgl:=Bn TLL U0 (aN E').len;rw[hgs]at v7 L7 wk3 hgl;have hbk:(aN E').len=b.len:=hbE;obtain⟨y,hy⟩:∃ y,fF (gN (aN E').names gs (fZ c N (fun x=>decide (x∈TLL)) E')) (eG E')=y:=⟨_,rfl⟩;rw[hy]at v7 wk3;have oR:=oL _ hXR;have cR7:=k7.ce cR6 (by omega) (by omega) oR oR;have n7:=k7.1.next;have hys:bq y.cells=true:=Ex.dH wk3.wl.1.wf;have hw:=bP cR7 0 y.cells (by rw[y.aO];exact Q0 _) hys;rw[gZ,jG (by rw[y.aO];rfl)]at hw;have sto:=aI cI aH s7 rR 0 y.cells y.aO;have a5:∃ t,ao (fE 5) ⟨prog,Tw c (N+2),false,f24.ntmps,N+2⟩ t4 s5=.rt t (s7.ax rR y.cells rR)/\ab t 4=.p rR 0:=by simp[fE,aj,f24,x0,x3,x4,aH,re7,re6,v6,v7,sto,hw]
  obtain⟨t5,a5,z4⟩:=a5;have kR:Kp [rR] [rR] s7 (s7.ax rR y.cells rR):=.ax (by simp) (by simp);have e7:rd (s7.ax rR y.cells rR) rR 0 7=some y.cells:=by rw[au (cj _ _ _),cQ,<-y.aO,dD]
  obtain⟨s8,hs8⟩:∃ s8,s7.ax rR y.cells rR=s8:=⟨_,rfl⟩;rw[hs8]at kR e7 a5;have er:eE prog f24.results.toList (.rt t5 s8)=some (.ag y.cells,s8):=tQ z4 e7;rw[a5,er];have kk7:=kk6.trans k7;have hyp:aQ y.cells=true:=Ex.nX wk3.wl.1;refine⟨y,newB'++(newA++newL)++lW U0 (aN E').names gs (fZ c N (fun x=>decide (x∈TLL)) E') nLc (aN E').list (aN E').len,TLL++gs,du U0 nLc ((aN E').len*(fZ c N (fun x=>decide (x∈TLL)) E').length),W7,s8,.ag y.cells,rfl,ei.pure (by simpa[bg]using hyp),?_,?_,⟨ig kk7.1 kR (by simp;omega) (by simp;omega),kk7.2⟩,?_,by rw[Q2,hgl,hbE];omega⟩
  ·intro g hg;have hg:(Z3 st.next g&&(24 != 24||(y.cells.flatMap (mS s8)).contains g))=true:=hg;rw[JX hyp,J9]at hg;have:=hg.2;simp at this
  ·rw[<-Q7,<-Q7,<-Q7];exact L7.put (X:=[rR]) kR (by simp;exact .inl hXR)
  ·have e:nL b.list+nL a.list+nL l.list+b.len<=(Ex.mk k nm num ps b a l).nb:=by omega
   exact⟨wk3.wl,wk3.atm,wk3.cnt,wk3.lw,wk3.nn,wk3.nw,by have:=wk3.bG;omega,by have:=wk3.len;omega⟩
def ot(s:St)(X:List Nat)(w v:AV):Prop:=(w=v/\bg v=true)\/(∃ r,w=.sl r 0 0 1 (some 0)/\v=.rs [] 0 1)\/∃ r g al cs m,w=.sl r 0 m 1 none/\v=.rs cs m 1/\s.ce r=some (cs,g,al)/\m≠0/\m=cs.length/\r∉X/\g∉X/\r<s.next/\g<s.next/\aQ cs=true
section
variable {X : List Nat}
theorem ot.kw(h:ot a W w v)(k:Kw W W' a b):ot b W' w v:=by
 rcases h with h|h|⟨r,g,al,cs,m,h1,h2,h3,h4,h5,h6,h7,h8,h9,h10⟩
 ·exact .inl h
 ·exact .inr (.inl h)
 ·exact .inr (.inr ⟨r,g,al,cs,m,h1,h2,k.ce h3 h8 h9 h6 h7,h4,h5,k.out h8 h6,k.out h9 h7,Q3 h8 k.1.next,Q3 h9 k.1.next,h10⟩)
theorem ot.sub(h:ot a X w v)(hY:∀ x∈Y,x∈X):ot a Y w v:=by
 rcases h with h|h|⟨r,g,al,cs,m,h1,h2,h3,h4,h5,h6,h7,h8⟩
 ·exact .inl h
 ·exact .inr (.inl h)
 ·exact .inr (.inr ⟨r,g,al,cs,m,h1,h2,h3,h4,h5,fun hh=>h6 (hY _ hh),fun hh=>h7 (hY _ hh),h8⟩)
theorem ot.fz(h:ot s X w v):Fz 0 s w v:=by
 rcases h with ⟨rfl,h⟩|⟨r,rfl,rfl⟩|⟨r,g,al,cs,m,rfl,rfl,h3,h4,h5,h6,h7,h8,h9,h10⟩
 ·exact .pure h
 ·exact .tP
 ·exact .slice h3 (by rw[V8];exact h5) (Nat.zero_le _) (.pure h10) h4
theorem ot.sc(h:ot s X w v)(hv:bS v=true/\v.cells=some [v]):bS w=true/\w.cells=some [w]:=by
 rcases h with ⟨rfl,-⟩|⟨r,rfl,rfl⟩|⟨r,g,al,cs,m,rfl,-⟩
 ·exact hv
 ·exact⟨rfl,by simp⟩
 ·exact⟨rfl,by simp⟩
end
def Ye(o:Option (AV× St))(st:St)(v:AV):Prop:=∃ w s',o=some (w,s')/\Kp [] [] st s'/\∀ X:List Nat,(∀ x∈X,x<st.next)->ot s' X w v
theorem Ke(hv:jY v)(hl:(ba v).length<=1000000)(hN:1<=N):Ye ((Tw c N).call 59 [v] st) st v:=by
 obtain⟨N,rfl⟩:∃ N',N=N'+1:=⟨N-1,by omega⟩;rw[dt rfl func59 rfl (J6 rfl)];unfold aV;have hs:=hv.sl.1;obtain⟨l,hl'⟩:∃ l,ba v=l:=⟨_,rfl⟩;rw[hl']at hs hl;rcases hs with ⟨rfl,h⟩|rfl
 ·refine⟨.sn,st,?_,.refl _ _ _,fun X _=>.inl ⟨rfl,rfl⟩⟩;simp[f59,zk underlying31,aG,aF]
 ·have h0:aW (st.aw []) st.next 1 (.sl st.next 0 0 1 (some 0)) 0 [] none:=.inr (.inl ⟨_,rfl,rfl,rfl,rfl⟩);by_cases h1:l.length=0
  ·have:l=[]:=Z5 h1;subst this;obtain⟨v',g',s',w1,w2,w3,w4⟩:=h0.app fM (x:=.rs [] 0 1) rfl rfl rfl rfl rfl (by omega) (V9 _);refine⟨v',s',?_,dz (.aw (A:=[]) (B:=[]) (l:=[])) w3 (by simp) (by simp),fun X _=>?_⟩
   ·simp[f59,vn underlying31,vj fM,w1,aG,aF]
   ·have e:gS prog (st.aw []) [31,31] [.sl st.next 0 0 1 (some 0),.rs [] 0 1]=some (.sl st.next 0 0 1 (some 0),st.aw []):=by
     show append prog (st.aw []) [31,31] (.sl st.next 0 0 1 (some 0)) (.rs [] 0 1)=_
     unfold append;have e0:(pJ prog [31,31]&&bp prog 9&&bq [])=true:=by rw[fM.plain,jT];rfl
     have hf:firstCells (st.aw []) 1 0 (.rs [] 0 1)=some []:=rfl;have hlo:Go.Ev.lenOf (.rs [] 0 1)=some 0:=rfl;simp only[fM.el,hlo,oO,hf,e0];simp
    rw[e]at w1;cases w1;exact .inr (.inl ⟨_,rfl,by simp⟩)
  ·obtain⟨v',g',s',w1,w2,w3,w4⟩:=h0.app fM (x:=.rs (l.map .s) (l.map AV.s).length 1) (by simp;rfl) (by
    show cut (l.map AV.s) 0 (l.length*1)=_
    rw[cQ,V8,<-List.length_map,dD]) rfl (uD l) (by simp) (by omega) (V9 _)
   rw[Nat.zero_add,Q8]at w2;refine⟨v',s',?_,dz (.aw (A:=[]) (B:=[]) (l:=[])) w3 (by simp) (by simp),fun X hX=>?_⟩
   ·simp at w1;simp[f59,vn underlying31,vj fM,w1,aG,aF]
   ·rcases w2 with ⟨-,h,-⟩|⟨r,-,h,-⟩|⟨r,f,al,-,rfl,q1,q2,q3,q4,q5,q6,q7⟩
    ·exact absurd h h1
    ·exact absurd h h1
    ·exact .inr (.inr ⟨r,f,al,_,_,rfl,by simp,q1,h1,by simp,fun hh=>by have:=hX _ hh;omega,fun hh=>by have:=hX _ hh;omega,q6,q7,jD l⟩)
def mC(s:St)(X:List Nat):List AV->List (List AV× Ex)->Prop
 |cs,[]=>cs=[]
 |cs,p::L=>∃ k n m vs w rest,p.1=[.i .i64 k,.s n,.i .i64 m,vs]/\cs=.i .i64 k::.s n::.i .i64 m::w::(p.2.cells++rest)/\ot s X w vs/\bS w=true/\p.2.Ty/\mC s X rest L
section
variable {X : List Nat}
theorem mC.kw(k:Kw W W' a b):∀ {cs:List AV}{L:List (List AV× Ex)},mC a W cs L->mC b W' cs L
 |_,[],h=>h
 |_,_::_,⟨k1,n,m,vs,w,rest,h1,h2,h3,h4,h5,h6⟩=>⟨k1,n,m,vs,w,rest,h1,h2,h3.kw k,h4,h5,mC.kw k h6⟩
theorem mC.snoc{p:List AV× Ex}{k m:Int}{n:ah}{vs w:AV}(hp:p.1=[.i .i64 k,.s n,.i .i64 m,vs])(hc:ot s X w vs)(hs:bS w=true)(hT:p.2.Ty):∀ {cs:List AV}{L:List (List AV× Ex)},mC s X cs L->mC s X (cs++(.i .i64 k::.s n::.i .i64 m::w::p.2.cells)) (L++[p])
 |_,[],h=>by rw[show _=[] from h];exact⟨k,n,m,vs,w,[],hp,by simp,hc,hs,hT,rfl⟩
 |_,_::_,⟨k1,n1,m1,vs1,w1,rest,h1,h2,h3,h4,h5,h6⟩=>⟨k1,n1,m1,vs1,w1,_,h1,by rw[h2];simp,h3,h4,h5,mC.snoc hp hc hs hT h6⟩
theorem mC.fz:∀ {cs:List AV}{L:List (List AV× Ex)},mC s X cs L->fB 0 s cs (di L)
 |_,[],h=>by rw[show _=[] from h];exact .nil
 |_,p::L,⟨k1,n1,m1,vs1,w1,rest,h1,h2,h3,h4,h5,h6⟩=>by
  rw[h2,uF,h1];have h7:=mC.fz h6;have h8:∀ {l m l':List AV},aQ l=true->fB 0 s m l'->fB 0 s (l++m) (l++l'):=by
   intro l;induction l with
   |nil=>intro m l' _ h;exact h
   |cons v l ih =>intro m l' hp h;simp only[aQ,J9]at hp;exact .cons (.pure hp.1) (ih hp.2 h)
  exact .cons (.pure rfl) (.cons (.pure rfl) (.cons (.pure rfl) (.cons h3.fz (h8 (Ex.nX h5) h7))))
end
theorem ew.Df(hf:l.nf)(h:ew s lo z v l.len l.flat){X:List Nat}(hX:∀ x∈X,x<lo):cH s X v z l:=by
 obtain⟨g,h0,hO⟩:=h;by_cases hl:l.len=0
 ·obtain⟨f,rfl⟩:=lK hl;cases hf;rw[h0 hl];exact .inl rfl
 ·rcases hO with ⟨-,h,-⟩|⟨r,-,h,-⟩|⟨r,f,al,-,rfl,q1,q2,q3,q4,q5,q6,q7⟩
  ·exact absurd h hl
  ·exact absurd h hl
  ·exact .inr ⟨hl,r,f,al,none,rfl,q1,q6,q7,fun hh=>by have:=hX _ hh;omega,fun hh=>by have:=hX _ hh;omega⟩
def Uk(c:Option Self)(x:Ex):Prop:=∀ (st:St) (N:Nat),2*x.size+2000000<=N->(Tw c N).call 49 [.ag x.cells] st=some (.ag x.cells,st)
def UG(o:Option (AV× St))(st:St)(a:ae):Prop:=∃ v s',o=some (v,s')/\ew s' st.next 7 v a.len a.flat/\Kp [] [] st s'
theorem Nt(h:i<l.list.length):di (l.list.take (i+1))=di (l.list.take i)++(l.list[i].1++l.list[i].2.cells):=by rw[<-J8 h,xU];simp[di]
theorem TY{a:ae}(hT:a.Ty 0)(hs:a.size<=1000000)(IH:∀ p∈a.list,∀ st,(Tw c N).call 49 [.ag p.2.cells] st=some (.ag p.2.cells,st))(hN:2000000<=N):UG ((Tw c (N+1)).call 78 [a.slice 7,.f (.func 49) [] []] st) st a:=by
 rw[dt rfl func78 rfl (J6 rfl)];unfold aV;have hal:=a.bZ;have ln:=fun st:St=>aY (st:=st) underlying32 (a.bK 7) (a.bJ 7)
 simp[f78,ln,bw];generalize hL:bf _ _ _ _=L;obtain⟨t1,s1,rfl,u3,uK⟩:=dy hL 0 a.list.length
  (fun i t s=>ab t 1=.f (.func 49) [] []/\ab t 8=a.slice 7/\ab t 9=.i .i64 (a.len:Int)/\ab t 10=.i .i64 (i:Int)/\ew s st.next 7 (ab t 5) i (di (a.list.take i))/\Kp [] [] st s)
  (fun t s=>ew s st.next 7 (ab t 5) a.len a.flat/\Kp [] [] st s) (by rw[<-ae.aC];omega)
  ⟨by simp,by simp,by simp,by simp,⟨none,fun _=>by simp,by simpa[di]using aW.nil st st.next 7⟩,.refl _ _ _⟩
  (by
   rintro i t s hi ⟨i1,i8,il,ii,⟨g,-,iO⟩,iK⟩;clear hL;have hil:i<a.len:=by rw[ae.aC];exact hi
   have e5:(i:Int)<(a.len:Int):=by omega
   have e7:wr .i64 ((i:Int)+1)=((i+1:Nat):Int):=by rw[aZ (by omega) (by omega)];rfl
   have hmem:=J3 hi;have hTi:=ae.cU hT _ hmem;obtain⟨a0,ix,ldx⟩:=(cH.pure s [] 7 a).at jk qQ hT.pre rfl hi;have ldi:=ldx [] [] s (.refl _ _ _) (by simp) (by simp);have hp0:a.list[i].1=[]:=hTi.1;rw[hp0,Q8]at ldi;obtain⟨s2,w1,w2,w3,w4⟩:=cO (z:=eM) (by rw[Ex.aO];rfl) (Ex.dH hTi.2.wf);have sto:=aI cI aH (s.aw eM) s.next 0 a.list[i].2.cells (Ex.aO _);have rx:rd s2 s.next 0 7=some a.list[i].2.cells:=by rw[au w2,cQ,<-a.list[i].2.aO,dD]
   have cl:=IH _ hmem s2;obtain⟨va,hva⟩:∃ va,ab t 5=va:=⟨_,rfl⟩;rw[hva]at iO;have hgl:=iO.fJ;have O2:=iO.keep w3 (by simp) (by simp);obtain⟨v',g',s',y1,y2,y3,y4⟩:=O2.mc lX (Ex.dH hTi.2.wf) (Ex.aO _) (by omega) (by have:=iK.next;have:=w3.next;omega);have bo:=fun(t:Tr AV) (h:ai t (.tmp 17)=.ag a.list[i].2.cells)=>gT (S:=Tw c N) (st:=s2) lX (cs:=a.list[i].2.cells) (by rw[h];exact j9 _) (Ex.aO _)
   have ef:=Nt hi;rw[hp0,Q8]at ef;rw[<-ef]at y2;have zz:bm prog 35=some eM:=qH;simp[i1,i8,il,ii,e5,e7,ix,ldi,aJ,zz,sto,w1,hva,aH,rx,cl,bo,y1];exact⟨_,_,⟨rfl,rfl⟩,by simp[i1],by simp[i8],by simp[il],by simp,⟨g',fun h=>by omega,by simpa using y2⟩,dz (iK.trans w3) y3 (by simp) (fun x hx=>(hgl x (by simpa using hx)).1)⟩)
  (by rintro t s ⟨i1,i8,il,ii,iO,iK⟩;clear hL;rw[J1,<-oy,<-ae.aC]at iO;simp[il,ii,ae.aC];exact⟨_,_,⟨rfl,rfl⟩,by simpa[ae.aC]using iO,iK⟩)
 clear hL;exact⟨ab t1 5,s1,by simp[aG,aF],u3,uK⟩
